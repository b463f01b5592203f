/- The copying collector, in plain Lean: what the roots lead to; what the end of the copying says. No function of the program. -/
import Derived.Test.YtgjcffjicbmkhaaColS
namespace Go.Proofs.Ytgjcffjicbmkhaa.ColR
open Go Go.RowKit Go.Proofs.Ytgjcffjicbmkhaa.ArS Go.Proofs.Ytgjcffjicbmkhaa.ArT Go.Proofs.Ytgjcffjicbmkhaa.ArP Go.Proofs.Ytgjcffjicbmkhaa.ColS
set_option linter.unusedVariables false

inductive Reach (G : Gp) (rt : List Nat) : Nat → Prop
  | root (r : Nat) : r ∈ rt → Reach G rt r
  | step (i k t : Nat) : Reach G rt i → k < G.R i → G.eg i k = some t → Reach G rt t
/-- Amidst the search: D says which refs of those seen have been followed. -/
structure Seek (G : Gp) (rt : List Nat) (P : Nat → Bool) (work : List Nat) (D : Nat → Nat → Prop) : Prop where
  rt_ : ∀ r ∈ rt, P r = true ∨ r ∈ work
  cl : ∀ i k t, P i = true → k < G.R i → D i k → G.eg i k = some t → P t = true ∨ t ∈ work
  so : ∀ i, (P i = true ∨ i ∈ work) → Reach G rt i
  lt : ∀ i ∈ work, i < G.N
def all2 : Nat → Nat → Prop := fun _ _ => True
theorem Seek.done {G : Gp} {rt : List Nat} {P : Nat → Bool} (h : Seek G rt P [] all2) (i : Nat) : P i = true ↔ Reach G rt i := by
  constructor
  · intro hp; exact h.so i (.inl hp)
  · intro hr
    induction hr with
    | root r hr =>
      rcases h.rt_ r hr with h1 | h1
      · exact h1
      · cases h1
    | step i k t _ hk he ih =>
      rcases h.cl i k t ih hk trivial he with h1 | h1
      · exact h1
      · cases h1
theorem Seek.start {G : Gp} {rt : List Nat} (hlt : ∀ i ∈ rt, i < G.N) : Seek G rt (fun _ => false) rt all2 :=
  ⟨fun r hr => .inr hr, fun i k t hp => (by cases hp), fun i h => by rcases h with h | h; cases h; exact .root i h, hlt⟩
theorem Seek.pop {G : Gp} {rt : List Nat} {P : Nat → Bool} {work : List Nat} {i : Nat} (h : Seek G rt P (work ++ [i]) all2) (hp : P i = true) : Seek G rt P work all2 := by
  refine ⟨fun r hr => ?_, fun a k t ha hk hd he => ?_, fun a ha => h.so a ?_, fun a ha => h.lt a (List.mem_append_left _ ha)⟩
  · rcases h.rt_ r hr with h1 | h1
    · exact .inl h1
    · rcases List.mem_append.1 h1 with h2 | h2
      · exact .inr h2
      · rw [List.mem_singleton] at h2; subst h2; exact .inl hp
  · rcases h.cl a k t ha hk hd he with h1 | h1
    · exact .inl h1
    · rcases List.mem_append.1 h1 with h2 | h2
      · exact .inr h2
      · rw [List.mem_singleton] at h2; subst h2; exact .inl hp
  · exact ha.imp id (List.mem_append_left _)
def upP (P : Nat → Bool) (i : Nat) : Nat → Bool := fun j => if j = i then true else P j
/-- i is seen now; of its refs the first n have been followed. -/
def but (i n : Nat) : Nat → Nat → Prop := fun a k => a ≠ i ∨ k < n
theorem Seek.see {G : Gp} {rt : List Nat} {P : Nat → Bool} {work : List Nat} {i : Nat} (h : Seek G rt P (work ++ [i]) all2) (hp : P i = false) : Seek G rt (upP P i) work (but i 0) := by
  have hi : Reach G rt i := h.so i (.inr (by simp))
  refine ⟨fun r hr => ?_, fun a k t ha hk hd he => ?_, fun a ha => ?_, fun a ha => h.lt a (List.mem_append_left _ ha)⟩
  · by_cases hri : r = i
    · subst hri; exact .inl (by simp [upP])
    · rcases h.rt_ r hr with h1 | h1
      · exact .inl (by simp [upP, h1])
      · rcases List.mem_append.1 h1 with h2 | h2
        · exact .inr h2
        · rw [List.mem_singleton] at h2; exact absurd h2 hri
  · have hai : a ≠ i := by rcases hd with h1 | h1; exact h1; omega
    have ha' : P a = true := by unfold upP at ha; rwa [if_neg hai] at ha
    by_cases hti : t = i
    · subst hti; exact .inl (by simp [upP])
    · rcases h.cl a k t ha' hk trivial he with h1 | h1
      · exact .inl (by simp [upP, h1])
      · rcases List.mem_append.1 h1 with h2 | h2
        · exact .inr h2
        · rw [List.mem_singleton] at h2; exact absurd h2 hti
  · rcases ha with ha | ha
    · unfold upP at ha
      by_cases hai : a = i
      · subst hai; exact hi
      · rw [if_neg hai] at ha; exact h.so a (.inl ha)
    · exact h.so a (.inr (List.mem_append_left _ ha))
theorem Seek.skip {G : Gp} {rt : List Nat} {P : Nat → Bool} {work : List Nat} {i n : Nat} (h : Seek G rt P work (but i n)) (he : G.eg i n = none) : Seek G rt P work (but i (n + 1)) := by
  refine ⟨h.rt_, fun a k t ha hk hd he' => ?_, h.so, h.lt⟩
  by_cases hc : a = i ∧ k = n
  · obtain ⟨rfl, rfl⟩ := hc; rw [he] at he'; cases he'
  · exact h.cl a k t ha hk (by unfold but at *; omega) he'
theorem Seek.push {G : Gp} {rt : List Nat} {P : Nat → Bool} {work : List Nat} {i n t : Nat} (h : Seek G rt P work (but i n)) (hG : G.ok) (hi : P i = true) (hn : n < G.R i) (he : G.eg i n = some t) : Seek G rt P (work ++ [t]) (but i (n + 1)) := by
  refine ⟨fun r hr => (h.rt_ r hr).imp id (List.mem_append_left _), fun a k u ha hk hd he' => ?_, fun a ha => ?_, fun a ha => ?_⟩
  · by_cases hc : a = i ∧ k = n
    · obtain ⟨rfl, rfl⟩ := hc; rw [he] at he'; obtain rfl := Option.some.inj he'; exact .inr (by simp)
    · exact (h.cl a k u ha hk (by unfold but at *; omega) he').imp id (List.mem_append_left _)
  · rcases ha with ha | ha
    · exact h.so a (.inl ha)
    · rcases List.mem_append.1 ha with h2 | h2
      · exact h.so a (.inr h2)
      · rw [List.mem_singleton] at h2; subst h2; exact .step i n a (h.so i (.inl hi)) hn he
  · rcases List.mem_append.1 ha with h2 | h2
    · exact h.lt a h2
    · rw [List.mem_singleton] at h2; subst h2; exact hG.e1 _ _ _ he
theorem Seek.full {G : Gp} {rt : List Nat} {P : Nat → Bool} {work : List Nat} {i : Nat} (h : Seek G rt P work (but i (G.R i))) : Seek G rt P work all2 :=
  ⟨h.rt_, fun a k t ha hk _ he => h.cl a k t ha hk (by unfold but; by_cases hai : a = i; subst hai; exact .inr hk; exact .inl hai) he, h.so, h.lt⟩

/-! ### the copying -/
/-- What has been copied, in this order. -/
structure Cop (G : Gp) (rt : List Nat) (o : List Nat) : Prop where
  nd : o.Nodup
  lt : ∀ i ∈ o, i < G.N
  so : ∀ i ∈ o, Reach G rt i
theorem Cop.nil (G : Gp) (rt : List Nat) : Cop G rt [] := ⟨List.nodup_nil, fun _ h => (by cases h), fun _ h => (by cases h)⟩
theorem Cop.add {G : Gp} {rt o : List Nat} (h : Cop G rt o) {t : Nat} (ht : t ∉ o) (htN : t < G.N) (hr : Reach G rt t) : Cop G rt (o ++ [t]) := by
  refine ⟨?_, fun i hi => ?_, fun i hi => ?_⟩
  · rw [List.nodup_append]
    exact ⟨h.nd, by simp, fun a ha b hb => by rw [List.mem_singleton] at hb; subst hb; rintro rfl; exact ht ha⟩
  · rcases List.mem_append.1 hi with h1 | h1
    · exact h.lt i h1
    · rw [List.mem_singleton] at h1; subst h1; exact htN
  · rcases List.mem_append.1 hi with h1 | h1
    · exact h.so i h1
    · rw [List.mem_singleton] at h1; subst h1; exact hr
/-- All is copied: the copies are what the roots lead to. -/
theorem Cop.whole {G : Gp} {rt o : List Nat} (h : Cop G rt o) (hr : ∀ r ∈ rt, r ∈ o) (hI : G.inv o o.length 0) (i : Nat) : i ∈ o ↔ Reach G rt i := by
  constructor
  · exact h.so i
  · intro hi
    induction hi with
    | root r h1 => exact hr r h1
    | step i k t _ hk he ih =>
      have hx := List.idxOf_lt_length_iff.2 ih
      have hat := ordAt_idx ih
      exact hI (o.idxOf i) k t hx (by rw [hat]; exact hk) (.inl hx) (by rw [hat]; exact he)
theorem Cop.size {G : Gp} {rt o : List Nat} (h : Cop G rt o) (hr : ∀ r ∈ rt, r ∈ o) (hI : G.inv o o.length 0) {P : Nat → Bool} (hP : ∀ i, P i = true ↔ Reach G rt i) : G.pb o o.length = 1 + G.tot P G.N := by
  rw [G.pb_tot o h.nd h.lt, G.tot_congr (P := fun i => decide (i ∈ o)) (Q := P) (fun i _ => ?_)]
  rw [Bool.eq_iff_iff, decide_eq_true_iff, h.whole hr hI, hP]
theorem Cop.fits {G : Gp} {rt o : List Nat} (h : Cop G rt o) {t : Nat} (ht : t ∉ o) (htN : t < G.N) (hr : Reach G rt t) {P : Nat → Bool} (hP : ∀ i, P i = true ↔ Reach G rt i) : G.pb o o.length + (1 + G.len t) ≤ 1 + G.tot P G.N := by
  have h2 := h.add ht htN hr
  have h3 := G.pb_tot _ h2.nd h2.lt
  have h4 : G.pb (o ++ [t]) (o ++ [t]).length = G.pb o o.length + (1 + G.len t) := by
    rw [List.length_append, List.length_singleton]
    show plf _ (o.length + 1) = _
    unfold plf
    rw [ordAt_last]
    show G.pb (o ++ [t]) o.length + _ = _
    rw [G.pb_app o t (Nat.le_refl _)]
  have h5 : G.tot (fun i => decide (i ∈ o ++ [t])) G.N ≤ G.tot P G.N := G.tot_mono fun i _ hi => (hP i).2 (h2.so i (of_decide_eq_true hi))
  omega
end Go.Proofs.Ytgjcffjicbmkhaa.ColR
