/- Layer 8: lists of lists in memory, each block with one owner. O says how often a block is owned. No function of the program. -/
import Derived.Test.YtfdkcnbkoagmiaaGenN
namespace Go.Proofs.Ytfdkcnbkoagmiaa.OwnL
open Go Go.RowKit Go.Proofs.YtfdkcnbkoagmiaaW.PrintWords Go.Proofs.YtfdkcnbkoagmiaaW.PrintLast Go.Proofs.YtfdkcnbkoagmiaaW.PrintMore Go.Proofs.Ytfdkcnbkoagmiaa.RowU Go.Proofs.Ytfdkcnbkoagmiaa.ArS Go.Proofs.Ytfdkcnbkoagmiaa.ArM Go.Proofs.Ytfdkcnbkoagmiaa.GenM Go.Proofs.Ytfdkcnbkoagmiaa.GenN
set_option linter.unusedVariables false
set_option maxRecDepth 100000

/-- Does the value own the block? -/
def oc (v : Value) (a : Nat) : Nat := if v.ownBlock = some a then 1 else 0
theorem oc_none (n c a : Nat) : oc (.slice none n c) a = 0 := rfl
theorem oc_ne {v : Value} {a : Nat} (h : oc v a ≠ 0) : v.ownBlock = some a := by
  unfold oc at h
  split at h
  · assumption
  · exact absurd rfl h
theorem oc_le (v : Value) (a : Nat) : oc v a ≤ 1 := by unfold oc; split <;> omega
abbrev Rel (α : Type) : Type := World → Value → α → (Nat → Nat) → Prop
structure Fit {α : Type} (R : Rel α) : Prop where
  upd : ∀ {w w' : World} {v : Value} {x : α} {O : Nat → Nat} {S : Nat → Prop}, R w v x O → Upd S w w' → (∀ a, O a ≠ 0 → ¬ S a) → R w' v x O
  lt : ∀ {w : World} {v : Value} {x : α} {O : Nat → Nat} {a : Nat}, R w v x O → O a ≠ 0 → a < w.heap.size
  one : ∀ {w : World} {v : Value} {x : α} {O : Nat → Nat}, R w v x O → v.oneCell' = true
/-- Values, what each says, who owns. -/
def El {α : Type} (R : Rel α) (w : World) : List Value → List α → (Nat → Nat) → Prop
  | [], [], O => ∀ a, O a = 0
  | v :: vs, x :: xs, O => ∃ O1 O2, R w v x O1 ∧ El R w vs xs O2 ∧ ∀ a, O a = O1 a + O2 a
  | _, _, _ => False
variable {α : Type} {R : Rel α}
theorem El.len : ∀ {w : World} {vs : List Value} {xs : List α} {O : Nat → Nat}, El R w vs xs O → vs.length = xs.length := by
  intro w vs
  induction vs with
  | nil => intro xs O h; cases xs with
    | nil => rfl
    | cons x xs => exact h.elim
  | cons v vs ih => intro xs O h; cases xs with
    | nil => exact h.elim
    | cons x xs => obtain ⟨O1, O2, _, h2, _⟩ := h; simp [ih h2]
theorem El.upd (hF : Fit R) : ∀ {w w' : World} {vs : List Value} {xs : List α} {O : Nat → Nat} {S : Nat → Prop}, El R w vs xs O → Upd S w w' → (∀ a, O a ≠ 0 → ¬ S a) → El R w' vs xs O := by
  intro w w' vs
  induction vs with
  | nil => intro xs O S h _ _; cases xs with
    | nil => exact h
    | cons x xs => exact h.elim
  | cons v vs ih => intro xs O S h hu hS; cases xs with
    | nil => exact h.elim
    | cons x xs =>
      obtain ⟨O1, O2, h1, h2, h3⟩ := h
      exact ⟨O1, O2, hF.upd h1 hu (fun a ha => hS a (by rw [h3]; omega)), ih h2 hu (fun a ha => hS a (by rw [h3]; omega)), h3⟩
theorem El.lt (hF : Fit R) : ∀ {w : World} {vs : List Value} {xs : List α} {O : Nat → Nat} {a : Nat}, El R w vs xs O → O a ≠ 0 → a < w.heap.size := by
  intro w vs
  induction vs with
  | nil => intro xs O a h ha; cases xs with
    | nil => exact absurd (h a) ha
    | cons x xs => exact h.elim
  | cons v vs ih => intro xs O a h ha; cases xs with
    | nil => exact h.elim
    | cons x xs =>
      obtain ⟨O1, O2, h1, h2, h3⟩ := h
      by_cases hz : O1 a = 0
      · exact ih h2 (by rw [h3, hz] at ha; omega)
      · exact hF.lt h1 hz
theorem El.snoc : ∀ {w : World} {vs : List Value} {xs : List α} {O Ox : Nat → Nat} {v : Value} {x : α}, El R w vs xs O → R w v x Ox → El R w (vs ++ [v]) (xs ++ [x]) (fun a => O a + Ox a) := by
  intro w vs
  induction vs with
  | nil => intro xs O Ox v x h hx; cases xs with
    | nil => exact ⟨Ox, fun _ => 0, hx, fun _ => rfl, fun a => by have := h a; dsimp only; omega⟩
    | cons x xs => exact h.elim
  | cons v vs ih => intro xs O Ox v' x' h hx; cases xs with
    | nil => exact h.elim
    | cons x xs =>
      obtain ⟨O1, O2, h1, h2, h3⟩ := h
      exact ⟨O1, _, h1, ih h2 hx, fun a => by have := h3 a; dsimp only; omega⟩
theorem El.get (hF : Fit R) : ∀ {w : World} {vs : List Value} {xs : List α} {O : Nat → Nat} {i : Nat} {x : α}, El R w vs xs O → xs[i]? = some x → ∃ v Ox, vs[i]? = some v ∧ R w v x Ox ∧ ∀ a, Ox a ≤ O a := by
  intro w vs
  induction vs with
  | nil => intro xs O i x h hx; cases xs with
    | nil => simp at hx
    | cons x xs => exact h.elim
  | cons v vs ih => intro xs O i x' h hx; cases xs with
    | nil => exact h.elim
    | cons x xs =>
      obtain ⟨O1, O2, h1, h2, h3⟩ := h
      cases i with
      | zero =>
        obtain rfl : x = x' := by simpa using hx
        exact ⟨v, O1, rfl, h1, fun a => by rw [h3]; omega⟩
      | succ i =>
        obtain ⟨v', Ox, e, h4, h5⟩ := ih h2 (by simpa using hx)
        exact ⟨v', Ox, e, h4, fun a => by rw [h3]; have := h5 a; omega⟩
theorem El.one (hF : Fit R) : ∀ {w : World} {vs : List Value} {xs : List α} {O : Nat → Nat}, El R w vs xs O → ∀ v ∈ vs, v.oneCell' = true := by
  intro w vs
  induction vs with
  | nil => intro xs O h v hv; cases hv
  | cons v vs ih => intro xs O h u hu; cases xs with
    | nil => exact h.elim
    | cons x xs =>
      obtain ⟨O1, O2, h1, h2, h3⟩ := h
      rcases List.mem_cons.1 hu with rfl | hu
      · exact hF.one h1
      · exact ih h2 u hu
/-- A list whose block is its own, of values that own theirs. -/
def LAt (T : TypeId) (R : Rel α) : Rel (List α) := fun w v xs O => ∃ vs O1, GV T w v vs ∧ El R w vs xs O1 ∧ ∀ a, O a = oc v a + O1 a
theorem LAt.nil (T : TypeId) (R : Rel α) (w : World) : LAt T R w (.slice none 0 0) [] (fun _ => 0) := ⟨[], fun _ => 0, GV.nil T w, fun _ => rfl, fun a => rfl⟩
theorem LAt.fit {T : TypeId} (hF : Fit R) : Fit (LAt T R) where
  upd := fun h hu hS => by
    obtain ⟨vs, O1, h1, h2, h3⟩ := h
    exact ⟨vs, O1, h1.upd hu (fun k hk => hS k (by rw [h3]; unfold oc; rw [if_pos hk]; omega)), h2.upd hF hu (fun a ha => hS a (by rw [h3]; omega)), h3⟩
  lt := fun {w v x O a} h ha => by
    obtain ⟨vs, O1, h1, h2, h3⟩ := h
    by_cases hz : oc v a = 0
    · exact h2.lt hF (by rw [h3, hz] at ha; omega)
    · exact h1.lt a (oc_ne hz)
  one := fun h => by
    obtain ⟨vs, O1, h1, h2, h3⟩ := h
    obtain ⟨A, c, rfl⟩ := h1.slice
    rfl
theorem LAt.slice {T : TypeId} {w : World} {v : Value} {xs : List α} {O : Nat → Nat} (h : LAt T R w v xs O) : ∃ A c, v = .slice A xs.length c := by
  obtain ⟨vs, O1, h1, h2, h3⟩ := h
  obtain ⟨A, c, rfl⟩ := h1.slice
  exact ⟨A, c, by rw [h2.len]⟩
/-- Behind an append: one more, and who owns. -/
theorem LAt.grew {T : TypeId} (hF : Fit R) {w w' : World} {v v' y : Value} {vs : List Value} {xs : List α} {x : α} {O1 Ox : Nat → Nat} (h2 : El R w vs xs O1) (hx : R w y x Ox) (hd : ∀ a, oc v a + O1 a + Ox a ≤ 1) (hg : Grew T w w' v v' vs y) :
    ∃ O', LAt T R w' v' (xs ++ [x]) O' ∧ (∀ a, O' a ≤ 1) ∧ ∀ a, a < w.heap.size → O' a ≤ oc v a + O1 a + Ox a := by
  have hu := hg.upd
  have hnS : ∀ a, O1 a ≠ 0 ∨ Ox a ≠ 0 → ¬ v.ownBlock = some a := fun a ha hk => by
    have := hd a
    unfold oc at this
    rw [if_pos hk] at this
    omega
  refine ⟨fun a => oc v' a + (O1 a + Ox a), ⟨vs ++ [y], _, hg.gv, (h2.upd hF hu (fun a ha => hnS a (.inl ha))).snoc (hF.upd hx hu (fun a ha => hnS a (.inr ha))), fun a => rfl⟩, fun a => ?_, fun a ha => ?_⟩
  · have hda := hd a
    by_cases hz : oc v' a = 0
    · dsimp only; omega
    · rcases hg.block a (oc_ne hz) with hb | hb
      · have h1 : oc v a = 1 := by unfold oc; rw [if_pos hb]
        have := oc_le v' a
        dsimp only
        omega
      · have e1 : O1 a = 0 := Decidable.not_not.1 fun hne => by have := h2.lt hF hne; omega
        have e2 : Ox a = 0 := Decidable.not_not.1 fun hne => by have := hF.lt hx hne; omega
        have := oc_le v' a
        dsimp only
        omega
  · by_cases hz : oc v' a = 0
    · dsimp only; omega
    · rcases hg.block a (oc_ne hz) with hb | hb
      · have h1 : oc v a = 1 := by unfold oc; rw [if_pos hb]
        have := oc_le v' a
        dsimp only
        omega
      · omega
/-- Reading: an element. -/
theorem LAt.get {T : TypeId} (hF : Fit R) {w : World} {v : Value} {xs : List α} {O : Nat → Nat} {i : Nat} {x : α} (h : LAt T R w v xs O) (hi : xs[i]? = some x) : ∃ g c y Ox, v = .slice (some ⟨g, 0, none⟩) xs.length c ∧ w.cell? ⟨g, i, none⟩ = some y ∧ R w y x Ox ∧ ∀ a, Ox a ≤ O a := by
  obtain ⟨vs, O1, h1, h2, h3⟩ := h
  obtain ⟨y, Ox, e, hy, hl⟩ := h2.get hF hi
  obtain ⟨g, c, rfl, hc⟩ := h1.get i y e
  exact ⟨g, c, y, Ox, by rw [h2.len], hc, hy, fun a => by rw [h3]; have := hl a; omega⟩
theorem GV.cap {T : TypeId} {w : World} {A : Option Addr} {n c : Nat} {l : List Value} (h : GV T w (.slice A n c) l) : n ≤ c ∧ c ≤ 9223372036854775807 ∧ n = l.length := by
  rcases h with ⟨h, h0⟩ | ⟨g, c', h, hg⟩
  · simp only [Value.slice.injEq] at h
    obtain ⟨_, rfl, rfl⟩ := h
    exact ⟨Nat.le_refl _, by omega, by rw [h0]; rfl⟩
  · simp only [Value.slice.injEq] at h
    obtain ⟨_, rfl, rfl⟩ := h
    obtain ⟨cur, _, _, h3, h4, _⟩ := hg
    exact ⟨h3, by unfold maxLen at h4; omega, rfl⟩
/-- As a kind that is read. -/
theorem LAt.C {T : TypeId} {kd : Kd α} (hF : Fit R) (hk : kd.sz = 1) (hR : ∀ {w v x O}, R w v x O → kd.K w x [v]) {w : World} {A : Option Addr} {n c : Nat} {xs : List α} {O : Nat → Nat} (h : LAt T R w (.slice A n c) xs O) : n = xs.length ∧ xs.length ≤ c ∧ kd.C w A xs.length xs := by
  obtain ⟨A', c', e⟩ := h.slice
  simp only [Value.slice.injEq] at e
  obtain ⟨rfl, rfl, rfl⟩ := e
  have hg := h
  obtain ⟨vs, O1, h1, h2, h3⟩ := h
  have hc := GV.cap h1
  refine ⟨rfl, hc.1, rfl, by omega, fun h0 => ?_⟩
  obtain ⟨g, c'', y, Ox, e, _⟩ := hg.get hF (List.getElem?_eq_getElem h0)
  simp only [Value.slice.injEq] at e
  obtain ⟨rfl, _, _⟩ := e
  refine ⟨_, rfl, fun j p hp => ?_⟩
  obtain ⟨g', c'', y, Ox, e, hcell, hy, _⟩ := hg.get hF hp
  simp only [Value.slice.injEq, Option.some.injEq, Addr.mk.injEq, and_true] at e
  obtain ⟨rfl, _⟩ := e
  refine ⟨[y], by rw [hk]; rfl, hR hy, fun i u hu => ?_⟩
  cases i with
  | zero =>
    obtain rfl : y = u := by simpa using hu
    rw [hk, Nat.mul_one, Nat.add_zero, Addr.add_lit, Nat.zero_add]
    exact hcell
  | succ i => simp at hu
theorem LAt.K {T : TypeId} {kd : Kd α} (e : Nat) (hF : Fit R) (hk : kd.sz = 1) (hR : ∀ {w v x O}, R w v x O → kd.K w x [v]) {w : World} {v : Value} {xs : List α} {O : Nat → Nat} (h : LAt T R w v xs O) : (Kd.slice e kd).K w xs [v] := by
  obtain ⟨A, c, rfl⟩ := h.slice
  obtain ⟨h1, h2, h3⟩ := h.C hF hk hR
  exact ⟨A, c, rfl, h2, h3⟩
/-- Bytes that own their block. -/
def BtR : Rel (List Int) := fun w v l O => GV 5 w v (l.map (Value.int .u8)) ∧ ∀ a, O a = oc v a
theorem BtR.fit : Fit BtR where
  upd := fun h hu hS => ⟨h.1.upd hu (fun k hk => hS k (by rw [h.2]; unfold oc; rw [if_pos hk]; omega)), h.2⟩
  lt := fun h ha => h.1.lt _ (oc_ne (by rw [← h.2]; exact ha))
  one := fun h => by
    obtain ⟨A, c, rfl⟩ := h.1.slice
    rfl
theorem BtR.slice {w : World} {v : Value} {l : List Int} {O : Nat → Nat} (h : BtR w v l O) : ∃ A c, v = .slice A l.length c ∧ l.length ≤ c := by
  obtain ⟨A, c, e⟩ := h.1.slice
  have h1 := h.1
  rw [e] at h1
  have := GV.cap h1
  rw [List.length_map] at e this
  exact ⟨A, c, e, this.1⟩
theorem BtR.C {w : World} {A : Option Addr} {n c : Nat} {l : List Int} {O : Nat → Nat} (h : BtR w (.slice A n c) l O) : n = l.length ∧ l.length ≤ c ∧ (Kd.int .u8).C w A l.length l := by
  obtain ⟨A', c', e, hle⟩ := h.slice
  simp only [Value.slice.injEq] at e
  obtain ⟨rfl, rfl, rfl⟩ := e
  have hc := GV.cap h.1
  rw [List.length_map] at hc
  refine ⟨rfl, hle, rfl, by omega, fun h0 => ?_⟩
  obtain ⟨g, c'', e, _⟩ := h.1.get 0 (.int .u8 l[0]) (by simp [h0])
  simp only [Value.slice.injEq] at e
  obtain ⟨rfl, _, _⟩ := e
  refine ⟨_, rfl, fun j p hp => ?_⟩
  obtain ⟨g', c'', e, hcell⟩ := h.1.get j (.int .u8 p) (by simp [hp])
  simp only [Value.slice.injEq, Option.some.injEq, Addr.mk.injEq, and_true] at e
  obtain ⟨rfl, _⟩ := e
  refine ⟨[.int .u8 p], rfl, rfl, fun i u hu => ?_⟩
  cases i with
  | zero =>
    obtain rfl : Value.int .u8 p = u := by simpa using hu
    show w.cell? ((⟨g, 0, none⟩ : Addr).add (j * 1 + 0)) = _
    rw [Nat.mul_one, Nat.add_zero, Addr.add_lit, Nat.zero_add]
    exact hcell
  | succ i => simp at hu
theorem BtR.K {w : World} {v : Value} {l : List Int} {O : Nat → Nat} (h : BtR w v l O) : (Kd.slice 5 (Kd.int .u8)).K w l [v] := by
  obtain ⟨A, c, rfl, hc⟩ := h.slice
  exact ⟨A, c, rfl, hc, h.C.2.2⟩
abbrev RwR : Rel (List (List Int)) := LAt 26 BtR
theorem RwR.fit : Fit RwR := LAt.fit BtR.fit
theorem RwR.K {w : World} {v : Value} {l : List (List Int)} {O : Nat → Nat} (h : RwR w v l O) : (Kd.slice 26 (Kd.slice 5 (Kd.int .u8))).K w l [v] := LAt.K _ BtR.fit rfl BtR.K h
abbrev CmR : Rel (List (List (List Int))) := LAt 22 RwR
theorem CmR.fit : Fit CmR := LAt.fit RwR.fit
theorem CmR.K {w : World} {v : Value} {l : List (List (List Int))} {O : Nat → Nat} (h : CmR w v l O) : (Kd.slice 22 (Kd.slice 26 (Kd.slice 5 (Kd.int .u8)))).K w l [v] := LAt.K _ RwR.fit rfl RwR.K h
end Go.Proofs.Ytfdkcnbkoagmiaa.OwnL
