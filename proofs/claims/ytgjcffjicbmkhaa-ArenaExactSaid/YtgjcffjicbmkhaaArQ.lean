/- Three arenas that have no block in common. No function of the program. -/
import Derived.Test.YtgjcffjicbmkhaaArP
namespace Go.Proofs.Ytgjcffjicbmkhaa.ArQ
open Go Go.RowKit Go.Proofs.YtgjcffjicbmkhaaW.PrintWords Go.Proofs.YtgjcffjicbmkhaaW.PrintLast Go.Proofs.YtgjcffjicbmkhaaW.PrintMore Go.Proofs.Ytgjcffjicbmkhaa.RowU Go.Proofs.Ytgjcffjicbmkhaa.ArS Go.Proofs.Ytgjcffjicbmkhaa.ArM Go.Proofs.Ytgjcffjicbmkhaa.ArX Go.Proofs.Ytgjcffjicbmkhaa.ArT Go.Proofs.Ytgjcffjicbmkhaa.ArP
set_option linter.unusedVariables false

/-- Where an arena lies, and what it holds. -/
structure ArD where
  g : Nat
  gw : Nat
  gf : Nat
  sz : Nat
  l : List Ob
def ArD.at_ (d : ArD) (W : World) : Prop := ArAt W d.g d.gw d.gf d.sz d.l
def ArD.blk (d : ArD) : Nat → Prop := three_ d.g d.gw d.gf
def ArD.sep (d e : ArD) : Prop := Sep d.g d.gw d.gf e.g e.gw e.gf
theorem sep_symm {d e : ArD} (h : d.sep e) : e.sep d := fun i h1 h2 => h i h2 h1
structure Three (W : World) (d : Nat → ArD) (on : Nat → Bool) : Prop where
  at_ : ∀ i, i < 3 → on i = true → (d i).at_ W
  sep : ∀ i j, i < 3 → j < 3 → i ≠ j → on i = true → on j = true → (d i).sep (d j)
def putD (d : Nat → ArD) (i : Nat) (x : ArD) : Nat → ArD := fun j => if j = i then x else d j
theorem putD_self (d : Nat → ArD) (i : Nat) (x : ArD) : putD d i x i = x := if_pos rfl
theorem putD_other (d : Nat → ArD) (i j : Nat) (x : ArD) (h : j ≠ i) : putD d i x j = d j := if_neg h
theorem ArD.lt {d : ArD} {W : World} (h : d.at_ W) : ∀ i, d.blk i → i < W.heap.size := by
  obtain ⟨h1, h2, h3⟩ := ArAt.lt3 h
  rintro i (rfl | rfl | rfl)
  · exact h1
  · exact h2
  · exact h3
theorem Three.below {W W' : World} {d : Nat → ArD} {on : Nat → Bool} (h : Three W d on) (hb : Below W.heap.size W W') : Three W' d on := ⟨fun i hi ho => ArAt.below (h.at_ i hi ho) hb, h.sep⟩
theorem ArD.upd {d : ArD} {W W' : World} {S : Nat → Prop} (h : d.at_ W) (hu : Upd S W W') (hs : ∀ i, d.blk i → ¬ S i) : d.at_ W' := ArAt.upd h hu (hs _ (.inl rfl)) (hs _ (.inr (.inl rfl))) (hs _ (.inr (.inr rfl)))
/-- One arena has turned. -/
theorem Three.step {W W' : World} {d : Nat → ArD} {on : Nat → Bool} (h : Three W d on) {i : Nat} (hi : i < 3) (ho : on i = true) {gw' gf' : Nat} {l' : List Ob} (hA : ArAt W' (d i).g gw' gf' (d i).sz l')
    (h1 : gw' = (d i).gw ∨ W.heap.size ≤ gw') (h2 : gf' = (d i).gf ∨ W.heap.size ≤ gf') (hu : Upd (d i).blk W W') : Three W' (putD d i ⟨(d i).g, gw', gf', (d i).sz, l'⟩) on := by
  have key : ∀ j, j < 3 → j ≠ i → on j = true → (⟨(d i).g, gw', gf', (d i).sz, l'⟩ : ArD).sep (d j) := by
    intro j hj hne hoj
    have hs := h.sep i j hi hj (fun h => hne h.symm) ho hoj
    have hlt := ArD.lt (h.at_ j hj hoj)
    rintro k (rfl | rfl | rfl) hk
    · exact hs _ (.inl rfl) hk
    · rcases h1 with h1 | h1
      · exact hs _ (.inr (.inl h1)) hk
      · have := hlt _ hk; omega
    · rcases h2 with h2 | h2
      · exact hs _ (.inr (.inr h2)) hk
      · have := hlt _ hk; omega
  refine ⟨fun j hj hoj => ?_, fun j k hj hk hjk hoj hok => ?_⟩
  · by_cases hji : j = i
    · subst hji; rw [putD_self]; exact hA
    · rw [putD_other _ _ _ _ hji]
      exact ArD.upd (h.at_ j hj hoj) hu (fun b hb hb2 => h.sep j i hj hi hji hoj ho b hb hb2)
  · by_cases hji : j = i
    · subst hji
      rw [putD_self, putD_other _ _ _ _ (fun h => hjk h.symm)]
      exact key k hk (fun h => hjk h.symm) hok
    · rw [putD_other _ _ _ _ hji]
      by_cases hki : k = i
      · subst hki
        rw [putD_self]
        exact sep_symm (key j hj hji hoj)
      · rw [putD_other _ _ _ _ hki]
        exact h.sep j k hj hk hjk hoj hok
/-- An arena is made anew. -/
theorem Three.fresh {W W' : World} {d : Nat → ArD} {on : Nat → Bool} (h : Three W d on) {i : Nat} (hi : i < 3) {g gw gf n : Nat} (hA : ArAt W' g gw gf n []) (h0 : W.heap.size ≤ g) (h1 : W.heap.size ≤ gw) (h2 : W.heap.size ≤ gf) (hb : Below W.heap.size W W') :
    Three W' (putD d i ⟨g, gw, gf, n, []⟩) (fun j => if j = i then true else on j) := by
  have key : ∀ j, j < 3 → j ≠ i → on j = true → (⟨g, gw, gf, n, []⟩ : ArD).sep (d j) := by
    intro j hj hne hoj
    have hlt := ArD.lt (h.at_ j hj hoj)
    rintro k (rfl | rfl | rfl) hk
    · have := hlt _ hk; omega
    · have := hlt _ hk; omega
    · have := hlt _ hk; omega
  refine ⟨fun j hj hoj => ?_, fun j k hj hk hjk hoj hok => ?_⟩
  · by_cases hji : j = i
    · subst hji; rw [putD_self]; exact hA
    · rw [putD_other _ _ _ _ hji]
      simp only [hji, if_false] at hoj
      exact ArAt.below (h.at_ j hj hoj) hb
  · by_cases hji : j = i
    · subst hji
      have hkj : k ≠ j := fun h => hjk h.symm
      simp only [hkj, if_false] at hok
      rw [putD_self, putD_other _ _ _ _ hkj]
      exact key k hk hkj hok
    · simp only [hji, if_false] at hoj
      rw [putD_other _ _ _ _ hji]
      by_cases hki : k = i
      · subst hki
        rw [putD_self]
        exact sep_symm (key j hj hji hoj)
      · simp only [hki, if_false] at hok
        rw [putD_other _ _ _ _ hki]
        exact h.sep j k hj hk hjk hoj hok
/-- An arena is given up. -/
theorem Three.off {W : World} {d : Nat → ArD} {on : Nat → Bool} (h : Three W d on) (i : Nat) : Three W d (fun j => if j = i then false else on j) := by
  refine ⟨fun j hj hoj => ?_, fun j k hj hk hjk hoj hok => ?_⟩
  · by_cases hji : j = i
    · simp [hji] at hoj
    · simp only [hji, if_false] at hoj; exact h.at_ j hj hoj
  · by_cases hji : j = i
    · simp [hji] at hoj
    · by_cases hki : k = i
      · simp [hki] at hok
      · simp only [hji, if_false] at hoj
        simp only [hki, if_false] at hok
        exact h.sep j k hj hk hjk hoj hok
theorem Three.pair {W : World} {d : Nat → ArD} {on : Nat → Bool} (h : Three W d on) {i j : Nat} (hi : i < 3) (hj : j < 3) (hoi : on i = true) (hoj : on j = true) :
    Pair W (d i).g (d i).gw (d i).gf (d i).sz (d i).l (d j).g (d j).gw (d j).gf (d j).sz (d j).l (decide (i = j)) := by
  refine ⟨h.at_ i hi hoi, h.at_ j hj hoj, ?_⟩
  by_cases hij : i = j
  · subst hij; simp
  · simp only [hij, decide_false, Bool.false_eq_true, if_false]
    exact h.sep i j hi hj hij hoi hoj
/-- Take has been asked: block i of block j. -/
theorem Three.took {W W' : World} {d : Nat → ArD} {on : Nat → Bool} (h : Three W d on) {i j : Nat} (hi : i < 3) (hj : j < 3) (hoi : on i = true) (hoj : on j = true) {gwa' gfa' : Nat} {la' ls' : List Ob}
    (hP : Pair W' (d i).g gwa' gfa' (d i).sz la' (d j).g (if decide (i = j) then gwa' else (d j).gw) (if decide (i = j) then gfa' else (d j).gf) (d j).sz ls' (decide (i = j)))
    (h1 : gwa' = (d i).gw ∨ W.heap.size ≤ gwa') (h2 : gfa' = (d i).gf ∨ W.heap.size ≤ gfa') (hu : Upd (fun b => three_ (d i).g (d i).gw (d i).gf b ∨ three_ (d j).g (d j).gw (d j).gf b) W W') :
    Three W' (if i = j then putD d i ⟨(d i).g, gwa', gfa', (d i).sz, la'⟩ else putD (putD d i ⟨(d i).g, gwa', gfa', (d i).sz, la'⟩) j ⟨(d j).g, (d j).gw, (d j).gf, (d j).sz, ls'⟩) on := by
  by_cases hij : i = j
  · subst hij
    rw [if_pos rfl]
    exact h.step hi hoi hP.A h1 h2 (hu.mono (fun b hb => by rcases hb with hb | hb <;> exact hb))
  · rw [if_neg hij]
    simp only [hij, decide_false, Bool.false_eq_true, if_false] at hP
    have hS := hP.S
    have hR : Sep (d i).g gwa' gfa' (d j).g (d j).gw (d j).gf := hP.R
    have key : ∀ k, k < 3 → k ≠ i → on k = true → (⟨(d i).g, gwa', gfa', (d i).sz, la'⟩ : ArD).sep (d k) := by
      intro k hk hne hok
      have hs := h.sep i k hi hk (fun h => hne h.symm) hoi hok
      have hlt := ArD.lt (h.at_ k hk hok)
      rintro b (rfl | rfl | rfl) hb
      · exact hs _ (.inl rfl) hb
      · rcases h1 with h1 | h1
        · exact hs _ (.inr (.inl h1)) hb
        · have := hlt _ hb; omega
      · rcases h2 with h2 | h2
        · exact hs _ (.inr (.inr h2)) hb
        · have := hlt _ hb; omega
    have blocks : ∀ k, (putD (putD d i ⟨(d i).g, gwa', gfa', (d i).sz, la'⟩) j ⟨(d j).g, (d j).gw, (d j).gf, (d j).sz, ls'⟩ k).blk = (putD d i ⟨(d i).g, gwa', gfa', (d i).sz, la'⟩ k).blk := by
      intro k
      by_cases hkj : k = j
      · subst hkj; rw [putD_self, putD_other _ _ _ _ (fun h => hij h.symm)]; rfl
      · rw [putD_other _ _ _ _ hkj]
    have sepd : ∀ a b, a < 3 → b < 3 → a ≠ b → on a = true → on b = true → (putD d i ⟨(d i).g, gwa', gfa', (d i).sz, la'⟩ a).sep (putD d i ⟨(d i).g, gwa', gfa', (d i).sz, la'⟩ b) := by
      intro a b ha hb hab hoa hob
      by_cases hai : a = i
      · subst hai
        rw [putD_self, putD_other _ _ _ _ (fun h => hab h.symm)]
        exact key b hb (fun h => hab h.symm) hob
      · rw [putD_other _ _ _ _ hai]
        by_cases hbi : b = i
        · subst hbi
          rw [putD_self]
          exact sep_symm (key a ha hai hoa)
        · rw [putD_other _ _ _ _ hbi]
          exact h.sep a b ha hb hab hoa hob
    refine ⟨fun k hk hok => ?_, fun a b ha hb hab hoa hob => ?_⟩
    · by_cases hkj : k = j
      · subst hkj; rw [putD_self]; exact hS
      · rw [putD_other _ _ _ _ hkj]
        by_cases hki : k = i
        · subst hki; rw [putD_self]; exact hP.A
        · rw [putD_other _ _ _ _ hki]
          refine ArD.upd (h.at_ k hk hok) hu (fun b hb hb2 => ?_)
          rcases hb2 with hb2 | hb2
          · exact h.sep k i hk hi hki hok hoi b hb hb2
          · exact h.sep k j hk hj hkj hok hoj b hb hb2
    · intro x hx hx2
      have e1 := congrFun (blocks a) x
      have e2 := congrFun (blocks b) x
      exact sepd a b ha hb hab hoa hob x (e1.mp hx) (e2.mp hx2)
end Go.Proofs.Ytgjcffjicbmkhaa.ArQ
