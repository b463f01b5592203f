/- larderlaw2.within, fit, take in plain words. -/
import Derived.Test.YtgjcffjicbmkhaaPFx3
import Derived.Test.YtgjcffjicbmkhaaArY
import Derived.Test.YtgjcffjicbmkhaaGenM
namespace Go.Proofs.Ytgjcffjicbmkhaa.TakS
open Go Go.RowKit Go.Proofs.YtgjcffjicbmkhaaW.PrintWords Go.Proofs.YtgjcffjicbmkhaaW.PrintLast Go.Proofs.YtgjcffjicbmkhaaW.PrintMore Go.Proofs.Ytgjcffjicbmkhaa.PF Go.Proofs.Ytgjcffjicbmkhaa.ArS Go.Proofs.Ytgjcffjicbmkhaa.ArY
set_option linter.unusedVariables false

theorem within_ok (a : Int) (m : Nat) (h : 0 < m) (hm : m ≤ 1000000) : ∃ r : Nat, larderlaw2_within.f a m = some (r : Int) ∧ r < m := by
  have h1 : -(m : Int) < Int.tmod a m := Int.lt_tmod_of_pos a (by omega)
  have h2 : Int.tmod a m < m := Int.tmod_lt_of_pos a (by omega)
  generalize hx : Int.tmod a m = x at *
  have e : wrap64 (x + m) = x + m := ArW.w64_small _ (by omega) (by omega)
  have h3 : 0 ≤ Int.tmod (x + m) m := Int.tmod_nonneg _ (by omega)
  have h4 : Int.tmod (x + m) m < m := Int.tmod_lt_of_pos _ (by omega)
  refine ⟨(Int.tmod (x + m) m).toNat, ?_, by omega⟩
  unfold larderlaw2_within.f
  rw [if_neg (by omega), hx, e]
  congr 1
  omega
/-- A shape that may be. -/
structure ShOk (x : S28) : Prop where
  k1 : 1 ≤ x.f0
  k2 : x.f0 ≤ 255
  r1 : 0 ≤ x.f1
  r2 : x.f1 ≤ 24
  s1 : 0 ≤ x.f2
  s2 : x.f2 ≤ 24
theorem fit_ok (a b c : Int) : ∃ x : S28, larderlaw2_fit.f a b c = some (x.f0, x.f1, x.f2) ∧ ShOk x := by
  obtain ⟨k, hk, hk2⟩ := within_ok a 255 (by decide) (by decide)
  obtain ⟨r, hr, hr2⟩ := within_ok b 24 (by decide) (by decide)
  obtain ⟨s, hs, hs2⟩ := within_ok c 24 (by decide) (by decide)
  refine ⟨⟨wrap64 (1 + k), r, s⟩, ?_, ?_⟩
  · unfold larderlaw2_fit.f
    have hk' : larderlaw2_within.f a 255 = some (k : Int) := hk
    have hr' : larderlaw2_within.f b 24 = some (r : Int) := hr
    have hs' : larderlaw2_within.f c 24 = some (s : Int) := hs
    rw [hk', hr', hs']
    rfl
  · have e : wrap64 (1 + (k : Int)) = 1 + k := ArW.w64_small _ (by omega) (by omega)
    exact ⟨by show 1 ≤ wrap64 (1 + (k : Int)); omega, by show wrap64 (1 + (k : Int)) ≤ 255; omega, by show (0 : Int) ≤ r; omega, by show (r : Int) ≤ 24; omega, by show (0 : Int) ≤ s; omega, by show (s : Int) ≤ 24; omega⟩
theorem take_loop (l0 : List S28) (hl : l0.length ≤ 100000000000000) : ∀ (n : Nat) (x3 : List S28) (i : Nat), 2000 - i ≤ n → i ≤ 2000 → x3.length = i → (∀ x ∈ x3, ShOk x) → ∃ r, larderlaw2_take.l0 (n + 1) l0 x3 i = some r ∧ r.length ≤ 2000 ∧ ∀ x ∈ r, ShOk x := by
  intro n
  induction n with
  | zero =>
    intro x3 i h1 h2 h3 h4
    obtain rfl : i = 2000 := by omega
    unfold larderlaw2_take.l0
    by_cases hc : ((2000 : Nat) : Int) < l0.length
    · rw [if_pos hc, if_neg (by omega)]
      exact ⟨x3, rfl, by omega, h4⟩
    · rw [if_neg hc]
      exact ⟨x3, rfl, by omega, h4⟩
  | succ n ih =>
    intro x3 i h1 h2 h3 h4
    unfold larderlaw2_take.l0
    by_cases hc : (i : Int) < l0.length
    · rw [if_pos hc]
      by_cases hd : (i : Int) < 2000
      · obtain ⟨y, hy, hok⟩ := fit_ok (rd_T28 l0 i).f0 (rd_T28 l0 i).f1 (rd_T28 l0 i).f2
        rw [if_pos hd, if_pos (by omega), hy]
        have e : wrap64 ((i : Int) + 1) = ((i + 1 : Nat) : Int) := by rw [ArW.w64_small _ (by omega) (by omega)]; omega
        simp only [Option.bind_some]
        rw [if_pos (by omega), e]
        refine ih (x3 ++ [y]) (i + 1) (by omega) (by omega) (by rw [List.length_append, List.length_singleton]; omega) ?_
        intro x hx
        rcases List.mem_append.1 hx with hx | hx
        · exact h4 x hx
        · rw [List.mem_singleton.1 hx]; exact hok
      · rw [if_neg hd]
        exact ⟨x3, rfl, by omega, h4⟩
    · rw [if_neg hc]
      exact ⟨x3, rfl, by omega, h4⟩
theorem take_ok (l0 : List S28) (hl : l0.length ≤ 100000000000000) : ∃ r, larderlaw2_take.f 2001 l0 = some r ∧ r.length ≤ 2000 ∧ ∀ x ∈ r, ShOk x :=
  take_loop l0 hl 2000 [] 0 (by omega) (by omega) rfl (fun x hx => by cases hx)

/-- The objects of shapes. -/
def obOf (x : S28) : Ob := newOb x.f0.toNat x.f1.toNat x.f2.toNat
def obsOf (l : List S28) : List Ob := l.map obOf
theorem obOf_len (x : S28) : (obOf x).fields.length = x.f1.toNat + x.f2.toNat := by simp [obOf, newOb]
theorem obsOf_snoc (l : List S28) (i : Nat) (x : S28) (h : l[i]? = some x) : obsOf (l.take (i + 1)) = obsOf (l.take i) ++ [obOf x] := by
  unfold obsOf
  rw [List.take_add_one, h, Option.toList_some, List.map_append]
  rfl
theorem used_snoc' (l : List S28) (i : Nat) (x : S28) (h : l[i]? = some x) : used (obsOf (l.take (i + 1))) = used (obsOf (l.take i)) + (1 + (x.f1.toNat + x.f2.toNat)) := by
  rw [obsOf_snoc l i x h, used_snoc, obOf_len]
theorem ws_bound (l : List S28) (h : ∀ x ∈ l, ShOk x) : ((obsOf l).flatMap Ob.ws).length ≤ 49 * l.length := by
  induction l with
  | nil => simp [obsOf]
  | cons x l ih =>
    have h1 := ih (fun y hy => h y (List.mem_cons_of_mem _ hy))
    have hx := h x (List.mem_cons_self ..)
    have h2 := hx.r2
    have h3 := hx.s2
    unfold obsOf at *
    rw [List.map_cons, List.flatMap_cons, List.length_append, ws_len, obOf_len, List.length_cons]
    omega
theorem used_bound (l : List S28) (h : ∀ x ∈ l, ShOk x) : used (obsOf l) ≤ 1 + 49 * l.length := by
  have := ws_bound l h
  have h2 : used (obsOf l) = 1 + ((obsOf l).flatMap Ob.ws).length := by simp [used, words]; omega
  omega
theorem used_mono (l : List S28) (i : Nat) : used (obsOf (l.take i)) ≤ used (obsOf l) := by
  have e : obsOf l = obsOf (l.take i) ++ obsOf (l.drop i) := by unfold obsOf; rw [← List.map_append, List.take_append_drop]
  rw [e, used_append]
  omega
theorem rd_get (l : List S28) (i : Nat) (h : i < l.length) : l[i]? = some (rd_T28 l i) := by
  unfold rd_T28
  rw [Int.toNat_natCast, List.getD_eq_getElem?_getD, List.getElem?_eq_getElem h]
  rfl
/-- A shape in whole numbers. -/
theorem sh_nat {x : S28} (h : ShOk x) : ∃ k r s : Nat, x = ⟨k, r, s⟩ ∧ 1 ≤ k ∧ k ≤ 255 ∧ r ≤ 24 ∧ s ≤ 24 := by
  obtain ⟨h1, h2, h3, h4, h5, h6⟩ := h
  obtain ⟨a, b, c⟩ := x
  obtain ⟨k, rfl⟩ := Int.eq_ofNat_of_zero_le (show 0 ≤ a by simp only at *; omega)
  obtain ⟨r, rfl⟩ := Int.eq_ofNat_of_zero_le (show 0 ≤ b by simp only at *; omega)
  obtain ⟨s, rfl⟩ := Int.eq_ofNat_of_zero_le (show 0 ≤ c by simp only at *; omega)
  exact ⟨k, r, s, rfl, by simp only at *; omega, by simp only at *; omega, by simp only at *; omega, by simp only at *; omega⟩
end Go.Proofs.Ytgjcffjicbmkhaa.TakS
