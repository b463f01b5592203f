/- The book's small functions: at, wordsMark, tight. -/
import Derived.Test.YtgngpbcbnfmoiaaBokA
import Derived.Test.YtgngpbcbnfmoiaaSumI
import Derived.Test.YtgngpbcbnfmoiaaPFx1
import Derived.Test.YtgngpbcbnfmoiaaPFx2
namespace Go.Proofs.Ytgngpbcbnfmoiaa.BokT
open Go Go.RowKit Go.Proofs.YtgngpbcbnfmoiaaW.PrintWords Go.Proofs.YtgngpbcbnfmoiaaW.PrintLast Go.Proofs.YtgngpbcbnfmoiaaW.PrintMore Go.Proofs.Ytgngpbcbnfmoiaa.PF Go.Proofs.Ytgngpbcbnfmoiaa.RowU Go.Proofs.Ytgngpbcbnfmoiaa.ArS Go.Proofs.Ytgngpbcbnfmoiaa.ArM Go.Proofs.Ytgngpbcbnfmoiaa.GenM Go.Proofs.Ytgngpbcbnfmoiaa.GenN Go.Proofs.Ytgngpbcbnfmoiaa.BokA
set_option linter.unusedVariables false
set_option maxRecDepth 100000

theorem w64s (x : Int) (h0 : 0 ≤ x) (h1 : x < 9223372036854775808) : wrap64 x = x := by unfold wrap64; omega
theorem at_all (m k : Nat) (hm : m ≤ 1000000000000000) (hk : k ≤ 1000000000000000) (w : World) : Calls Try.prog 60 #[.int .i64 (m : Int), .int .i64 (k : Int)] w fun e w' => e = .returned (elB m k) ∧ Below w.heap.size w w' := by
  refine (larderlaw1_at.calls (m : Int) (k : Int) (atN m k : Int) w ?_).mono fun e w' ⟨he, hd⟩ => ⟨he, hd.below⟩
  unfold larderlaw1_at.f atN
  have e1 : Int.tmod (k : Int) 2 = ((k % 2 : Nat) : Int) := by rw [Int.tmod_eq_emod_of_nonneg (by omega)]; omega
  have e2 : Int.tmod (m : Int) 251 = ((m % 251 : Nat) : Int) := by rw [Int.tmod_eq_emod_of_nonneg (by omega)]; omega
  have e3 : Int.tdiv (m : Int) 251 = ((m / 251 : Nat) : Int) := by rw [Int.tdiv_eq_ediv_of_nonneg (by omega)]; omega
  have e4 : wrap64 (7 * (m : Int)) = ((7 * m : Nat) : Int) := by rw [w64s _ (by omega) (by omega)]; omega
  rw [e1, e2, e3, e4]
  have e5 : wrap64 (((m / 251 : Nat) : Int)) = ((m / 251 : Nat) : Int) := w64s _ (by omega) (by omega)
  rw [e5]
  have e6 : wrap64 (((7 * m : Nat) : Int) + ((m / 251 : Nat) : Int)) = ((7 * m + m / 251 : Nat) : Int) := by rw [w64s _ (by omega) (by omega)]; omega
  rw [e6]
  have e7 : Int.tmod (((7 * m + m / 251 : Nat)) : Int) 251 = (((7 * m + m / 251) % 251 : Nat) : Int) := by rw [Int.tmod_eq_emod_of_nonneg (by omega)]; omega
  rw [e7]
  by_cases h : k % 2 = 0
  · rw [if_pos (by omega), if_pos h, w64s _ (by omega) (by omega)]
    congr 1; omega
  · rw [if_neg (by omega), if_neg h, w64s _ (by omega) (by omega)]
    congr 1; omega
theorem wm_all (m : Nat) (hm : m ≤ 1000000000000000) (w : World) : Calls Try.prog 64 #[.int .i64 (m : Int)] w fun e w' => e = .returned (.int .u64 (wmN m : Int)) ∧ Below w.heap.size w w' := by
  refine (larderlaw1_wordsMark.calls (m : Int) (wmN m : Int) w ?_).mono fun e w' ⟨he, hd⟩ => ⟨he, hd.below⟩
  have h : (wmN m : Int) = ((m : Int) * 1099511627776) % 18446744073709551616 := by unfold wmN; rw [Int.natCast_emod, Int.natCast_mul]; rfl
  unfold larderlaw1_wordsMark.f
  rw [h, IntKind.wrap_u64, IntKind.wrap_u64, Int.emod_eq_of_lt (a := (m : Int)) (by omega) (by omega)]
set_option maxHeartbeats 4000000 in
theorem tight.calls (W : World) (g off : Nat) (c : Nat → Value) (used n : Nat) (h : Hd W g off c) (hu : c 32 = .int .i64 (used : Int)) (hb : used ≤ 16777216) (hn : n ≤ 100000000000000000) :
    Calls Try.prog 61 #[.pointer (some ⟨g, off, none⟩), .int .i64 (n : Int)] W fun e w' =>
      (e = .returned (.bool true) ∧ w' = W) ∨ (e = .returned (.bool false) ∧ used + n ≤ 16777216 ∧ w' = W.setCell ⟨g, off + 32, none⟩ (.int .i64 ((used + n : Nat) : Int))) := by
  have hx := h.cell 32 (by omega)
  rw [hu] at hx
  obtain ⟨cur, T, hbk⟩ := h.blk
  have hfz := blk_frozen hbk (off + 32)
  obtain ⟨s, hs⟩ : ∃ s, s = used + n := ⟨_, rfl⟩
  have HE := Aside0.mk (NumB.sum_i (used : Int) n s (by omega) (by omega))
  rw [← hs]
  by_cases ht : 16777216 < s
  · have ht' : (16777216 : Int) < (s : Int) := by omega
    clear hs h hu
    go_enter Try.func61, Try.ntmps61
    obtain ⟨e1, f1⟩ := HE.out
    go_wp2_with fail
    go_ret
    exact .inl ⟨rfl, rfl⟩
  · have ht' : ¬ ((16777216 : Int) < (s : Int)) := by omega
    clear hs h hu
    go_enter Try.func61, Try.ntmps61
    obtain ⟨e1, f1⟩ := HE.out
    go_wp2_with fail
    go_ret
    exact .inr ⟨rfl, by omega, rfl⟩
end Go.Proofs.Ytgngpbcbnfmoiaa.BokT
