-- PRINTED by print.py (a twelfth state) out of the translation. Not trusted: Lean checks it.
import Derived.Test.YtgngpbcbnfmoiaaPFx0
namespace Go.Proofs.Ytgngpbcbnfmoiaa.PF
open Go.RowKit Go.Proofs.YtgngpbcbnfmoiaaW.PrintWords Go.Proofs.YtgngpbcbnfmoiaaW.PrintLast Go.Proofs.YtgngpbcbnfmoiaaW.PrintMore
attribute [local go_sem] max2_int min2_int max_two min_two max_three min_three max_four min_four   -- for this text's walks alone
set_option linter.unusedVariables false
set_option linter.unusedSimpArgs false

/-! ### larderlaw1_at: function 60 -/
def larderlaw1_at.f (a0 : Int) (a1 : Int) : Option (Int) := if (Int.tmod a1 2) = 0 then (some ((wrap64 (1 + (Int.tmod a0 251))) % 256)) else (some ((wrap64 (1 + (Int.tmod (wrap64 ((wrap64 (7 * a0)) + (wrap64 (Int.tdiv a0 251)))) 251))) % 256))
set_option maxHeartbeats 8000000 in
set_option maxRecDepth 100000 in
theorem larderlaw1_at.calls (a0 : Int) (a1 : Int) (r : Int) (w : World) (h : larderlaw1_at.f a0 a1 = some r) :
    Calls Try.prog 60 #[.int .i64 a0, .int .i64 a1] w fun e w' => e = .returned (.int .u8 r) ∧ Drawn0 w w' := by
  have H : (if (Int.tmod a1 2) = 0 then (some ((wrap64 (1 + (Int.tmod a0 251))) % 256)) else (some ((wrap64 (1 + (Int.tmod (wrap64 ((wrap64 (7 * a0)) + (wrap64 (Int.tdiv a0 251)))) 251))) % 256))) = some r := h
  clear h
  by_cases c3 : (Int.tmod a1 2) = 0
  · rw [if_pos c3] at H
    have c3b0 : ((Int.tmod a1 2) == 0) = true := beq_iff_eq.mpr c3
    have c3b1 : ((Int.tmod a1 2) != 0) = false := bne_eq_false_iff_eq.mpr c3
    clear c3
    obtain rfl := Option.some.inj H
    go_enter Try.func60, Try.ntmps60
    go_wp2
    go_ret
    exact ⟨by first | rfl | (simp; done) | (simp [*]; done), by repeat (first | exact Drawn0.refl _ | apply Drawn0.step)⟩
  · rw [if_neg c3] at H
    have c3b0 : ((Int.tmod a1 2) == 0) = false := beq_eq_false_iff_ne.mpr c3
    have c3b1 : ((Int.tmod a1 2) != 0) = true := bne_iff_ne.mpr c3
    obtain rfl := Option.some.inj H
    go_enter Try.func60, Try.ntmps60
    go_wp2
    go_ret
    exact ⟨by first | rfl | (simp; done) | (simp [*]; done), by repeat (first | exact Drawn0.refl _ | apply Drawn0.step)⟩

end Go.Proofs.Ytgngpbcbnfmoiaa.PF
