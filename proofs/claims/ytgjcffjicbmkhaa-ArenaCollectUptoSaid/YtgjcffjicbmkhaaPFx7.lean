-- PRINTED by print.py (a twelfth state) out of the translation. Not trusted: Lean checks it.
import Derived.Test.YtgjcffjicbmkhaaPFx0
namespace Go.Proofs.Ytgjcffjicbmkhaa.PF
open Go.RowKit Go.Proofs.YtgjcffjicbmkhaaW.PrintWords Go.Proofs.YtgjcffjicbmkhaaW.PrintLast Go.Proofs.YtgjcffjicbmkhaaW.PrintMore
attribute [local go_sem] max2_int min2_int max_two min_two max_three min_three max_four min_four   -- for this text's walks alone
set_option linter.unusedVariables false
set_option linter.unusedSimpArgs false

/-! ### larderlaw2_three: function 30 -/
def larderlaw2_three.f (a0 : Int) : Option (Int) := some (Int.tmod (wrap64 ((Int.tmod a0 3) + 3)) 3)
set_option maxHeartbeats 8000000 in
set_option maxRecDepth 100000 in
theorem larderlaw2_three.calls (a0 : Int) (r : Int) (w : World) (h : larderlaw2_three.f a0 = some r) :
    Calls Try.prog 30 #[.int .i64 a0] w fun e w' => e = .returned (.int .i64 r) ∧ Drawn0 w w' := by
  have H : (some (Int.tmod (wrap64 ((Int.tmod a0 3) + 3)) 3)) = some r := h
  clear h
  obtain rfl := Option.some.inj H
  go_enter Try.func30, Try.ntmps30
  go_wp2
  go_ret
  exact ⟨by first | rfl | (simp; done) | (simp [*]; done), by repeat (first | exact Drawn0.refl _ | apply Drawn0.step)⟩

end Go.Proofs.Ytgjcffjicbmkhaa.PF
