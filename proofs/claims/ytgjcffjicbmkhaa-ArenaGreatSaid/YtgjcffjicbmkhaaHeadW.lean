/- word.Head: the machine's call gives the header's number, or 10. -/
import Derived.Test.YtgjcffjicbmkhaaWMore
import Derived.Test.YtgjcffjicbmkhaaProg
import Derived.Test.YtgjcffjicbmkhaaNumA
import Derived.WalkKit
import Derived.Laws.Shifts
import Derived.Lib.Hide
namespace Go.Proofs.Ytgjcffjicbmkhaa.PA
open Go Go.RowKit Go.Proofs.YtgjcffjicbmkhaaW.PrintWords Go.Proofs.YtgjcffjicbmkhaaW.PrintLast Go.Proofs.YtgjcffjicbmkhaaW.PrintMore
set_option linter.unusedVariables false

def headOk (k r s : Int) : Prop := 1 ≤ k ∧ k ≤ 255 ∧ 0 ≤ r ∧ r ≤ 1048576 ∧ 0 ≤ s ∧ s ≤ 1048576
instance (k r s : Int) : Decidable (headOk k r s) := by unfold headOk; infer_instance
def word_Head.f (k r s : Int) : Option (Int × Int) := if headOk k r s then some (k + 256 * r + 4294967296 * s, 0) else some (0, 10)

theorem head_bits (k r s : Int) (h : headOk k r s) : bits BinOp.or IntKind.u64 (bits BinOp.or IntKind.u64 k (r * 256)) (s * 4294967296) = k + 256 * r + 4294967296 * s := by
  obtain ⟨h1, h2, h3, h4, h5, h6⟩ := h
  rw [NumA.or_comm_u64 k _ (by omega) (by omega) (by omega) (by omega), NumA.or_u64 8 (r * 256) k (by omega) (by omega) (by omega) (by omega) (by omega) (by omega)]
  rw [NumA.or_comm_u64 _ (s * 4294967296) (by omega) (by omega) (by omega) (by omega), NumA.or_u64 32 (s * 4294967296) _ (by omega) (by omega) (by omega) (by omega) (by omega) (by omega)]
  omega

set_option maxHeartbeats 800000 in
theorem word_Head.calls (a0 : Int) (a1 : Int) (a2 : Int) (r1 : Int) (r2 : Int) (w : World) (h : word_Head.f a0 a1 a2 = some (r1, r2)) :
    Calls Try.prog 19 #[.int .i64 a0, .int .i64 a1, .int .i64 a2] w fun e w' => e = .returned (.tuple #[.int .u64 r1, .int .i64 r2]) ∧ Drawn0 w w' := by
  by_cases hok : headOk a0 a1 a2
  · have hb := Lib.hid (head_bits a0 a1 a2 hok)
    unfold word_Head.f at h
    rw [if_pos hok] at h
    unfold headOk at hok
    obtain ⟨h1, h2, h3, h4, h5, h6⟩ := hok
    injection h with h
    injection h with e1 e2
    have E1 := Lib.hid e1
    have E2 := Lib.hid e2
    clear e1 e2
    go_enter Try.func19, Try.ntmps19
    go_wp2
    go_ret2
    refine ⟨?_, Drawn0.refl _⟩
    rw [← E1.out, ← E2.out, ← hb.out]
    rfl
  · unfold word_Head.f at h
    rw [if_neg hok] at h
    injection h with h
    injection h with e1 e2
    subst e1 e2
    unfold headOk at hok
    by_cases h1 : a0 < 1
    · go_enter Try.func19, Try.ntmps19
      go_wp2
      go_ret2
      exact ⟨rfl, Drawn0.refl _⟩
    by_cases h2 : 255 < a0
    · go_enter Try.func19, Try.ntmps19
      go_wp2
      go_ret2
      exact ⟨rfl, Drawn0.refl _⟩
    by_cases h3 : a1 < 0
    · go_enter Try.func19, Try.ntmps19
      go_wp2
      go_ret2
      exact ⟨rfl, Drawn0.refl _⟩
    by_cases h4 : 1048576 < a1
    · go_enter Try.func19, Try.ntmps19
      go_wp2
      go_ret2
      exact ⟨rfl, Drawn0.refl _⟩
    by_cases h5 : a2 < 0
    · go_enter Try.func19, Try.ntmps19
      go_wp2
      go_ret2
      exact ⟨rfl, Drawn0.refl _⟩
    by_cases h6 : 1048576 < a2
    · go_enter Try.func19, Try.ntmps19
      go_wp2
      go_ret2
      exact ⟨rfl, Drawn0.refl _⟩
    exact absurd ⟨by omega, by omega, by omega, by omega, by omega, by omega⟩ hok
end Go.Proofs.Ytgjcffjicbmkhaa.PA
