/- Sums, differences, products that stay within int, under both names of the wrap. No program. -/
import Derived.Test.YtgjcffjicbmkhaaRowU
namespace Go.Proofs.Ytgjcffjicbmkhaa.NumB
open Go Go.RowKit
/-- A sum that stays within int: under both names of the wrap. -/
theorem sum_i (a b : Int) (c : Nat) (h : a + b = c) (hc : c < 4611686018427387904) : wrap64 (a + b) = (c : Int) ∧ IntKind.i64.wrap (a + b) = (c : Int) := by
  rw [h]
  exact ⟨by unfold wrap64; omega, by rw [IntKind.wrap_i64]; omega⟩
theorem dif_i (a b : Int) (c : Nat) (h : a - b = c) (hc : c < 4611686018427387904) : wrap64 (a - b) = (c : Int) ∧ IntKind.i64.wrap (a - b) = (c : Int) := by
  rw [h]
  exact ⟨by unfold wrap64; omega, by rw [IntKind.wrap_i64]; omega⟩
theorem mul_i (a b : Int) (c : Nat) (h : a * b = c) (hc : c < 4611686018427387904) : wrap64 (a * b) = (c : Int) ∧ IntKind.i64.wrap (a * b) = (c : Int) := by
  rw [h]
  exact ⟨by unfold wrap64; omega, by rw [IntKind.wrap_i64]; omega⟩
end Go.Proofs.Ytgjcffjicbmkhaa.NumB
