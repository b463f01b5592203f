/- Bytes in words, in plain numbers. No program. -/
import Derived.Test.YtgjcffjicbmkhaaNumA
import Derived.Laws.BitsAllLaws
namespace Go.Proofs.Ytgjcffjicbmkhaa.NumB
open Go
set_option linter.unusedVariables false

/-- The byte that begins at the bit s. -/
def byteAt (x s : Nat) : Nat := x / 2 ^ s % 256
/-- The word with another byte there. -/
def putAt (x s c : Nat) : Nat := (x &&& (18446744073709551615 - 255 * 2 ^ s)) ||| (c * 2 ^ s)
theorem test_shl (c s i : Nat) : (c * 2 ^ s).testBit i = (decide (s ≤ i) && c.testBit (i - s)) := by
  rw [← Nat.shiftLeft_eq, Nat.testBit_shiftLeft]
theorem test_255 (i : Nat) : Nat.testBit 255 i = decide (i < 8) := by
  rw [show (255 : Nat) = 2 ^ 8 - 1 from rfl, Nat.testBit_two_pow_sub_one]
theorem mul_lt (c s : Nat) (hc : c < 256) (hs : s ≤ 56) : c * 2 ^ s < 2 ^ 64 := by
  have h1 : 2 ^ s ≤ 2 ^ 56 := Nat.pow_le_pow_right (by decide) hs
  calc c * 2 ^ s ≤ 255 * 2 ^ s := Nat.mul_le_mul_right _ (by omega)
    _ ≤ 255 * 2 ^ 56 := Nat.mul_le_mul_left _ h1
    _ < 2 ^ 64 := by decide
theorem test_mask (s i : Nat) (hs : s ≤ 56) : (18446744073709551615 - 255 * 2 ^ s).testBit i = (decide (i < 64) && !(decide (s ≤ i) && decide (i < s + 8))) := by
  have h := mul_lt 255 s (by decide) hs
  rw [show 18446744073709551615 - 255 * 2 ^ s = 2 ^ 64 - (255 * 2 ^ s + 1) by omega, Nat.testBit_two_pow_sub_succ h, test_shl, test_255]
  by_cases h1 : s ≤ i
  · have : (i - s < 8) ↔ (i < s + 8) := by omega
    simp [h1, this]
  · simp [h1]
theorem test_put (x s c i : Nat) (hs : s ≤ 56) (hx : x < 2 ^ 64) (hc : c < 256) : (putAt x s c).testBit i = if s ≤ i ∧ i < s + 8 then c.testBit (i - s) else x.testBit i := by
  unfold putAt
  rw [Nat.testBit_or, Nat.testBit_and, test_mask s i hs, test_shl]
  by_cases h1 : s ≤ i
  · by_cases h2 : i < s + 8
    · simp [h1, h2]
    · have h3 : c.testBit (i - s) = false := Nat.testBit_lt_two_pow (Nat.lt_of_lt_of_le hc (by rw [show 256 = 2 ^ 8 from rfl]; exact Nat.pow_le_pow_right (by decide) (by omega)))
      by_cases h4 : i < 64
      · simp [h1, h2, h3, h4]
      · have h5 : x.testBit i = false := Nat.testBit_lt_two_pow (Nat.lt_of_lt_of_le hx (Nat.pow_le_pow_right (by decide) (by omega)))
        simp [h1, h2, h3, h5]
  · by_cases h4 : i < 64
    · simp [h1, h4]
    · have h5 : x.testBit i = false := Nat.testBit_lt_two_pow (Nat.lt_of_lt_of_le hx (Nat.pow_le_pow_right (by decide) (by omega)))
      simp [h1, h5]
theorem test_byte (x s i : Nat) : (byteAt x s).testBit i = (decide (i < 8) && x.testBit (i + s)) := by
  unfold byteAt
  rw [show (256 : Nat) = 2 ^ 8 from rfl, Nat.testBit_mod_two_pow, Nat.testBit_div_two_pow]
theorem byte_put_same (x s c : Nat) (hs : s ≤ 56) (hx : x < 2 ^ 64) (hc : c < 256) : byteAt (putAt x s c) s = c := by
  apply Nat.eq_of_testBit_eq
  intro i
  rw [test_byte, test_put x s c (i + s) hs hx hc]
  by_cases h : i < 8
  · rw [if_pos (by omega), Nat.add_sub_cancel]; simp [h]
  · have h3 : c.testBit i = false := Nat.testBit_lt_two_pow (Nat.lt_of_lt_of_le hc (by rw [show 256 = 2 ^ 8 from rfl]; exact Nat.pow_le_pow_right (by decide) (by omega)))
    simp [h, h3]
theorem byte_put_other (x s c t : Nat) (hs : s ≤ 56) (hx : x < 2 ^ 64) (hc : c < 256) (h : s + 8 ≤ t ∨ t + 8 ≤ s) : byteAt (putAt x s c) t = byteAt x t := by
  apply Nat.eq_of_testBit_eq
  intro i
  rw [test_byte, test_byte, test_put x s c (i + t) hs hx hc]
  by_cases h1 : i < 8
  · rw [if_neg (by omega)]
  · simp [h1]
theorem put_lt (x s c : Nat) (hs : s ≤ 56) (hx : x < 2 ^ 64) (hc : c < 256) : putAt x s c < 2 ^ 64 := by
  unfold putAt
  exact Nat.or_lt_two_pow (Nat.lt_of_le_of_lt Nat.and_le_left hx) (mul_lt c s hc hs)
theorem byte_lt (x s : Nat) : byteAt x s < 256 := Nat.mod_lt _ (by decide)
/-- As the code reckons it. -/
theorem put_bits (x s c : Nat) (hs : s ≤ 56) (hx : x < 18446744073709551616) (hc : c < 256) :
    bits BinOp.or IntKind.u64 (bits BinOp.andNot IntKind.u64 (x : Int) (IntKind.u64.wrap (255 * 2 ^ s))) (IntKind.u64.wrap ((c : Int) * 2 ^ s)) = ((putAt x s c : Nat) : Int) := by
  have h1 := mul_lt 255 s (by decide) hs
  have h2 := mul_lt c s hc hs
  have e1 : IntKind.u64.wrap (255 * 2 ^ s) = ((255 * 2 ^ s : Nat) : Int) := by
    rw [IntKind.wrap_u64, show ((255 : Int) * 2 ^ s) = ((255 * 2 ^ s : Nat) : Int) by rw [Int.natCast_mul, Int.natCast_pow]; rfl]
    omega
  have e2 : IntKind.u64.wrap ((c : Int) * 2 ^ s) = ((c * 2 ^ s : Nat) : Int) := by
    rw [IntKind.wrap_u64, show ((c : Int) * 2 ^ s) = ((c * 2 ^ s : Nat) : Int) by rw [Int.natCast_mul, Int.natCast_pow]; rfl]
    omega
  rw [e1, e2, u64_andNot_nat x _ hx h1, bits_or_u64_nat _ _ (Nat.lt_of_le_of_lt Nat.and_le_left hx) h2]
  rfl
theorem gone_bits (t : Nat) (ht : t < 9223372036854775808) : bits BinOp.andNot IntKind.u64 ((9223372036854775808 + t : Nat) : Int) 9223372036854775808 = (t : Int) := by
  have h := u64_andNot_nat (9223372036854775808 + t) 9223372036854775808 (by omega) (by decide)
  rw [show ((9223372036854775808 : Nat) : Int) = 9223372036854775808 from rfl] at h
  rw [h, show 18446744073709551615 - 9223372036854775808 = 2 ^ 63 - 1 from rfl, Nat.and_two_pow_sub_one_eq_mod]
  omega
theorem gone_or (t : Nat) (ht : t < 9223372036854775808) : bits BinOp.or IntKind.u64 9223372036854775808 (t : Int) = ((9223372036854775808 + t : Nat) : Int) := by
  rw [NumA.or_u64 63 9223372036854775808 (t : Int) (by decide) (by decide) (by decide) (by omega) (by rw [show (2 : Int) ^ 63 = 9223372036854775808 from rfl]; omega) (by omega)]
  omega
end Go.Proofs.Ytgjcffjicbmkhaa.NumB
