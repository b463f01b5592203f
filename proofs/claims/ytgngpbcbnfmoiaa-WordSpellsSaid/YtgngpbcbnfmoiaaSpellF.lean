/- What word.Text, Int, Uint, Add, Digits compute, in plain words. -/
import Derived.Test.YtgngpbcbnfmoiaaPBx
import Derived.Test.YtgngpbcbnfmoiaaNumT
import Derived.Test.YtgngpbcbnfmoiaaPDm
namespace Go.Proofs.Ytgngpbcbnfmoiaa.SpellF
open Go Go.RowKit Go.Proofs.YtgngpbcbnfmoiaaW.PrintWords Go.Proofs.YtgngpbcbnfmoiaaW.PrintLast Go.Proofs.YtgngpbcbnfmoiaaW.PrintMore Go.Proofs.Ytgngpbcbnfmoiaa.NumS Go.Proofs.Ytgngpbcbnfmoiaa.NumT

theorem num_some (x : Int) : PA.larderlaw1_num.f x = some x := rfl
theorem dig_some (n : Int) (h : 0 ≤ n ∧ n < 18446744073709551616) : PA.word_Digits.f n = some (PA.digitsL n.toNat) := if_pos h
theorem text_some (n : Int) (h : -9223372036854775808 ≤ n ∧ n < 9223372036854775808) : PB.word_Text.f n = some (textL n) := by
  unfold PB.word_Text.f textL
  by_cases h0 : n < 0
  · have e : IntKind.u64.wrap (-(IntKind.u64.wrap n)) = (n.natAbs : Int) := by rw [IntKind.wrap_u64, IntKind.wrap_u64]; omega
    have hl := PA.digitsL_len 20 n.natAbs (by omega) (by decide)
    rw [if_pos h0, if_pos h0, Option.bind_some, e, dig_some _ (by omega), Option.bind_some, Int.toNat_natCast, if_pos (by simp; omega)]
    rfl
  · have e : IntKind.u64.wrap n = n := by rw [IntKind.wrap_u64]; omega
    rw [if_neg h0, if_neg h0, e, dig_some _ (by omega), Option.bind_some]
theorem int_some (l : List Int) : PB.word_Int.f l = some (intS l) := rfl
theorem uint_some (l : List Int) : PB.word_Uint.f l = some (uintS l) := rfl
theorem add_some (a b : Int) (ha : -9223372036854775808 ≤ a ∧ a < 9223372036854775808) (hb : -9223372036854775808 ≤ b ∧ b < 9223372036854775808) :
    PB.word_Add.f a b = some (if -9223372036854775808 ≤ a + b ∧ a + b < 9223372036854775808 then (a + b, 0) else (0, 13)) := by
  unfold PB.word_Add.f
  by_cases c : -9223372036854775808 ≤ a + b ∧ a + b < 9223372036854775808
  · have e : wrap64 (a + b) = a + b := by unfold wrap64; omega
    rw [if_pos c, e]
    by_cases h1 : ((decide (a ≥ 0)) == (decide (b ≥ 0))) = true
    · rw [if_pos h1]
      rw [beq_iff_eq, decide_eq_decide] at h1
      rw [if_neg]
      rw [bne_iff_ne, ne_eq, Decidable.not_not, decide_eq_decide]
      omega
    · rw [if_neg h1]
  · rw [if_neg c, if_pos (by rw [beq_iff_eq, decide_eq_decide]; omega), if_pos]
    rw [bne_iff_ne, ne_eq, decide_eq_decide]
    unfold wrap64
    omega

theorem ref_add_some (a b : Int) (ha : -9223372036854775808 ≤ a ∧ a < 9223372036854775808) (hb : -9223372036854775808 ≤ b ∧ b < 9223372036854775808) :
    PD.larderref1_Add.f a b = some (if -9223372036854775808 ≤ a + b ∧ a + b < 9223372036854775808 then (a + b, 0) else (0, 13)) := by
  unfold PD.larderref1_Add.f
  have e1 : b > 0 → wrap64 (9223372036854775807 - b) = 9223372036854775807 - b := fun h => by unfold wrap64; omega
  have e2 : b < 0 → wrap64 ((-9223372036854775808) - b) = (-9223372036854775808) - b := fun h => by unfold wrap64; omega
  by_cases c : -9223372036854775808 ≤ a + b ∧ a + b < 9223372036854775808
  · have e : wrap64 (a + b) = a + b := by unfold wrap64; omega
    rw [if_pos c, e]
    by_cases h1 : b > 0
    · rw [if_pos h1, e1 h1, if_neg (by omega), if_neg (by omega)]
    · rw [if_neg h1]
      by_cases h2 : b < 0
      · rw [if_pos h2, e2 h2, if_neg (by omega)]
      · rw [if_neg h2]
  · rw [if_neg c]
    by_cases h1 : b > 0
    · rw [if_pos h1, e1 h1, if_pos (by omega)]
    · have h2 : b < 0 := by omega
      rw [if_neg h1, if_pos h2, e2 h2, if_pos (by omega)]
end Go.Proofs.Ytgngpbcbnfmoiaa.SpellF
