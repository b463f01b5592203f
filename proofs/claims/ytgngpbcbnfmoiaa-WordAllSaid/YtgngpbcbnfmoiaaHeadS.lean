/- word.Head and word.Split in plain words. -/
import Derived.Test.YtgngpbcbnfmoiaaWordS
import Derived.Test.YtgngpbcbnfmoiaaNumA
namespace Go.Proofs.Ytgngpbcbnfmoiaa.HeadS
open Go Go.RowKit Go.Proofs.YtgngpbcbnfmoiaaW.PrintWords Go.Proofs.YtgngpbcbnfmoiaaW.PrintLast Go.Proofs.YtgngpbcbnfmoiaaW.PrintMore Go.Proofs.Ytgngpbcbnfmoiaa.PA Go.Proofs.Ytgngpbcbnfmoiaa.WordS

theorem head_ok {k r s : Int} (h : headOk k r s) : word_Head.f k r s = some (k + 256 * r + 4294967296 * s, 0) := if_pos h
theorem head_bad {k r s : Int} (h : ¬ headOk k r s) : word_Head.f k r s = some (0, 10) := if_neg h

def splitOk (x : Int) : Prop := x / 72057594037927936 = 0 ∧ x % 256 ≠ 0 ∧ x / 256 % 16777216 ≤ 1048576 ∧ x / 4294967296 % 16777216 ≤ 1048576

theorem and_255 (x : Int) (h0 : 0 ≤ x) (h1 : x < 18446744073709551616) : wrap64 (Go.bits .and .u64 x 255) = x % 256 := by
  rw [show (255 : Int) = 2 ^ 8 - 1 from rfl, NumA.and_u64 8 (by decide) x h0 h1]
  unfold wrap64; omega
theorem and_24 (x : Int) (h0 : 0 ≤ x) (h1 : x < 18446744073709551616) : wrap64 (Go.bits .and .u64 x 16777215) = x % 16777216 := by
  rw [show (16777215 : Int) = 2 ^ 24 - 1 from rfl, NumA.and_u64 24 (by decide) x h0 h1]
  unfold wrap64; omega

theorem split_some (x : Int) (h0 : 0 ≤ x) (h1 : x < 18446744073709551616) :
    word_Split.f x = if x / 72057594037927936 = 0 ∧ x % 256 ≠ 0 ∧ x / 256 % 16777216 ≤ 1048576 ∧ x / 4294967296 % 16777216 ≤ 1048576 then some (x % 256, x / 256 % 16777216, x / 4294967296 % 16777216, 0) else some (0, 0, 0, 10) := by
  unfold word_Split.f
  rw [and_255 x h0 h1, and_24 (x / 256) (by omega) (by omega), and_24 (x / 4294967296) (by omega) (by omega)]
  by_cases c1 : x / 72057594037927936 = 0
  · rw [if_pos c1]
    by_cases c2 : x % 256 = 0
    · rw [if_pos c2, if_neg (fun h => h.2.1 c2)]
    · rw [if_neg c2]
      by_cases c3 : x / 256 % 16777216 > 1048576
      · rw [if_pos c3, if_neg (fun h => by have := h.2.2.1; omega)]
      · rw [if_neg c3]
        by_cases c4 : x / 4294967296 % 16777216 > 1048576
        · rw [if_pos c4, if_neg (fun h => by have := h.2.2.2; omega)]
        · rw [if_neg c4, if_pos ⟨c1, c2, by omega, by omega⟩]
  · rw [if_neg c1, if_neg (fun h => c1 h.1)]

end Go.Proofs.Ytgngpbcbnfmoiaa.HeadS
