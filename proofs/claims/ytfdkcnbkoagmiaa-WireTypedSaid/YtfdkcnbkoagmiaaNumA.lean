/- Plain lemmas on numbers: bytes as words, bits of naturals. No program. -/
import Derived.Laws.BitsLemmas
import Derived.Laws.Bits64
import Derived.Laws.Bits64b
namespace Go.Proofs.Ytfdkcnbkoagmiaa.NumA
open Go

/-- The number that bytes spell, the lowest first. -/
def valN : List Int → Int
  | [] => 0
  | b :: r => b + 256 * valN r

def isB (b : Int) : Prop := 0 ≤ b ∧ b < 256

theorem valN_append (x y : List Int) : valN (x ++ y) = valN x + 256 ^ x.length * valN y := by
  induction x with
  | nil => simp [valN]
  | cons b r ih =>
    simp only [List.cons_append, valN, ih, List.length_cons]
    rw [Int.pow_succ, Int.mul_add]
    rw [← Int.mul_assoc 256, Int.mul_comm 256 (256 ^ r.length)]
    omega

theorem valN_bounds (x : List Int) (h : ∀ b ∈ x, isB b) : 0 ≤ valN x ∧ valN x < 256 ^ x.length := by
  induction x with
  | nil => simp [valN]
  | cons b r ih =>
    obtain ⟨h1, h2⟩ := ih (fun b hb => h b (List.mem_cons_of_mem _ hb))
    obtain ⟨h3, h4⟩ := h b (List.mem_cons_self ..)
    simp only [valN, List.length_cons]
    rw [Int.pow_succ]
    omega

/-- A digit of it. -/
theorem valN_digit (x : List Int) (h : ∀ b ∈ x, isB b) (t : Nat) : valN x / 256 ^ t % 256 = x.getD t 0 := by
  induction x generalizing t with
  | nil => simp [valN]
  | cons b r ih =>
    obtain ⟨h3, h4⟩ := h b (List.mem_cons_self ..)
    have ih' := ih (fun b hb => h b (List.mem_cons_of_mem _ hb))
    cases t with
    | zero => simp only [valN]; simp; omega
    | succ t =>
      have e : valN (b :: r) / 256 ^ (t + 1) = valN r / 256 ^ t := by
        rw [Int.pow_succ, Int.mul_comm, ← Int.ediv_ediv_of_nonneg (by omega)]
        simp only [valN]
        rw [show (b + 256 * valN r) / 256 = valN r from by omega]
      rw [e, ih']
      simp

/-- or of what lies apart is the sum. -/
theorem or_u64 (i : Nat) (x y : Int) (hx₀ : 0 ≤ x) (hx : x % 2 ^ i = 0) (hx₁ : x < 18446744073709551616) (hy₀ : 0 ≤ y) (hy : y < 2 ^ i) (hy₁ : y < 18446744073709551616) : bits .or .u64 x y = x + y :=
  bits_join .u64 64 (by decide) (fun n h0 h1 => by rw [IntKind.wrap_u64]; omega) i x y hx₀ hx (by omega) hy₀ hy (by omega)

theorem or_u64_nat (a b : Nat) (ha : a < 18446744073709551616) (hb : b < 18446744073709551616) : bits .or .u64 (a : Int) (b : Int) = ((a ||| b : Nat) : Int) := bits_or_u64_nat a b ha hb

theorem or_comm_u64 (x y : Int) (hx₀ : 0 ≤ x) (hx₁ : x < 18446744073709551616) (hy₀ : 0 ≤ y) (hy₁ : y < 18446744073709551616) : bits .or .u64 x y = bits .or .u64 y x := by
  obtain ⟨a, rfl⟩ := Int.eq_ofNat_of_zero_le hx₀
  obtain ⟨b, rfl⟩ := Int.eq_ofNat_of_zero_le hy₀
  rw [or_u64_nat a b (by omega) (by omega), or_u64_nat b a (by omega) (by omega), Nat.or_comm]

theorem and_u64 (i : Nat) (hi : i ≤ 64) (x : Int) (h₀ : 0 ≤ x) (h₁ : x < 18446744073709551616) : bits .and .u64 x (2 ^ i - 1) = x % 2 ^ i :=
  bits_mask .u64 64 (by decide) (fun n h0 h1 => by rw [IntKind.wrap_u64]; omega) i hi x h₀ (by omega)

theorem pow256 (t : Nat) : (2 : Int) ^ (8 * t) = 256 ^ t := by rw [Int.pow_mul]; rfl

end Go.Proofs.Ytfdkcnbkoagmiaa.NumA
