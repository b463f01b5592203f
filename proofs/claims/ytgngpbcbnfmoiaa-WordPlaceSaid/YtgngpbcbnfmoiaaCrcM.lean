/- The cyclic sum as a linear map over bits. Plain Lean, no program. -/
namespace Go.Proofs.Ytgngpbcbnfmoiaa.CrcM

def P : Nat := 0x42F0E1EBA9EA3693
def T (r : Nat) : Nat := ((r * 2) % 18446744073709551616) ^^^ (if r.testBit 63 then P else 0)

theorem P_lt : P < 18446744073709551616 := by decide
theorem T_lt (r : Nat) : T r < 18446744073709551616 := by
  unfold T
  refine Nat.xor_lt_two_pow (n := 64) (Nat.mod_lt _ (by decide)) ?_
  split
  · exact P_lt
  · decide

theorem dbl_testBit (r i : Nat) : (r * 2 % 18446744073709551616).testBit i = (decide (i < 64) && decide (1 ≤ i) && r.testBit (i - 1)) := by
  rw [show (18446744073709551616 : Nat) = 2 ^ 64 from rfl, Nat.testBit_mod_two_pow, show r * 2 = r <<< 1 from by rw [Nat.shiftLeft_eq], Nat.testBit_shiftLeft, Bool.and_assoc]

theorem xlc (a b c : Nat) : a ^^^ (b ^^^ c) = b ^^^ (a ^^^ c) := by rw [← Nat.xor_assoc, Nat.xor_comm a b, Nat.xor_assoc]
theorem eq_of_xor {a b : Nat} (h : a ^^^ b = 0) : a = b := by
  have : a ^^^ b ^^^ b = 0 ^^^ b := by rw [h]
  simpa [Nat.xor_assoc, Nat.xor_self] using this

theorem T_xor (a b : Nat) : T (a ^^^ b) = T a ^^^ T b := by
  have h1 : ((a ^^^ b) * 2) % 18446744073709551616 = (a * 2 % 18446744073709551616) ^^^ (b * 2 % 18446744073709551616) := by
    apply Nat.eq_of_testBit_eq
    intro i
    rw [Nat.testBit_xor, dbl_testBit, dbl_testBit, dbl_testBit, Nat.testBit_xor]
    cases decide (i < 64) <;> cases decide (1 ≤ i) <;> simp
  unfold T
  rw [h1, Nat.testBit_xor]
  cases a.testBit 63 <;> cases b.testBit 63
  · simp
  · simp [Nat.xor_assoc]
  · simp [Nat.xor_comm, xlc]
  · simp only [Bool.true_xor, Bool.not_true, if_true, Bool.false_eq_true, if_false, Nat.xor_zero]
    rw [Nat.xor_assoc, xlc P, Nat.xor_self, Nat.xor_zero]

theorem T_zero : T 0 = 0 := by decide

theorem T_small (r : Nat) (h : r < 9223372036854775808) : T r = r * 2 := by
  unfold T
  have : r.testBit 63 = false := Nat.testBit_lt_two_pow h
  rw [this]
  simp
  omega

theorem T_inj (r : Nat) (h : r < 18446744073709551616) (h0 : T r = 0) : r = 0 := by
  by_cases hs : r < 9223372036854775808
  · rw [T_small r hs] at h0; omega
  · unfold T at h0
    have h1 : (r * 2) % 18446744073709551616 = if r.testBit 63 then P else 0 := eq_of_xor h0
    split at h1
    · have : (r * 2) % 18446744073709551616 % 2 = P % 2 := by rw [h1]
      have hp : P % 2 = 1 := by decide
      omega
    · rename_i hb
      refine absurd ?_ hb
      obtain ⟨x, rfl⟩ : ∃ x, r = 2 ^ 63 + x := ⟨r - 2 ^ 63, by omega⟩
      rw [Nat.testBit_two_pow_add_eq, Nat.testBit_lt_two_pow (by omega)]
      rfl

def Tn : Nat → Nat → Nat
  | 0, r => r
  | n + 1, r => Tn n (T r)

theorem Tn_xor (n a b : Nat) : Tn n (a ^^^ b) = Tn n a ^^^ Tn n b := by
  induction n generalizing a b with
  | zero => rfl
  | succ n ih => simp only [Tn]; rw [T_xor, ih]
theorem Tn_zero (n : Nat) : Tn n 0 = 0 := by
  induction n with
  | zero => rfl
  | succ n ih => simp only [Tn, T_zero, ih]
theorem Tn_lt (n r : Nat) (h : r < 18446744073709551616) : Tn n r < 18446744073709551616 := by
  induction n generalizing r with
  | zero => exact h
  | succ n ih => exact ih _ (T_lt r)
theorem Tn_inj (n r : Nat) (h : r < 18446744073709551616) (h0 : Tn n r = 0) : r = 0 := by
  induction n generalizing r with
  | zero => exact h0
  | succ n ih => exact T_inj r h (ih _ (T_lt r) h0)
theorem Tn_add (m n r : Nat) : Tn (m + n) r = Tn n (Tn m r) := by
  induction m generalizing r with
  | zero => simp [Tn]
  | succ m ih => rw [show m + 1 + n = (m + n) + 1 from by omega]; simp only [Tn]; exact ih _
theorem Tn_small (n r : Nat) (h : r * 2 ^ n < 18446744073709551616) : Tn n r = r * 2 ^ n := by
  induction n generalizing r with
  | zero => simp [Tn]
  | succ n ih =>
    have e : r * 2 ^ (n + 1) = r * 2 * 2 ^ n := by rw [Nat.pow_succ, Nat.mul_comm (2 ^ n) 2, Nat.mul_assoc]
    have hp : 0 < 2 ^ n := Nat.two_pow_pos n
    have h2 : r * 2 ≤ r * 2 * 2 ^ n := Nat.le_mul_of_pos_right _ hp
    simp only [Tn]
    rw [T_small r (by rw [e] at h; omega), ih _ (by rw [← e]; exact h), e]

def top (b : Bool) : Nat := if b then 9223372036854775808 else 0
/-- The register behind bits. -/
def F (r : Nat) (l : List Bool) : Nat := l.foldl (fun r b => T (r ^^^ top b)) r
theorem F_nil (r : Nat) : F r [] = r := rfl
theorem F_cons (r : Nat) (b : Bool) (l : List Bool) : F r (b :: l) = F (T (r ^^^ top b)) l := rfl
theorem F_append (r : Nat) (a b : List Bool) : F r (a ++ b) = F (F r a) b := List.foldl_append ..
theorem F_lt (r : Nat) (l : List Bool) (h : r < 18446744073709551616) : F r l < 18446744073709551616 := by
  induction l generalizing r with
  | nil => exact h
  | cons b l ih => exact ih _ (T_lt _)

theorem top_xor (a b : Bool) : top (a ^^ b) = top a ^^^ top b := by cases a <;> cases b <;> decide

/-- Two texts at once. -/
theorem F_xor (r s : Nat) : ∀ (a b : List Bool), a.length = b.length → F (r ^^^ s) (List.zipWith (fun x y => x ^^ y) a b) = F r a ^^^ F s b := by
  intro a
  induction a generalizing r s with
  | nil =>
    intro b h
    cases b with
    | nil => rfl
    | cons => simp at h
  | cons x a ih =>
    intro b h
    cases b with
    | nil => simp at h
    | cons y b =>
      simp only [List.zipWith_cons_cons, F_cons]
      rw [← ih _ _ b (by simpa using h), ← T_xor, top_xor]
      congr 2
      rw [Nat.xor_assoc, Nat.xor_assoc, ← Nat.xor_assoc s, Nat.xor_comm s (top x), Nat.xor_assoc]

theorem F_zeros (r n : Nat) : F r (List.replicate n false) = Tn n r := by
  induction n generalizing r with
  | zero => rfl
  | succ n ih =>
    rw [List.replicate_succ, F_cons, ih]
    simp [Tn, top]

/-- The number of bits, the highest first. -/
def valB : List Bool → Nat
  | [] => 0
  | b :: l => b.toNat * 2 ^ l.length + valB l
theorem valB_lt (l : List Bool) : valB l < 2 ^ l.length := by
  induction l with
  | nil => simp [valB]
  | cons b l ih =>
    simp only [valB, List.length_cons, Nat.pow_succ]
    cases b <;> simp <;> omega
theorem valB_zero (l : List Bool) (h : valB l = 0) : ∀ b ∈ l, b = false := by
  induction l with
  | nil => intro b hb; simp at hb
  | cons b l ih =>
    simp only [valB] at h
    have hp : 0 < 2 ^ l.length := Nat.two_pow_pos _
    intro x hx
    rcases List.mem_cons.1 hx with rfl | hx
    · cases x with
      | false => rfl
      | true => simp at h
    · exact ih (by omega) x hx

def X (l : List Bool) : Nat := valB l * 2 ^ (64 - l.length)

theorem xor_top (x : Nat) (h : x < 9223372036854775808) : 9223372036854775808 ^^^ x = 9223372036854775808 + x := by
  apply Nat.eq_of_testBit_eq
  intro i
  rw [Nat.testBit_xor, show (9223372036854775808 : Nat) = 2 ^ 63 from rfl, Nat.testBit_two_pow]
  rcases Nat.lt_trichotomy i 63 with hi | rfl | hi
  · rw [Nat.testBit_two_pow_add_gt hi]
    simp [show ¬ 63 = i from by omega]
  · rw [Nat.testBit_two_pow_add_eq, Nat.testBit_lt_two_pow h]
    rfl
  · have h1 : x.testBit i = false := Nat.testBit_lt_two_pow (Nat.lt_of_lt_of_le h (Nat.pow_le_pow_right (n := 2) (by decide) (show 63 ≤ i by omega)))
    have h2 : (2 ^ 63 + x).testBit i = false := Nat.testBit_lt_two_pow (Nat.lt_of_lt_of_le (show 2 ^ 63 + x < 2 ^ 64 by omega) (Nat.pow_le_pow_right (n := 2) (by decide) (show 64 ≤ i by omega)))
    rw [h1, h2]
    simp [show ¬ 63 = i from by omega]

theorem X_cons (b : Bool) (l : List Bool) (h : l.length + 1 ≤ 64) : ∃ y, y < 9223372036854775808 ∧ X l = y * 2 ∧ X (b :: l) = top b ^^^ y := by
  obtain ⟨k, hk⟩ : ∃ k, 64 - l.length = k + 1 := ⟨63 - l.length, by omega⟩
  have hl := valB_lt l
  have hm : l.length + k = 63 := by omega
  have hp : 2 ^ l.length * 2 ^ k = 9223372036854775808 := by rw [← Nat.pow_add, hm]
  have hy : valB l * 2 ^ k < 9223372036854775808 := by
    rw [← hp]
    exact Nat.mul_lt_mul_of_pos_right hl (Nat.two_pow_pos k)
  refine ⟨valB l * 2 ^ k, hy, ?_, ?_⟩
  · unfold X
    rw [hk, Nat.pow_succ, Nat.mul_assoc]
  · unfold X
    rw [List.length_cons, show 64 - (l.length + 1) = k from by omega]
    simp only [valB]
    rw [Nat.add_mul, Nat.mul_assoc, hp]
    cases b with
    | false => simp [top]
    | true => simp only [top, if_true]; rw [xor_top _ hy]; simp

/-- Up to 64 bits at once. -/
theorem F_eq (r : Nat) (l : List Bool) (h : l.length ≤ 64) : F r l = Tn l.length (r ^^^ X l) := by
  induction l generalizing r with
  | nil => simp [F, Tn, X, valB]
  | cons b l ih =>
    obtain ⟨y, hy, h1, h2⟩ := X_cons b l (by simpa using h)
    rw [F_cons, ih _ (by simp at h; omega), h2, List.length_cons]
    simp only [Tn]
    rw [← Nat.xor_assoc, T_xor (r ^^^ top b) y, T_small y hy, h1]

/-- A window of up to 64 bits, zeros ahead and behind: the sum is 0 if and only if the window is. -/
theorem F_window (a z : Nat) (l : List Bool) (h : l.length ≤ 64) (h0 : F 0 (List.replicate a false ++ l ++ List.replicate z false) = 0) : ∀ b ∈ l, b = false := by
  rw [F_append, F_append, F_zeros, F_zeros, Tn_zero, F_eq _ _ h, Nat.zero_xor] at h0
  have hX : X l < 18446744073709551616 := by
    unfold X
    have hp : 2 ^ l.length * 2 ^ (64 - l.length) = 18446744073709551616 := by rw [← Nat.pow_add, show l.length + (64 - l.length) = 64 from by omega]
    rw [← hp]
    exact Nat.mul_lt_mul_of_pos_right (valB_lt l) (Nat.two_pow_pos _)
  have h1 := Tn_inj _ _ hX (Tn_inj _ _ (Tn_lt _ _ hX) h0)
  unfold X at h1
  refine valB_zero l ?_
  rcases Nat.mul_eq_zero.1 h1 with h | h
  · exact h
  · have := Nat.two_pow_pos (64 - l.length); omega

/-- Where a register's own bits follow, 0 is left. -/
theorem F_self (r : Nat) (l : List Bool) (h : l.length = 64) (hv : valB l = r) : F r l = 0 := by
  rw [F_eq r l (by omega)]
  unfold X
  rw [h, hv]
  simp [Nat.xor_self, Tn_zero]

end Go.Proofs.Ytgngpbcbnfmoiaa.CrcM
