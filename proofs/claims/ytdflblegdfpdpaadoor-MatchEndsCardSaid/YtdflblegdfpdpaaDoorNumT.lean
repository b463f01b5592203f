/- Spellings are read back, and a spelling is its number's only one. -/
import Derived.Test.YtdflblegdfpdpaaDoorNumS
import Derived.Test.YtdflblegdfpdpaaDoorDigW
namespace Go.Proofs.YtdflblegdfpdpaaDoor.NumT
open Go Go.Proofs.YtdflblegdfpdpaaDoor.PA Go.Proofs.YtdflblegdfpdpaaDoor.NumS

theorem decV_digits (n : Nat) : decV (digitsL n) = n := by
  induction n using Nat.strongRecOn with
  | _ n ih =>
    by_cases h : n < 10
    · rw [digitsL_small h]; simp [decV]; omega
    · rw [digitsL_great h, decV_snoc, ih (n / 10) (by omega)]; omega
theorem digits_dig (n : Nat) : ∀ c ∈ digitsL n, 48 ≤ c ∧ c ≤ 57 := by
  induction n using Nat.strongRecOn with
  | _ n ih =>
    intro c hc
    by_cases h : n < 10
    · rw [digitsL_small h] at hc
      simp at hc; omega
    · rw [digitsL_great h] at hc
      rcases List.mem_append.1 hc with hc | hc
      · exact ih (n / 10) (by omega) c hc
      · simp at hc; omega
theorem digits_head (n : Nat) (h : ¬ n < 10) : 49 ≤ (digitsL n).getD 0 0 := by
  induction n using Nat.strongRecOn with
  | _ n ih =>
    have hp := digitsL_pos (n / 10)
    rw [digitsL_great h, List.getD_eq_getElem?_getD, List.getElem?_append_left (by omega), ← List.getD_eq_getElem?_getD]
    by_cases h2 : n / 10 < 10
    · rw [digitsL_small h2]; simp; omega
    · exact ih (n / 10) (by omega) h2
theorem digits_ne (n : Nat) : (digitsL n).isEmpty = false := by
  have := digitsL_pos n
  cases h : digitsL n with
  | nil => rw [h] at this; simp at this
  | cons => rfl
theorem head_mem {l : List Int} (h : l.isEmpty = false) : l.getD 0 0 ∈ l := by
  cases l with
  | nil => simp at h
  | cons a r => simp
theorem allDig_of {l : List Int} (h : ∀ c ∈ l, 48 ≤ c ∧ c ≤ 57) : allDig l = true := List.all_eq_true.2 (fun c hc => (isDig_iff c).2 (h c hc))
theorem digits_small_len {n : Nat} (h : n < 10) : (digitsL n).length = 1 := by rw [digitsL_small h]; rfl
theorem digits_plain (n : Nat) : plainB (digitsL n) = true := by
  unfold plainB
  rw [digits_ne, allDig_of (digits_dig n)]
  by_cases h : n < 10
  · rw [digits_small_len h]; simp
  · have := digits_head n h
    rw [beq_eq_false_iff_ne.2 (by omega)]; rfl
theorem digits_neg (n : Nat) : negB (digitsL n) = false := by
  unfold negB
  have := digits_dig n _ (head_mem (digits_ne n))
  rw [beq_eq_false_iff_ne.2 (by omega), Bool.and_false]
theorem digits_only {b : List Int} (h : plainB b = true) : digitsL (decV b) = b := by
  unfold plainB at h
  simp only [Bool.and_eq_true, Bool.not_eq_true'] at h
  obtain ⟨⟨h1, h2⟩, h3⟩ := h
  have hd := allDig_mem h3
  clear h3
  have hlead : 1 < b.length → 49 ≤ b.getD 0 0 := by
    intro hl
    rw [decide_eq_true hl, Bool.and_true] at h2
    have h6 := beq_eq_false_iff_ne.1 h2
    have := hd _ (head_mem h1)
    omega
  clear h2
  generalize hn : b.length = n
  induction n using Nat.strongRecOn generalizing b with
  | _ n ih =>
    rcases List.eq_nil_or_concat b with rfl | ⟨c, d, rfl⟩
    · simp at h1
    · rw [List.concat_eq_append] at *
      have hdd := hd d (by simp)
      rw [decV_snoc]
      cases c with
      | nil =>
        have : 10 * decV [] + (d - 48).toNat = (d - 48).toNat := by simp [decV]
        rw [this, digitsL_small (by omega)]
        simp; omega
      | cons a r =>
        have ha : 49 ≤ a := by simpa using hlead (by simp)
        have h10 := decV_ge a r ha
        have hp := Nat.pow_pos (n := r.length) (show 0 < 10 by decide)
        rw [digitsL_great (by omega), show (10 * decV (a :: r) + (d - 48).toNat) / 10 = decV (a :: r) from by omega]
        rw [ih (a :: r).length (by rw [← hn]; simp) (b := a :: r) rfl (fun x hx => hd x (List.mem_append_left _ hx)) (fun _ => by simpa using ha) rfl]
        congr 2
        omega

def textL (n : Int) : List Int := if n < 0 then 45 :: digitsL n.natAbs else digitsL n.toNat

theorem negB_cons (l : List Int) : negB (45 :: l) = true := rfl
theorem spell_digits (n : Nat) : spellB (digitsL n) = true := by
  unfold spellB
  rw [digits_neg, if_neg (by simp)]
  exact digits_plain n
theorem spell_minus (n : Nat) (h : 0 < n) : spellB (45 :: digitsL n) = true := by
  unfold spellB
  rw [negB_cons, if_pos rfl, List.drop_one, List.tail_cons, digits_ne, allDig_of (digits_dig n)]
  have h48 : (digitsL n).getD 0 0 ≠ 48 := by
    by_cases h10 : n < 10
    · rw [digitsL_small h10]; simp; omega
    · have := digits_head n h10; omega
  rw [beq_eq_false_iff_ne.2 h48]; rfl
theorem body_digits (n : Nat) : bodyL (digitsL n) = digitsL n := by unfold bodyL; rw [digits_neg]; rfl
theorem body_minus (l : List Int) : bodyL (45 :: l) = l := rfl

theorem int_text (n : Int) (h : -9223372036854775808 ≤ n ∧ n < 9223372036854775808) : intS (textL n) = (n, 0) := by
  unfold textL
  by_cases h0 : n < 0
  · rw [if_pos h0]
    unfold intS
    rw [spell_minus _ (by omega), if_pos rfl, negB_cons, if_pos rfl, body_minus, decV_digits, if_pos (by omega)]
    congr 1; omega
  · rw [if_neg h0]
    unfold intS
    rw [spell_digits, if_pos rfl, digits_neg, if_neg (by simp), body_digits, decV_digits, if_pos (by omega)]
    congr 1; omega
theorem uint_digits (n : Nat) (h : n < 18446744073709551616) : uintS (digitsL n) = ((n : Int), 0) := by
  unfold uintS
  rw [spell_digits, digits_neg, decV_digits, decide_eq_true h]; rfl

theorem neg_form {l : List Int} (h : negB l = true) : ∃ r, l = 45 :: r := by
  cases l with
  | nil => simp [negB] at h
  | cons a r =>
    refine ⟨r, ?_⟩
    have : a = 45 := by simpa [negB] using h
    rw [this]
theorem text_int {l : List Int} (h : (intS l).2 = 0) : textL (intS l).1 = l := by
  unfold intS at h ⊢
  by_cases hs : spellB l = true
  · rw [if_pos hs] at h ⊢
    by_cases hn : negB l = true
    · rw [if_pos hn] at h ⊢
      obtain ⟨r, rfl⟩ := neg_form hn
      rw [body_minus] at h ⊢
      by_cases hb : decV r ≤ 9223372036854775808
      · rw [if_pos hb] at h ⊢
        unfold spellB at hs
        rw [if_pos hn, List.drop_one, List.tail_cons] at hs
        simp only [Bool.and_eq_true, Bool.not_eq_true'] at hs
        obtain ⟨⟨h1, h2⟩, h3⟩ := hs
        have hp : plainB r = true := by unfold plainB; rw [h1, h2, h3]; rfl
        have hpos : 0 < decV r := by
          cases r with
          | nil => simp at h1
          | cons a r =>
            have ha := allDig_mem h3 a (List.mem_cons_self ..)
            have h6 := beq_eq_false_iff_ne.1 h2
            have := decV_ge a r (by simp at h6; omega)
            have hp := Nat.pow_pos (n := r.length) (show 0 < 10 by decide)
            omega
        show textL (-(decV r : Int)) = 45 :: r
        unfold textL
        rw [if_pos (by omega), show (-(decV r : Int)).natAbs = decV r from by omega, digits_only hp]
      · rw [if_neg hb] at h; cases h
    · rw [if_neg hn] at h ⊢
      have hb : bodyL l = l := by unfold bodyL; rw [if_neg hn]
      rw [hb] at h ⊢
      by_cases hv : decV l < 9223372036854775808
      · rw [if_pos hv] at h ⊢
        unfold spellB at hs
        rw [if_neg hn] at hs
        show textL (decV l : Int) = l
        unfold textL
        rw [if_neg (by omega), Int.toNat_natCast, digits_only hs]
      · rw [if_neg hv] at h; cases h
  · rw [if_neg hs] at h; cases h
theorem digits_uint {l : List Int} (h : (uintS l).2 = 0) : digitsL (uintS l).1.toNat = l ∧ 0 ≤ (uintS l).1 ∧ (uintS l).1 < 18446744073709551616 := by
  unfold uintS at h ⊢
  by_cases hc : (spellB l && !negB l && decide (decV l < 18446744073709551616)) = true
  · rw [if_pos hc]
    simp only [Bool.and_eq_true, Bool.not_eq_true', decide_eq_true_iff] at hc
    obtain ⟨⟨h1, h2⟩, h3⟩ := hc
    unfold spellB at h1
    rw [h2, if_neg (by simp)] at h1
    refine ⟨?_, by show (0 : Int) ≤ (decV l : Int); omega, by show (decV l : Int) < _; omega⟩
    show digitsL ((decV l : Int)).toNat = l
    rw [Int.toNat_natCast, digits_only h1]
  · rw [if_neg hc] at h; cases h
/-- A number from 0 on is read the same way, signed or not. -/
theorem int_uint {l : List Int} (h : (intS l).2 = 0) (h0 : 0 ≤ (intS l).1) : uintS l = ((intS l).1, 0) := by
  unfold intS at h h0 ⊢
  by_cases hs : spellB l = true
  · rw [if_pos hs] at h h0 ⊢
    by_cases hn : negB l = true
    · rw [if_pos hn] at h h0 ⊢
      by_cases hb : decV (bodyL l) ≤ 9223372036854775808
      · rw [if_pos hb] at h0
        obtain ⟨r, rfl⟩ := neg_form hn
        rw [body_minus] at h0
        unfold spellB at hs
        rw [if_pos hn, List.drop_one, List.tail_cons] at hs
        simp only [Bool.and_eq_true, Bool.not_eq_true'] at hs
        obtain ⟨⟨h1, h2⟩, h3⟩ := hs
        cases r with
        | nil => simp at h1
        | cons a r =>
          have ha := allDig_mem h3 a (List.mem_cons_self ..)
          have h6 := beq_eq_false_iff_ne.1 h2
          have := decV_ge a r (by simp at h6; omega)
          have hp := Nat.pow_pos (n := r.length) (show 0 < 10 by decide)
          have h0' : 0 ≤ -(decV (a :: r) : Int) := h0
          omega
      · rw [if_neg hb] at h; cases h
    · rw [if_neg hn] at h ⊢
      have hb : bodyL l = l := by unfold bodyL; rw [if_neg hn]
      rw [hb] at h ⊢
      by_cases hv : decV l < 9223372036854775808
      · rw [if_pos hv]
        unfold uintS
        rw [hs, Bool.eq_false_iff.2 hn, decide_eq_true (by omega)]; rfl
      · rw [if_neg hv] at h; cases h
  · rw [if_neg hs] at h; cases h
theorem int_range {l : List Int} : -9223372036854775808 ≤ (intS l).1 ∧ (intS l).1 < 9223372036854775808 := by
  unfold intS
  split
  · split
    · split <;> (simp only; omega)
    · split <;> (simp only; omega)
  · simp only; omega
theorem textL_len (n : Int) (h : -9223372036854775808 ≤ n ∧ n < 9223372036854775808) : (textL n).length ≤ 21 := by
  unfold textL
  split
  · have := digitsL_len 20 n.natAbs (by omega) (by decide)
    simp; omega
  · have := digitsL_len 20 n.toNat (by omega) (by decide)
    omega
theorem textL_in (n : Int) : ∀ c ∈ textL n, 0 ≤ c ∧ c < 256 := by
  intro c hc
  unfold textL at hc
  split at hc
  · rcases List.mem_cons.1 hc with rfl | hc
    · omega
    · have := digits_dig _ c hc; omega
  · have := digits_dig _ c hc; omega
end Go.Proofs.YtdflblegdfpdpaaDoor.NumT
