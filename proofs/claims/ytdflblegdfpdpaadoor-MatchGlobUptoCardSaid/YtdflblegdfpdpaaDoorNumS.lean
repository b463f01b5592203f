/- Spellings of numbers, in plain words. No program. -/
namespace Go.Proofs.YtdflblegdfpdpaaDoor.NumS

def isDig (c : Int) : Bool := decide (48 ≤ c) && decide (c ≤ 57)
def allDig (l : List Int) : Bool := l.all isDig
/-- Is it a spelling without a sign? -/
def plainB (b : List Int) : Bool := !b.isEmpty && !(b.getD 0 0 == 48 && decide (1 < b.length)) && allDig b
def negB (l : List Int) : Bool := !l.isEmpty && l.getD 0 0 == 45
def bodyL (l : List Int) : List Int := if negB l then l.drop 1 else l
def spellB (l : List Int) : Bool := if negB l then (!(l.drop 1).isEmpty && !((l.drop 1).getD 0 0 == 48) && allDig (l.drop 1)) else plainB l
/-- The number that digits say. -/
def decV (l : List Int) : Nat := l.foldl (fun n c => 10 * n + (c - 48).toNat) 0
def intS (l : List Int) : Int × Int :=
  if spellB l then (if negB l then (if decV (bodyL l) ≤ 9223372036854775808 then (-(decV (bodyL l) : Int), 0) else (0, 13)) else (if decV (bodyL l) < 9223372036854775808 then ((decV (bodyL l) : Int), 0) else (0, 13))) else (0, 12)
def uintS (l : List Int) : Int × Int := if spellB l && !negB l && decide (decV l < 18446744073709551616) then ((decV l : Int), 0) else (0, 12)

theorem decV_snoc (l : List Int) (c : Int) : decV (l ++ [c]) = 10 * decV l + (c - 48).toNat := by simp [decV]
theorem decV_from (l : List Int) (n : Nat) : l.foldl (fun n c => 10 * n + (c - 48).toNat) n = n * 10 ^ l.length + decV l := by
  induction l generalizing n with
  | nil => simp [decV]
  | cons c l ih =>
    simp only [List.foldl_cons, decV, List.length_cons]
    rw [ih, ih (10 * 0 + (c - 48).toNat), Nat.pow_succ]
    rw [Nat.mul_comm 10 n, Nat.add_mul, Nat.mul_assoc, Nat.mul_comm 10 (10 ^ l.length), Nat.mul_zero, Nat.zero_add, Nat.add_assoc]
theorem decV_cons (c : Int) (l : List Int) : decV (c :: l) = (c - 48).toNat * 10 ^ l.length + decV l := by
  have := decV_from l (c - 48).toNat
  unfold decV at this ⊢
  rw [List.foldl_cons, Nat.mul_zero, Nat.zero_add]
  exact this
theorem isDig_iff (c : Int) : isDig c = true ↔ 48 ≤ c ∧ c ≤ 57 := by simp [isDig]
theorem allDig_mem {l : List Int} (h : allDig l = true) : ∀ c ∈ l, 48 ≤ c ∧ c ≤ 57 := fun c hc => (isDig_iff c).1 (List.all_eq_true.1 h c hc)
theorem decV_lt {l : List Int} (h : ∀ c ∈ l, 48 ≤ c ∧ c ≤ 57) : decV l < 10 ^ l.length := by
  induction l with
  | nil => simp [decV]
  | cons c l ih =>
    have h1 := ih (fun x hx => h x (List.mem_cons_of_mem _ hx))
    have h2 := h c (List.mem_cons_self ..)
    rw [decV_cons, List.length_cons, Nat.pow_succ]
    have h3 : (c - 48).toNat * 10 ^ l.length ≤ 9 * 10 ^ l.length := Nat.mul_le_mul_right _ (by omega)
    omega
theorem decV_ge (c : Int) (l : List Int) (hc : 49 ≤ c) : 10 ^ l.length ≤ decV (c :: l) := by
  rw [decV_cons]
  have h3 : 1 * 10 ^ l.length ≤ (c - 48).toNat * 10 ^ l.length := Nat.mul_le_mul_right _ (by omega)
  omega
theorem decV_take (l : List Int) (k : Nat) (h : k < l.length) : decV (l.take (k + 1)) = 10 * decV (l.take k) + (l.getD k 0 - 48).toNat := by
  rw [List.take_succ_eq_append_getElem h, decV_snoc, List.getD_eq_getElem?_getD, List.getElem?_eq_getElem h]
  rfl
theorem decV_mono (l : List Int) (k : Nat) : decV (l.take k) ≤ decV l := by
  have : decV l = decV (l.take k) * 10 ^ (l.drop k).length + decV (l.drop k) := by
    conv => lhs; rw [← List.take_append_drop k l]
    unfold decV
    rw [List.foldl_append]
    exact decV_from _ _
  have hp := Nat.pow_pos (n := (l.drop k).length) (show 0 < 10 by decide)
  have := Nat.le_mul_of_pos_right (decV (l.take k)) hp
  omega
theorem allDig_take (l : List Int) (k : Nat) (h : k < l.length) : allDig (l.take (k + 1)) = (allDig (l.take k) && isDig (l.getD k 0)) := by
  rw [List.take_succ_eq_append_getElem h, List.getD_eq_getElem?_getD, List.getElem?_eq_getElem h]
  simp only [allDig, List.all_append, List.all_cons, List.all_nil, Bool.and_true, Option.getD_some]
theorem allDig_false (l : List Int) (k : Nat) (h : k < l.length) (hd : isDig (l.getD k 0) = false) : allDig l = false := by
  rw [List.getD_eq_getElem?_getD, List.getElem?_eq_getElem h] at hd
  simp only [allDig]
  rw [List.all_eq_false]
  exact ⟨l[k], List.getElem_mem h, by simpa using hd⟩
end Go.Proofs.YtdflblegdfpdpaaDoor.NumS
