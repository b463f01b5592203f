/- Patterns over lists: sets of bytes as four words, pieces, what fits. No program. -/
namespace Go.Proofs.YtdflblegdfpdpaaDoor.GlobS
set_option linter.unusedVariables false

/-- A set of bytes: bit b % 64 of the word b / 64. -/
abbrev Q := Nat × Nat × Nat × Nat
def wordOf (q : Q) (k : Nat) : Nat := if k = 0 then q.1 else if k = 1 then q.2.1 else if k = 2 then q.2.2.1 else q.2.2.2
def setWord (q : Q) (k v : Nat) : Q := if k = 0 then (v, q.2) else if k = 1 then (q.1, v, q.2.2) else if k = 2 then (q.1, q.2.1, v, q.2.2.2) else (q.1, q.2.1, q.2.2.1, v)
def has (q : Q) (b : Nat) : Bool := (wordOf q (b / 64)).testBit (b % 64)
def addOne (q : Q) (b : Nat) : Q := setWord q (b / 64) (wordOf q (b / 64) ||| 2 ^ (b % 64))
/-- The n bytes from lo on. -/
def addRun (q : Q) (lo : Nat) : Nat → Q
  | 0 => q
  | n + 1 => addRun (addOne q lo) (lo + 1) n
def addQ (q : Q) (lo hi : Nat) : Q := if lo > hi then addRun q hi (lo + 1 - hi) else addRun q lo (hi + 1 - lo)
def notQ (q : Q) : Q := (18446744073709551615 - q.1, 18446744073709551615 - q.2.1, 18446744073709551615 - q.2.2.1, 18446744073709551615 - q.2.2.2)
def noneQ : Q := (0, 0, 0, 0)
def allQ : Q := (18446744073709551615, 18446744073709551615, 18446744073709551615, 18446744073709551615)
def QIn (q : Q) : Prop := q.1 < 18446744073709551616 ∧ q.2.1 < 18446744073709551616 ∧ q.2.2.1 < 18446744073709551616 ∧ q.2.2.2 < 18446744073709551616

theorem wordOf_set (q : Q) (k j v : Nat) (hk : k < 4) (hj : j < 4) : wordOf (setWord q k v) j = if j = k then v else wordOf q j := by
  unfold wordOf setWord
  have : k = 0 ∨ k = 1 ∨ k = 2 ∨ k = 3 := by omega
  have : j = 0 ∨ j = 1 ∨ j = 2 ∨ j = 3 := by omega
  rcases ‹k = 0 ∨ _› with rfl | rfl | rfl | rfl <;> rcases ‹j = 0 ∨ _› with rfl | rfl | rfl | rfl <;> simp
theorem has_addOne (q : Q) (b c : Nat) (hb : b < 256) (hc : c < 256) : has (addOne q b) c = (has q c || decide (c = b)) := by
  unfold has addOne
  rw [wordOf_set _ _ _ _ (by omega) (by omega)]
  by_cases h : c / 64 = b / 64
  · rw [if_pos h, Nat.testBit_or, Nat.testBit_two_pow, ← h]
    congr 1
    rw [decide_eq_decide]
    omega
  · rw [if_neg h]
    have : decide (c = b) = false := decide_eq_false (by omega)
    rw [this, Bool.or_false]
theorem has_addRun (n : Nat) : ∀ (q : Q) (lo c : Nat), lo + n ≤ 256 → c < 256 → has (addRun q lo n) c = (has q c || decide (lo ≤ c ∧ c < lo + n)) := by
  induction n with
  | zero => intro q lo c _ _; simp [addRun]; omega
  | succ n ih =>
    intro q lo c h hc
    rw [addRun, ih _ _ _ (by omega) hc, has_addOne _ _ _ (by omega) hc, Bool.or_assoc]
    congr 1
    rw [Bool.eq_iff_iff]
    simp
    omega
theorem has_addQ (q : Q) (lo hi c : Nat) (hl : lo < 256) (hh : hi < 256) (hc : c < 256) : has (addQ q lo hi) c = (has q c || decide (lo ≤ c ∧ c ≤ hi ∨ hi ≤ c ∧ c ≤ lo)) := by
  unfold addQ
  split
  · rw [has_addRun _ _ _ _ (by omega) hc]
    congr 1
    rw [decide_eq_decide]
    omega
  · rw [has_addRun _ _ _ _ (by omega) hc]
    congr 1
    rw [decide_eq_decide]
    omega
theorem QIn.word {q : Q} (h : QIn q) (k : Nat) : wordOf q k < 18446744073709551616 := by
  obtain ⟨h1, h2, h3, h4⟩ := h
  unfold wordOf
  split
  · exact h1
  split
  · exact h2
  split
  · exact h3
  · exact h4
theorem QIn.setW {q : Q} (h : QIn q) (k v : Nat) (hv : v < 18446744073709551616) : QIn (setWord q k v) := by
  obtain ⟨h1, h2, h3, h4⟩ := h
  unfold setWord QIn
  split
  · exact ⟨hv, h2, h3, h4⟩
  split
  · exact ⟨h1, hv, h3, h4⟩
  split
  · exact ⟨h1, h2, hv, h4⟩
  · exact ⟨h1, h2, h3, hv⟩
theorem QIn.addOne {q : Q} (h : QIn q) (b : Nat) : QIn (addOne q b) := by
  refine h.setW _ _ ?_
  have h1 : 2 ^ (b % 64) < 2 ^ 64 := Nat.pow_lt_pow_right (by decide) (by omega)
  exact Nat.or_lt_two_pow (h.word _) h1
theorem QIn.addRun {n : Nat} : ∀ {q : Q} (_ : QIn q) (lo : Nat), QIn (GlobS.addRun q lo n) := by
  induction n with
  | zero => intro q h lo; exact h
  | succ n ih => intro q h lo; exact ih (h.addOne lo) _
theorem QIn.addQ {q : Q} (h : QIn q) (lo hi : Nat) : QIn (GlobS.addQ q lo hi) := by
  unfold GlobS.addQ
  split <;> exact h.addRun _
theorem QIn.notQ (q : Q) : QIn (GlobS.notQ q) := by unfold GlobS.notQ QIn; dsimp only; omega
theorem QIn.noneQ : QIn noneQ := by unfold GlobS.noneQ QIn; decide
theorem QIn.allQ : QIn allQ := by unfold GlobS.allQ QIn; decide
theorem testBit_not (x i : Nat) (hx : x < 18446744073709551616) (hi : i < 64) : (18446744073709551615 - x).testBit i = !x.testBit i := by
  have := Nat.testBit_two_pow_sub_succ (n := 64) (x := x) hx i
  rw [show 18446744073709551615 - x = 2 ^ 64 - (x + 1) by omega, this]
  simp [hi]
theorem has_notQ {q : Q} (h : QIn q) (c : Nat) (hc : c < 256) : has (notQ q) c = !has q c := by
  have hw : wordOf (notQ q) (c / 64) = 18446744073709551615 - wordOf q (c / 64) := by
    unfold notQ wordOf
    split
    · rfl
    split
    · rfl
    split <;> rfl
  unfold has
  rw [hw, testBit_not _ _ (h.word _) (by omega)]
theorem has_noneQ (c : Nat) : has noneQ c = false := by
  unfold has noneQ wordOf
  simp
theorem has_allQ (c : Nat) (hc : c < 256) : has allQ c = true := by
  have h : allQ = notQ noneQ := by decide
  rw [h, has_notQ QIn.noneQ c hc, has_noneQ]
  rfl
/-- A set in which nothing is. -/
theorem none_of {q : Q} (h : QIn q) (hn : ∀ c, c < 256 → has q c = false) : q = noneQ := by
  have hz : ∀ k, k < 4 → wordOf q k = 0 := by
    intro k hk
    refine Nat.eq_of_testBit_eq fun i => ?_
    rw [Nat.zero_testBit]
    by_cases hi : i < 64
    · have := hn (64 * k + i) (by omega)
      unfold has at this
      rwa [show (64 * k + i) / 64 = k by omega, show (64 * k + i) % 64 = i by omega] at this
    · refine Nat.testBit_lt_two_pow (Nat.lt_of_lt_of_le (h.word k) ?_)
      exact Nat.pow_le_pow_right (n := 2) (by decide) (show 64 ≤ i by omega)
  obtain ⟨a, b, c, d⟩ := q
  have h0 := hz 0 (by decide)
  have h1 := hz 1 (by decide)
  have h2 := hz 2 (by decide)
  have h3 := hz 3 (by decide)
  simp [wordOf] at h0 h1 h2 h3
  simp [noneQ, h0, h1, h2, h3]

/-- A piece: a star (and the set that stands there then), or a set. -/
structure Pc where
  star : Bool
  set : Q

/-- The byte ahead, or the one that a backslash there stands for; what stands behind. -/
def quotedL : List Int → Int × List Int
  | 92 :: c :: r => (c, r)
  | c :: r => (c, r)
  | [] => (0, [])
theorem quotedL_len (c : Int) (r : List Int) : (quotedL (c :: r)).2.length ≤ r.length := by
  unfold quotedL
  split
  · rename_i h
    injection h with h1 h2
    subst h2
    simp
  · rename_i h
    injection h with h1 h2
    subst h2
    simp
  · simp
def rangeL : List Int → Bool
  | 45 :: y :: _ => !(y == 93)
  | _ => false
theorem quotedL_le (l : List Int) : (quotedL l).2.length ≤ l.length - 1 := by
  cases l with
  | nil => simp [quotedL]
  | cons c r => have := quotedL_len c r; simp only [List.length_cons]; omega
/-- The members of a class from here on; what stands behind its end. -/
def classL (l : List Int) (q : Q) : Q × List Int :=
  match l with
  | [] => (q, [])
  | c :: r =>
    if c = 93 then (q, r)
    else
      have h1 : (quotedL (c :: r)).2.length ≤ (c :: r).length - 1 := quotedL_le _
      have h2 : (quotedL (quotedL (c :: r)).2.tail).2.length ≤ (quotedL (c :: r)).2.tail.length - 1 := quotedL_le _
      if rangeL (quotedL (c :: r)).2 then classL (quotedL (quotedL (c :: r)).2.tail).2 (addQ q (quotedL (c :: r)).1.toNat (quotedL (quotedL (c :: r)).2.tail).1.toNat)
      else classL (quotedL (c :: r)).2 (addQ q (quotedL (c :: r)).1.toNat (quotedL (c :: r)).1.toNat)
termination_by l.length
decreasing_by
  all_goals (simp only [List.length_cons, List.length_tail] at *; omega)
theorem classL_len : ∀ (n : Nat) (l : List Int) (q : Q), l.length ≤ n → (classL l q).2.length ≤ l.length - 1 := by
  intro n
  induction n with
  | zero =>
    intro l q h
    have : l = [] := List.length_eq_zero_iff.1 (by omega)
    subst this
    rw [classL]; simp
  | succ n ih =>
    intro l q h
    cases l with
    | nil => rw [classL]; simp
    | cons c r =>
      have h1 : (quotedL (c :: r)).2.length ≤ (c :: r).length - 1 := quotedL_le _
      have h2 : (quotedL (quotedL (c :: r)).2.tail).2.length ≤ (quotedL (c :: r)).2.tail.length - 1 := quotedL_le _
      rw [classL]
      simp only [List.length_cons, List.length_tail] at h h1 h2 ⊢
      split
      · simp
      · split
        · have := ih (quotedL (quotedL (c :: r)).2.tail).2 (addQ q (quotedL (c :: r)).1.toNat (quotedL (quotedL (c :: r)).2.tail).1.toNat) (by omega)
          omega
        · have := ih (quotedL (c :: r)).2 (addQ q (quotedL (c :: r)).1.toNat (quotedL (c :: r)).1.toNat) (by omega)
          omega
def membersL : List Int → Q × List Int
  | 94 :: r => (notQ (classL r noneQ).1, (classL r noneQ).2)
  | l => classL l noneQ
theorem membersL_len (l : List Int) : (membersL l).2.length ≤ l.length := by
  unfold membersL
  split
  · rename_i r
    have := classL_len _ r noneQ (Nat.le_refl _)
    simp only [List.length_cons]
    omega
  · have := classL_len _ l noneQ (Nat.le_refl _)
    omega
def oneQ (c : Int) : Q := addQ noneQ c.toNat c.toNat
/-- The first piece of a pattern that is not empty; what stands behind. -/
def pieceL : List Int → Pc × List Int
  | [] => (⟨false, noneQ⟩, [])
  | c :: r => if c = 42 then (⟨true, noneQ⟩, r) else if c = 63 then (⟨false, allQ⟩, r) else if c = 91 then (⟨false, (membersL r).1⟩, (membersL r).2) else (⟨false, oneQ (quotedL (c :: r)).1⟩, (quotedL (c :: r)).2)
theorem pieceL_cons (c : Int) (r : List Int) : pieceL (c :: r) = if c = 42 then (⟨true, noneQ⟩, r) else if c = 63 then (⟨false, allQ⟩, r) else if c = 91 then (⟨false, (membersL r).1⟩, (membersL r).2) else (⟨false, oneQ (quotedL (c :: r)).1⟩, (quotedL (c :: r)).2) := rfl
theorem pieceL_len (c : Int) (r : List Int) : (pieceL (c :: r)).2.length ≤ r.length := by
  rw [pieceL_cons]
  split
  · exact Nat.le_refl _
  split
  · exact Nat.le_refl _
  split
  · exact membersL_len r
  · exact quotedL_len c r
def piecesL (l : List Int) : List Pc :=
  match l with
  | [] => []
  | c :: r =>
    have : (pieceL (c :: r)).2.length ≤ r.length := pieceL_len c r
    (pieceL (c :: r)).1 :: piecesL (pieceL (c :: r)).2
termination_by l.length
decreasing_by simp; omega

/-- Does a text fit the pieces? -/
def fits : List Pc → List Int → Bool
  | [], t => t.isEmpty
  | p :: l, t => if p.star then (List.range (t.length + 1)).any fun k => fits l (t.drop k) else match t with
    | [] => false
    | c :: r => has p.set c.toNat && fits l r
def globL (p t : List Int) : Bool := fits (piecesL p) t

theorem fits_star {p : Pc} {l : List Pc} {t : List Int} (h : p.star = true) : fits (p :: l) t = true ↔ ∃ k, k ≤ t.length ∧ fits l (t.drop k) = true := by
  rw [fits.eq_def]
  simp only [h, if_true]
  rw [List.any_eq_true]
  constructor
  · rintro ⟨k, h1, h2⟩
    exact ⟨k, by have := List.mem_range.1 h1; omega, h2⟩
  · rintro ⟨k, h1, h2⟩
    exact ⟨k, List.mem_range.2 (by omega), h2⟩
theorem fits_set {p : Pc} {l : List Pc} {c : Int} {t : List Int} (h : p.star = false) : fits (p :: l) (c :: t) = (has p.set c.toNat && fits l t) := by
  rw [fits, h]; rfl
theorem fits_set_nil {p : Pc} {l : List Pc} (h : p.star = false) : fits (p :: l) [] = false := by
  rw [fits, h]; rfl
end Go.Proofs.YtdflblegdfpdpaaDoor.GlobS
