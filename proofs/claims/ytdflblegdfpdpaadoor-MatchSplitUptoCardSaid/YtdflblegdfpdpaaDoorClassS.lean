/- Written pieces: which pieces a pattern out of them gives; a pattern of two parts. No program. -/
import Derived.Test.YtdflblegdfpdpaaDoorQuoteS
namespace Go.Proofs.YtdflblegdfpdpaaDoor.ClassS
open Go.Proofs.YtdflblegdfpdpaaDoor.GlobS Go.Proofs.YtdflblegdfpdpaaDoor.GlobT Go.Proofs.YtdflblegdfpdpaaDoor.QuoteS
set_option linter.unusedVariables false

/-- Lo, Hi, Range, Plain -/
structure Mem where
  lo : Int
  hi : Int
  range : Bool
  plain : Bool
structure Pie where
  d : Int
  b : Int
  neg : Bool
  ms : List Mem
def goodMem (m : Mem) : Prop := (0 ≤ m.lo ∧ m.lo < 256) ∧ 0 ≤ m.hi ∧ m.hi < 256
def spellL (b : Int) (plain : Bool) : List Int := if plain && b != 92 && b != 93 && b != 45 && b != 94 then [b] else [92, b]
def memL (m : Mem) : List Int := spellL m.lo m.plain ++ (if m.range then 45 :: spellL m.hi m.plain else [])
def memsL (ms : List Mem) : List Int := ms.flatMap memL
def writeL (x : Pie) : List Int :=
  if x.d = 0 then [42] else if x.d = 1 then [63] else if x.d = 2 then [92, x.b] else ([91] ++ (if x.neg then [94] else [])) ++ memsL x.ms ++ [93]
def memQ (q : Q) (m : Mem) : Q := addQ q m.lo.toNat (if m.range then m.hi else m.lo).toNat
def memsQ (ms : List Mem) (q : Q) : Q := ms.foldl memQ q
def classQ (x : Pie) : Q := if x.neg then notQ (memsQ x.ms noneQ) else memsQ x.ms noneQ
def pieceOf (x : Pie) : Pc := if x.d = 0 then starP else if x.d = 1 then anyP else if x.d = 2 then setP x.b else ⟨false, classQ x⟩
/-- Does a class name the byte? -/
def inMem (m : Mem) (b : Int) : Bool := decide (m.lo ≤ b ∧ b ≤ (if m.range then m.hi else m.lo) ∨ (if m.range then m.hi else m.lo) ≤ b ∧ b ≤ m.lo)
def fitsL (x : Pie) (b : Int) : Bool := (x.ms.any fun m => inMem m b) != x.neg

/-- A spelled byte: how it begins, what quotedL makes of it. -/
theorem spell_head (b : Int) (plain : Bool) (r : List Int) : ∃ c s, spellL b plain ++ r = c :: s ∧ c ≠ 93 ∧ c ≠ 45 ∧ c ≠ 94 ∧ quotedL (spellL b plain ++ r) = (b, r) := by
  unfold spellL
  split
  · rename_i h
    simp only [Bool.and_eq_true, bne_iff_ne, ne_eq] at h
    refine ⟨b, r, rfl, h.1.1.2, h.1.2, h.2, ?_⟩
    show quotedL (b :: r) = _
    unfold quotedL
    split
    · rename_i hh; injection hh with e1 e2; exact absurd e1 h.1.1.1.2
    · rename_i hh; injection hh with e1 e2; rw [← e1, ← e2]
    · rename_i hh; cases hh
  · exact ⟨92, b :: r, rfl, by decide, by decide, by decide, rfl⟩
theorem mems_head (ms : List Mem) (r : List Int) : ∃ c s, memsL ms ++ 93 :: r = c :: s ∧ c ≠ 45 ∧ c ≠ 94 := by
  cases ms with
  | nil => exact ⟨93, r, rfl, by decide, by decide⟩
  | cons m ms =>
    obtain ⟨c, s, h, _, h2, h3, _⟩ := spell_head m.lo m.plain ((if m.range then 45 :: spellL m.hi m.plain else []) ++ (memsL ms ++ 93 :: r))
    refine ⟨c, s, ?_, h2, h3⟩
    rw [← h]
    simp [memsL, memL]
theorem rangeL_false {c : Int} {s : List Int} (h : c ≠ 45) : rangeL (c :: s) = false := by
  unfold rangeL
  split
  · rename_i hh; injection hh with e1 _; exact absurd e1 h
  · rfl
theorem class_mems (ms : List Mem) : ∀ (q : Q) (r : List Int), classL (memsL ms ++ 93 :: r) q = (memsQ ms q, r) := by
  induction ms with
  | nil => intro q r; show classL (93 :: r) q = _; rw [classL, if_pos rfl]; rfl
  | cons m ms ih =>
    intro q r
    by_cases hr : m.range = true
    · have e : memsL (m :: ms) ++ 93 :: r = spellL m.lo m.plain ++ (45 :: (spellL m.hi m.plain ++ (memsL ms ++ 93 :: r))) := by
        simp [memsL, memL, hr]
      obtain ⟨c, s, h, h1, _, _, h4⟩ := spell_head m.lo m.plain (45 :: (spellL m.hi m.plain ++ (memsL ms ++ 93 :: r)))
      obtain ⟨c2, s2, g, g1, _, _, g4⟩ := spell_head m.hi m.plain (memsL ms ++ 93 :: r)
      rw [e, h, classL, if_neg h1]
      rw [h] at h4
      have hrg : rangeL (45 :: (spellL m.hi m.plain ++ (memsL ms ++ 93 :: r))) = true := by
        rw [g]
        show (!(c2 == 93)) = true
        simpa using g1
      simp only [h4, hrg, if_true, List.tail_cons]
      rw [g4]
      dsimp only
      rw [ih]
      simp [memsQ, memQ, hr]
    · have hr' : m.range = false := by simpa using hr
      have e : memsL (m :: ms) ++ 93 :: r = spellL m.lo m.plain ++ (memsL ms ++ 93 :: r) := by simp [memsL, memL, hr']
      obtain ⟨c, s, h, h1, _, _, h4⟩ := spell_head m.lo m.plain (memsL ms ++ 93 :: r)
      obtain ⟨c2, s2, g, g1, _⟩ := mems_head ms r
      rw [e, h, classL, if_neg h1]
      rw [h] at h4
      have hrg : rangeL (memsL ms ++ 93 :: r) = false := by rw [g]; exact rangeL_false g1
      simp only [h4, hrg]
      show classL (memsL ms ++ 93 :: r) _ = _
      rw [ih]
      simp [memsQ, memQ, hr']
theorem members_class (x : Pie) (r : List Int) : membersL ((if x.neg then [94] else []) ++ memsL x.ms ++ 93 :: r) = (classQ x, r) := by
  unfold classQ
  cases hx : x.neg with
  | true =>
    show (notQ (classL (memsL x.ms ++ 93 :: r) noneQ).1, (classL (memsL x.ms ++ 93 :: r) noneQ).2) = _
    rw [class_mems]
    rfl
  | false =>
    show membersL (memsL x.ms ++ 93 :: r) = _
    obtain ⟨c, s, g, _, g2⟩ := mems_head x.ms r
    have hc := class_mems x.ms noneQ r
    rw [g] at hc ⊢
    unfold membersL
    split
    · rename_i hh; injection hh with e1 _; exact absurd e1 g2
    · rw [hc]; rfl
theorem pieces_write (x : Pie) (r : List Int) : piecesL (writeL x ++ r) = pieceOf x :: piecesL r := by
  unfold writeL pieceOf
  split
  · exact pieces_star r
  split
  · exact pieces_any r
  split
  · have := pieces_quote [x.b] r
    exact this
  · have e : ([91] ++ (if x.neg then [94] else [])) ++ memsL x.ms ++ [93] ++ r = 91 :: ((if x.neg then [94] else []) ++ memsL x.ms ++ 93 :: r) := by simp
    rw [e, piecesL, pieceL_cons, if_neg (by decide), if_neg (by decide), if_pos rfl, members_class]
def patternL (l : List Pie) : List Int := l.flatMap writeL
theorem pieces_pattern (l : List Pie) (r : List Int) : piecesL (patternL l ++ r) = l.map pieceOf ++ piecesL r := by
  induction l with
  | nil => rfl
  | cons x l ih =>
    have e : patternL (x :: l) ++ r = writeL x ++ (patternL l ++ r) := by simp [patternL]
    rw [e, pieces_write, ih]
    rfl

/-- What a class fits is what it names. -/
theorem has_mems (ms : List Mem) (hg : ∀ m ∈ ms, goodMem m) : ∀ (q : Q) (b : Int), 0 ≤ b ∧ b < 256 → has (memsQ ms q) b.toNat = (has q b.toNat || ms.any fun m => inMem m b) := by
  induction ms with
  | nil => intro q b _; simp [memsQ]
  | cons m ms ih =>
    intro q b hb
    have hm := hg m (List.mem_cons_self ..)
    have := ih (fun y hy => hg y (List.mem_cons_of_mem _ hy)) (memQ q m) b hb
    show has (memsQ ms (memQ q m)) b.toNat = _
    rw [this]
    unfold memQ
    have hh : 0 ≤ (if m.range then m.hi else m.lo) ∧ (if m.range then m.hi else m.lo) < 256 := by
      split
      · exact hm.2
      · exact hm.1
    rw [has_addQ _ _ _ _ (by have := hm.1; omega) (by omega) (by omega), List.any_cons, Bool.or_assoc]
    congr 1
    congr 1
    unfold inMem
    rw [decide_eq_decide]
    have := hm.1
    omega
theorem memsQ_in (ms : List Mem) : ∀ q, QIn q → QIn (memsQ ms q) := by
  induction ms with
  | nil => intro q h; exact h
  | cons m ms ih => intro q h; exact ih _ (h.addQ _ _)
theorem has_class (x : Pie) (hg : ∀ m ∈ x.ms, goodMem m) (b : Int) (hb : 0 ≤ b ∧ b < 256) : has (classQ x) b.toNat = fitsL x b := by
  unfold classQ fitsL
  have h := has_mems x.ms hg noneQ b hb
  rw [has_noneQ, Bool.false_or] at h
  cases hx : x.neg with
  | true =>
    show has (notQ (memsQ x.ms noneQ)) b.toNat = _
    rw [has_notQ (memsQ_in _ _ QIn.noneQ) _ (by omega), h]
    simp
  | false =>
    show has (memsQ x.ms noneQ) b.toNat = _
    rw [h]
    simp
/-- A pattern of two parts fits just the texts that can be cut for them. -/
theorem fits_append (a b : List Pc) : ∀ t : List Int, fits (a ++ b) t = true ↔ ∃ i, i ≤ t.length ∧ fits a (t.take i) = true ∧ fits b (t.drop i) = true := by
  induction a with
  | nil =>
    intro t
    show fits b t = true ↔ _
    constructor
    · intro h; exact ⟨0, by omega, by simp [fits], by simpa using h⟩
    · rintro ⟨i, hi, h1, h2⟩
      have h3 := (QuoteS.fits_nil _).1 h1
      have h4 := congrArg List.length h3
      rw [List.length_take, List.length_nil] at h4
      have : i = 0 := by omega
      subst this
      simpa using h2
  | cons p a ih =>
    intro t
    show fits (p :: (a ++ b)) t = true ↔ _
    by_cases hp : p.star = true
    · rw [fits_star hp]
      constructor
      · rintro ⟨k, hk, h⟩
        obtain ⟨i, hi, h1, h2⟩ := (ih _).1 h
        rw [List.length_drop] at hi
        refine ⟨k + i, by omega, (fits_star hp).2 ⟨k, by rw [List.length_take]; omega, ?_⟩, ?_⟩
        · rw [List.drop_take, show k + i - k = i by omega]; exact h1
        · rw [← List.drop_drop]; exact h2
      · rintro ⟨i, hi, h1, h2⟩
        obtain ⟨k, hk, h⟩ := (fits_star hp).1 h1
        rw [List.length_take] at hk
        refine ⟨k, by omega, (ih _).2 ⟨i - k, by rw [List.length_drop]; omega, ?_, ?_⟩⟩
        · rw [← List.drop_take]; exact h
        · rw [List.drop_drop, show k + (i - k) = i by omega]; exact h2
    · have hp : p.star = false := by simpa using hp
      cases t with
      | nil =>
        rw [fits_set_nil hp]
        constructor
        · intro h; cases h
        · rintro ⟨i, _, h1, _⟩
          rw [List.take_nil, fits_set_nil hp] at h1
          cases h1
      | cons c t =>
        rw [fits_set hp, Bool.and_eq_true, ih t]
        constructor
        · rintro ⟨h0, i, hi, h1, h2⟩
          refine ⟨i + 1, by simp; omega, ?_, by simpa using h2⟩
          show fits (p :: a) (c :: t.take i) = true
          rw [fits_set hp, h0, h1]
          rfl
        · rintro ⟨i, hi, h1, h2⟩
          cases i with
          | zero => rw [List.take_zero, fits_set_nil hp] at h1; cases h1
          | succ i =>
            have h1 : fits (p :: a) (c :: t.take i) = true := h1
            rw [fits_set hp, Bool.and_eq_true] at h1
            exact ⟨h1.1, i, by simpa using hi, h1.2, by simpa using h2⟩
/-- Stars beside one another are as one. -/
theorem fits_stars (a b : List Pc) (t : List Int) : fits (a ++ starP :: starP :: starP :: b) t = fits (a ++ starP :: b) t := by
  have h : ∀ u : List Int, fits (starP :: starP :: b) u = fits (starP :: b) u := by
    intro u
    rw [Bool.eq_iff_iff, fits_star rfl, fits_star rfl]
    constructor
    · rintro ⟨k, hk, h⟩
      obtain ⟨j, hj, h⟩ := (fits_star rfl).1 h
      rw [List.length_drop] at hj
      rw [List.drop_drop] at h
      exact ⟨k + j, by omega, h⟩
    · rintro ⟨k, hk, h⟩
      exact ⟨0, by omega, (fits_star rfl).2 ⟨k, by simpa using hk, by simpa using h⟩⟩
  rw [Bool.eq_iff_iff, fits_append, fits_append]
  constructor
  · rintro ⟨i, hi, h1, h2⟩
    refine ⟨i, hi, h1, ?_⟩
    obtain ⟨k, hk, h3⟩ := (fits_star rfl).1 h2
    rw [h] at h3
    obtain ⟨j, hj, h4⟩ := (fits_star rfl).1 h3
    rw [List.length_drop] at hj
    rw [List.drop_drop] at h4
    exact (fits_star rfl).2 ⟨k + j, by omega, h4⟩
  · rintro ⟨i, hi, h1, h2⟩
    refine ⟨i, hi, h1, (fits_star rfl).2 ⟨0, by omega, ?_⟩⟩
    rw [List.drop_zero, h]
    exact h2
end Go.Proofs.YtdflblegdfpdpaaDoor.ClassS
