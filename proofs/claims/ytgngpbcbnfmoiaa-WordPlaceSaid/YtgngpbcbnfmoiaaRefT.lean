/- larderref1.Int and Uint answer intS and uintS. Pure. -/
import Derived.Test.YtgngpbcbnfmoiaaPKx
namespace Go.Proofs.Ytgngpbcbnfmoiaa.RefT
open Go Go.RowKit Go.Proofs.YtgngpbcbnfmoiaaW.PrintWords Go.Proofs.YtgngpbcbnfmoiaaW.PrintLast Go.Proofs.YtgngpbcbnfmoiaaW.PrintMore Go.Proofs.Ytgngpbcbnfmoiaa.PA Go.Proofs.Ytgngpbcbnfmoiaa.PB Go.Proofs.Ytgngpbcbnfmoiaa.PD Go.Proofs.Ytgngpbcbnfmoiaa.PK Go.Proofs.Ytgngpbcbnfmoiaa.NumS Go.Proofs.Ytgngpbcbnfmoiaa.WordS
set_option linter.unusedVariables false

theorem str_bt {l : List Int} (h : inB l) (i : Nat) (hi : i < l.length) : bt (strOfNums l) (i : Int) = rd l i := by
  unfold bt rd
  rw [Int.toNat_natCast, dif_pos (by rw [strOfNums_size]; exact hi), List.getD_eq_getElem?_getD, List.getElem?_eq_getElem hi, Option.getD_some]
  have h1 : (strOfNums l)[i]'(by rw [strOfNums_size]; exact hi) = UInt8.ofNat l[i].toNat := by
    simp [strOfNums, ByteArray.getElem_eq_getElem_data]
  rw [h1]
  have := h l[i] (List.getElem_mem hi)
  rw [UInt8.toNat_ofNat']
  omega
theorem str_drop (l : List Int) : (strOfNums l).extract 1 (strOfNums l).size = strOfNums (l.drop 1) := by
  apply ByteArray.ext
  rw [strOfNums_size]
  simp only [strOfNums, ByteArray.data_extract]
  apply Array.ext'
  simp
  rw [List.take_of_length_le (by simp)]
theorem str_nil (l : List Int) : ((strOfNums l).toList = ([] : List UInt8)) ↔ l = [] := by
  rw [show (strOfNums l).toList = l.map fun x => (x.toNat.toUInt8) from by simp [strOfNums]]
  simp

theorem digits_loop (s : List Int) (hs : inB s) (h0 : 0 < s.length) (hn : s.length < 9223372036854775807) (d : Nat) : ∀ i : Nat, i + d = s.length → allDig (s.take i) = true →
    Ev (fun k => larderref1_digits.l0 k (strOfNums s) i) (if allDig s && !(rd s 0 == 48 && decide (1 < s.length)) then (strOfNums s, true) else ((⟨#[]⟩ : ByteArray), false)) := by
  induction d with
  | zero =>
    intro i hi hd
    have hd' : allDig s = true := by rw [List.take_of_length_le (by omega)] at hd; exact hd
    have hb0 : bt (strOfNums s) 0 = rd s 0 := str_bt hs 0 h0
    refine Ev.step (f := fun _ => some (if allDig s && !(rd s 0 == 48 && decide (1 < s.length)) then (strOfNums s, true) else ((⟨#[]⟩ : ByteArray), false))) (fun k => ?_) (Ev.now _)
    simp only [larderref1_digits.l0, strOfNums_size]
    rw [if_neg (by omega), if_pos (by omega), hb0, hd']
    by_cases h48 : rd s 0 = 48
    · rw [if_pos h48, h48]
      by_cases hl : 1 < s.length
      · rw [if_pos (by omega), decide_eq_true hl]; rfl
      · rw [if_neg (by omega), decide_eq_false hl]; rfl
    · rw [if_neg h48, beq_eq_false_iff_ne.2 h48]; rfl
  | succ d ih =>
    intro i hi hd
    have hlt : i < s.length := by omega
    have hb := str_bt hs i hlt
    have hrd : rd s i = s.getD i 0 := by unfold rd; rw [Int.toNat_natCast]
    have hw : wrap64 ((i : Int) + 1) = ((i + 1 : Nat) : Int) := by unfold wrap64; omega
    by_cases hg : 48 ≤ rd s i ∧ rd s i ≤ 57
    · have ht := allDig_take s i hlt
      rw [hd, ← hrd, (isDig_iff _).2 hg] at ht
      refine Ev.step (f := fun k => larderref1_digits.l0 k (strOfNums s) ((i + 1 : Nat) : Int)) (fun k => ?_) (ih (i + 1) (by omega) ht)
      simp only [larderref1_digits.l0, strOfNums_size]
      rw [if_pos (by omega), if_pos (by omega), hb, if_neg (by omega), if_neg (by omega), hw]
    · have hf : allDig s = false := by
        apply allDig_false s i hlt
        rw [← hrd]
        cases h : isDig (rd s i) with
        | false => rfl
        | true => exact absurd ((isDig_iff _).1 h) hg
      rw [hf]
      refine Ev.step (f := fun _ => some ((⟨#[]⟩ : ByteArray), false)) (fun k => ?_) (Ev.now _)
      simp only [larderref1_digits.l0, strOfNums_size]
      rw [if_pos (by omega), if_pos (by omega), hb]
      by_cases h1 : rd s i < 48
      · rw [if_pos h1]
      · rw [if_neg h1, if_pos (by omega)]

theorem digits_j1 (s : List Int) (hs : inB s) (hn : s.length < 9223372036854775807) :
    Ev (fun k => larderref1_digits.j1 k (strOfNums s)) (if !s.isEmpty && allDig s && !(rd s 0 == 48 && decide (1 < s.length)) then (strOfNums s, true) else ((⟨#[]⟩ : ByteArray), false)) := by
  cases hs0 : s with
  | nil =>
    refine Ev.step (f := fun _ => some ((⟨#[]⟩ : ByteArray), false)) (fun k => ?_) (Ev.now _)
    simp only [larderref1_digits.j1]
    rw [if_pos ((str_nil []).2 rfl)]
  | cons a r =>
    rw [← hs0]
    have h0 : 0 < s.length := by rw [hs0]; simp
    have hne : ¬ (strOfNums s).toList = ([] : List UInt8) := fun h => by rw [(str_nil s).1 h] at h0; simp at h0
    have he : s.isEmpty = false := by rw [hs0]; rfl
    rw [he]
    simp only [Bool.not_false, Bool.true_and]
    refine Ev.step (f := fun k => larderref1_digits.l0 k (strOfNums s) 0) (fun k => ?_) (digits_loop s hs h0 hn s.length 0 (by omega) rfl)
    simp only [larderref1_digits.j1]
    rw [if_neg hne]

theorem inB_drop {l : List Int} (h : inB l) (n : Nat) : inB (l.drop n) := fun c hc => h c (List.mem_of_mem_drop hc)

theorem rd0 (l : List Int) : l.getD 0 0 = rd l 0 := rfl
theorem bool_arr (a b c : Bool) : (a && b && c) = (a && c && b) := by cases a <;> cases b <;> cases c <;> rfl

theorem digits_ev (l : List Int) (h : inB l) (hn : l.length < 9223372036854775807) :
    Ev (fun k => larderref1_digits.f k l) (if spellB l then (strOfNums (bodyL l), true) else ((⟨#[]⟩ : ByteArray), false)) := by
  have hz : (strOfNums l).size = l.length := strOfNums_size l
  have whole : ∀ (b : Bool), spellB l = (!l.isEmpty && allDig l && !(rd l 0 == 48 && decide (1 < l.length))) → (spellB l = true → bodyL l = l) →
      Ev (fun k => larderref1_digits.j0 k (strOfNums l) false) (if spellB l then (strOfNums (bodyL l), true) else ((⟨#[]⟩ : ByteArray), false)) := by
    intro b e eb
    have h1 := digits_j1 l h hn
    rw [← e] at h1
    have e2 : (if spellB l = true then (strOfNums (bodyL l), true) else ((⟨#[]⟩ : ByteArray), false)) = (if spellB l = true then (strOfNums l, true) else ((⟨#[]⟩ : ByteArray), false)) := by
      by_cases c : spellB l = true
      · rw [if_pos c, if_pos c, eb c]
      · rw [if_neg c, if_neg c]
    rw [e2]
    refine Ev.step (fun k => ?_) h1
    simp only [larderref1_digits.j0]
    rw [if_neg (by simp)]
  by_cases h1 : 1 < l.length
  · have hb0 : bt (strOfNums l) 0 = rd l 0 := str_bt h 0 (by omega)
    have hb1 : bt (strOfNums l) 1 = rd l 1 := str_bt h 1 h1
    by_cases h45 : rd l 0 = 45
    · have hneg := negB_of (by omega) h45
      have hdl : 0 < (l.drop 1).length := by rw [List.length_drop]; omega
      have hd0 : rd (l.drop 1) 0 = rd l 1 := by
        unfold rd; rw [List.getD_eq_getElem?_getD, List.getElem?_drop, List.getD_eq_getElem?_getD]; rfl
      by_cases h48 : rd l 1 = 48
      · have hsp := sp_neg0 (by omega) h45 (.inr (hd0.trans h48))
        have hnd : allDig l = false := allDig_false l 0 (by omega) (by rw [show l.getD 0 0 = 45 from h45]; rfl)
        refine Ev.congr (fun k => ?_) (whole true (by rw [hsp, hnd]; simp) (fun c => by rw [hsp] at c; cases c))
        unfold larderref1_digits.f
        rw [hz, if_pos (by omega), if_pos (by omega), hb0, if_pos h45, if_pos (by omega), hb1, h48]
        rfl
      · have hsp := sp_neg (by omega) h45 hdl (by rw [hd0]; exact h48) rfl
        have hbo : bodyL l = l.drop 1 := by unfold bodyL; rw [if_pos hneg]
        have hj := digits_j1 (l.drop 1) (inB_drop h 1) (by rw [List.length_drop]; omega)
        have he : (l.drop 1).isEmpty = false := by cases hq : l.drop 1 with | nil => rw [hq] at hdl; simp at hdl | cons => rfl
        rw [he, hd0, beq_eq_false_iff_ne.2 h48] at hj
        simp only [Bool.not_false, Bool.true_and, Bool.false_and, Bool.and_true] at hj
        rw [hsp, hbo]
        have hj0 : Ev (fun k => larderref1_digits.j0 k (strOfNums l) true) (if allDig (l.drop 1) = true then (strOfNums (l.drop 1), true) else ((⟨#[]⟩ : ByteArray), false)) := by
          refine Ev.step (fun k => ?_) hj
          simp only [larderref1_digits.j0]
          rw [if_pos trivial, hz, if_pos (by omega), ← hz, str_drop]
        refine Ev.congr (fun k => ?_) hj0
        unfold larderref1_digits.f
        rw [hz, if_pos (by omega), if_pos (by omega), hb0, if_pos h45, if_pos (by omega), hb1, bne_iff_ne.2 h48]
    · have hneg := negB_not h45
      have hbo : bodyL l = l := by unfold bodyL; rw [hneg]; rfl
      have hsp : spellB l = (!l.isEmpty && allDig l && !(rd l 0 == 48 && decide (1 < l.length))) := by
        unfold spellB plainB; rw [hneg, if_neg (by simp), bool_arr, rd0]
      refine Ev.congr (fun k => ?_) (whole true hsp (fun _ => hbo))
      unfold larderref1_digits.f
      rw [hz, if_pos (by omega), if_pos (by omega), hb0, if_neg h45]
  · have fin : spellB l = (!l.isEmpty && allDig l && !(rd l 0 == 48 && decide (1 < l.length))) ∧ (spellB l = true → bodyL l = l) := by
      by_cases h45 : 0 < l.length ∧ rd l 0 = 45
      · have hsp := sp_neg0 h45.1 h45.2 (.inl (by rw [List.length_drop]; omega))
        have hnd : allDig l = false := allDig_false l 0 h45.1 (by rw [show l.getD 0 0 = 45 from h45.2]; rfl)
        refine ⟨by rw [hsp, hnd]; simp, fun c => by rw [hsp] at c; cases c⟩
      · have hneg : negB l = false := by
          cases hl : l with
          | nil => rfl
          | cons a r => rw [← hl]; exact negB_not (fun c => h45 ⟨by rw [hl]; simp, c⟩)
        refine ⟨by unfold spellB plainB; rw [hneg, if_neg (by simp), bool_arr, rd0], fun _ => by unfold bodyL; rw [hneg]; rfl⟩
    refine Ev.congr (fun k => ?_) (whole true fin.1 fin.2)
    unfold larderref1_digits.f
    rw [hz, if_neg (by omega)]

/-! ### strings of digits in order -/
theorem less_dec (a : List Int) : ∀ b : List Int, a.length = b.length → (∀ c ∈ a, 48 ≤ c ∧ c ≤ 57) → (∀ c ∈ b, 48 ≤ c ∧ c ≤ 57) →
    Op.bytesLess (a.map fun x => UInt8.ofNat x.toNat) (b.map fun x => UInt8.ofNat x.toNat) = decide (decV a < decV b) ∧ ((a.map fun x => UInt8.ofNat x.toNat) == (b.map fun x => UInt8.ofNat x.toNat)) = decide (decV a = decV b) := by
  induction a with
  | nil =>
    intro b hl _ _
    cases b with
    | nil => exact ⟨rfl, rfl⟩
    | cons => simp at hl
  | cons x a ih =>
    intro b hl ha hb
    cases b with
    | nil => simp at hl
    | cons y b =>
      have hl' : a.length = b.length := by simpa using hl
      obtain ⟨i1, i2⟩ := ih b hl' (fun c hc => ha c (List.mem_cons_of_mem _ hc)) (fun c hc => hb c (List.mem_cons_of_mem _ hc))
      have hx := ha x (List.mem_cons_self ..)
      have hy := hb y (List.mem_cons_self ..)
      have l1 := decV_lt (fun c hc => ha c (List.mem_cons_of_mem _ hc) : ∀ c ∈ a, 48 ≤ c ∧ c ≤ 57)
      have l2 := decV_lt (fun c hc => hb c (List.mem_cons_of_mem _ hc) : ∀ c ∈ b, 48 ≤ c ∧ c ≤ 57)
      rw [← hl'] at l2
      rw [decV_cons, decV_cons, ← hl']
      simp only [List.map_cons]
      have e1 : (UInt8.ofNat x.toNat < UInt8.ofNat y.toNat) = (x < y) := by
        rw [UInt8.lt_iff_toNat_lt, UInt8.toNat_ofNat', UInt8.toNat_ofNat']; apply propext; omega
      have e2 : (UInt8.ofNat x.toNat == UInt8.ofNat y.toNat) = decide (x = y) := by
        rw [Bool.eq_iff_iff, beq_iff_eq, decide_eq_true_iff, ← UInt8.toNat_inj, UInt8.toNat_ofNat', UInt8.toNat_ofNat']; omega
      have e3 : ((UInt8.ofNat x.toNat :: a.map fun x => UInt8.ofNat x.toNat) == (UInt8.ofNat y.toNat :: b.map fun x => UInt8.ofNat x.toNat)) = (decide (x = y) && decide (decV a = decV b)) := by
        rw [← e2, ← i2]; rfl
      have e4 : Op.bytesLess (UInt8.ofNat x.toNat :: a.map fun x => UInt8.ofNat x.toNat) (UInt8.ofNat y.toNat :: b.map fun x => UInt8.ofNat x.toNat) = (decide (x < y) || (decide (x = y) && decide (decV a < decV b))) := by
        rw [← e2, ← i1]; simp only [Op.bytesLess, e1]
      rw [e3, e4]
      rcases Int.lt_trichotomy x y with c | c | c
      · have hm : ((x - 48).toNat + 1) * 10 ^ a.length ≤ (y - 48).toNat * 10 ^ a.length := Nat.mul_le_mul_right _ (by omega)
        rw [Nat.add_mul, Nat.one_mul] at hm
        rw [decide_eq_true c, decide_eq_false (show ¬ x = y by omega)]
        exact ⟨by rw [Bool.true_or]; exact (decide_eq_true (by omega)).symm, by rw [Bool.false_and]; exact (decide_eq_false (by omega)).symm⟩
      · subst c
        rw [decide_eq_false (show ¬ x < x by omega), decide_eq_true rfl, Bool.false_or, Bool.true_and, Bool.true_and]
        exact ⟨decide_eq_decide.2 (by omega), decide_eq_decide.2 (by omega)⟩
      · have hm : ((y - 48).toNat + 1) * 10 ^ a.length ≤ (x - 48).toNat * 10 ^ a.length := Nat.mul_le_mul_right _ (by omega)
        rw [Nat.add_mul, Nat.one_mul] at hm
        rw [decide_eq_false (show ¬ x < y by omega), decide_eq_false (show ¬ x = y by omega), Bool.false_and, Bool.false_and]
        exact ⟨(decide_eq_false (by omega)).symm, (decide_eq_false (by omega)).symm⟩

theorem gt_dec {a b : List Int} (hl : a.length = b.length) (ha : ∀ c ∈ a, 48 ≤ c ∧ c ≤ 57) (hb : ∀ c ∈ b, 48 ≤ c ∧ c ≤ 57) : GtS.gtS (strOfNums a) (strOfNums b) = decide (decV b < decV a) := by
  obtain ⟨h1, h2⟩ := less_dec a b hl ha hb
  have e : ∀ l : List Int, (strOfNums l).toList = l.map fun x => UInt8.ofNat x.toNat := by
    intro l; simp [strOfNums]
  unfold GtS.gtS
  rw [e, e, h1, h2]
  rcases Nat.lt_trichotomy (decV a) (decV b) with c | c | c
  · rw [decide_eq_true c, decide_eq_false (show ¬ decV b < decV a by omega)]; rfl
  · rw [decide_eq_false (show ¬ decV a < decV b by omega), decide_eq_true c, decide_eq_false (show ¬ decV b < decV a by omega)]; rfl
  · rw [decide_eq_false (show ¬ decV a < decV b by omega), decide_eq_false (show ¬ decV a = decV b by omega), decide_eq_true c]; rfl

def bPos : List Int := [57, 50, 50, 51, 51, 55, 50, 48, 51, 54, 56, 53, 52, 55, 55, 53, 56, 48, 55]
def bNeg : List Int := [57, 50, 50, 51, 51, 55, 50, 48, 51, 54, 56, 53, 52, 55, 55, 53, 56, 48, 56]
def bU : List Int := [49, 56, 52, 52, 54, 55, 52, 52, 48, 55, 51, 55, 48, 57, 53, 53, 49, 54, 49, 53]
theorem bPos_s : (⟨#[57, 50, 50, 51, 51, 55, 50, 48, 51, 54, 56, 53, 52, 55, 55, 53, 56, 48, 55]⟩ : ByteArray) = strOfNums bPos := rfl
theorem bNeg_s : (⟨#[57, 50, 50, 51, 51, 55, 50, 48, 51, 54, 56, 53, 52, 55, 55, 53, 56, 48, 56]⟩ : ByteArray) = strOfNums bNeg := rfl
theorem bU_s : (⟨#[49, 56, 52, 52, 54, 55, 52, 52, 48, 55, 51, 55, 48, 57, 53, 53, 49, 54, 49, 53]⟩ : ByteArray) = strOfNums bU := rfl
theorem bPos_v : decV bPos = 9223372036854775807 := by decide
theorem bNeg_v : decV bNeg = 9223372036854775808 := by decide
theorem bU_v : decV bU = 18446744073709551615 := by decide
theorem bPos_d : ∀ c ∈ bPos, 48 ≤ c ∧ c ≤ 57 := by decide
theorem bNeg_d : ∀ c ∈ bNeg, 48 ≤ c ∧ c ≤ 57 := by decide
theorem bU_d : ∀ c ∈ bU, 48 ≤ c ∧ c ≤ 57 := by decide

/-- Too long, or as long and behind: the number is greater. -/
theorem over {s b : List Int} (hs : ∀ c ∈ s, 48 ≤ c ∧ c ≤ 57) (h49 : 1 < s.length → 49 ≤ s.getD 0 0) (hb : ∀ c ∈ b, 48 ≤ c ∧ c ≤ 57) (hbl : 1 < b.length) (hbv : 10 ^ (b.length - 1) ≤ decV b) :
    (if (s.length : Int) > (b.length : Int) then true else if (s.length : Int) = (b.length : Int) then GtS.gtS (strOfNums s) (strOfNums b) else false) = decide (decV b < decV s) := by
  have lb := decV_lt hb
  have ls := decV_lt hs
  by_cases c1 : s.length > b.length
  · rw [if_pos (by omega)]
    obtain ⟨m, hm⟩ : ∃ m, s.length = m + 1 := ⟨s.length - 1, by omega⟩
    have hg : 10 ^ m ≤ decV s := by
      cases s with
      | nil => simp at hm
      | cons c r =>
        have hr : r.length = m := by simpa using hm
        rw [← hr]
        exact decV_ge c r (by simpa using h49 (by omega))
    have h3 : (10 : Nat) ^ b.length ≤ 10 ^ m := Nat.pow_le_pow_right (by decide) (by omega)
    exact (decide_eq_true (by omega)).symm
  · rw [if_neg (by omega)]
    by_cases c2 : s.length = b.length
    · rw [if_pos (by omega), gt_dec c2 hs hb]
    · rw [if_neg (by omega)]
      have h3 : (10 : Nat) ^ s.length ≤ 10 ^ (b.length - 1) := Nat.pow_le_pow_right (by decide) (by omega)
      exact (decide_eq_false (by omega)).symm

theorem dec_one {b : List Int} (h : ∀ c ∈ b, 48 ≤ c ∧ c ≤ 57) (k : Nat) (hk : k < b.length) :
    10 * (decV (b.take k) : Int) + (rd b k - 48) = (decV (b.take (k + 1)) : Int) ∧ decV (b.take (k + 1)) ≤ decV b ∧ 48 ≤ rd b k ∧ rd b k ≤ 57 := by
  have h4 := decV_take b k hk
  have h5 := dig_rd h k hk
  have h6 : rd b k = b.getD k 0 := by unfold rd; rw [Int.toNat_natCast]
  refine ⟨?_, decV_mono b (k + 1), h5⟩
  rw [h6] at h5 ⊢
  rw [h4]
  omega

theorem acc_neg (D D' r : Int) (h0 : 0 ≤ D) (e : 10 * D + (r - 48) = D') (hb : D' ≤ 9223372036854775808) (h1 : 48 ≤ r) (h2 : r ≤ 57) : wrap64 (wrap64 (10 * -D) - (r - 48) % 256) = -D' := by
  have e1 : (r - 48) % 256 = r - 48 := by omega
  have e2 : wrap64 (10 * -D) = 10 * -D := by unfold wrap64; omega
  have e3 : 10 * -D - (r - 48) = -D' := by omega
  rw [e1, e2, e3]
  unfold wrap64; omega
theorem acc_pos (D D' r : Int) (h0 : 0 ≤ D) (e : 10 * D + (r - 48) = D') (hb : D' < 9223372036854775808) (h1 : 48 ≤ r) (h2 : r ≤ 57) : wrap64 (wrap64 (10 * D) + (r - 48) % 256) = D' := by
  have e1 : (r - 48) % 256 = r - 48 := by omega
  have e2 : wrap64 (10 * D) = 10 * D := by unfold wrap64; omega
  rw [e1, e2, e]
  unfold wrap64; omega
theorem acc_u (D D' r : Int) (h0 : 0 ≤ D) (e : 10 * D + (r - 48) = D') (hb : D' < 18446744073709551616) (h1 : 48 ≤ r) (h2 : r ≤ 57) : (10 * D % 18446744073709551616 + (r - 48) % 256) % 18446744073709551616 = D' := by
  have e1 : (r - 48) % 256 = r - 48 := by omega
  have e2 : 10 * D % 18446744073709551616 = 10 * D := Int.emod_eq_of_lt (by omega) (by omega)
  rw [e1, e2, e]
  exact Int.emod_eq_of_lt (by omega) hb
theorem int_loop (l s : List Int) (hs : ∀ c ∈ s, 48 ≤ c ∧ c ≤ 57) (hin : inB s) (h0 : 0 < l.length) (hn : s.length < 9223372036854775807) (neg : Bool) (hneg : (rd l 0 = 45) ↔ neg = true)
    (hv : (neg = true ∧ decV s ≤ 9223372036854775808) ∨ (neg = false ∧ decV s < 9223372036854775808)) (d : Nat) : ∀ i : Nat, i + d = s.length →
    Ev (fun k => larderref1_Int.l0 k l (strOfNums s) (if neg = true then -(decV (s.take i) : Int) else (decV (s.take i) : Int)) i) ((if neg = true then -(decV s : Int) else (decV s : Int)), 0) := by
  induction d with
  | zero =>
    intro i hi
    refine Ev.step (f := fun _ => some ((if neg = true then -(decV s : Int) else (decV s : Int)), 0)) (fun k => ?_) (Ev.now _)
    simp only [larderref1_Int.l0, strOfNums_size]
    rw [if_neg (by omega), List.take_of_length_le (by omega)]
  | succ d ih =>
    intro i hi
    have hlt : i < s.length := by omega
    obtain ⟨e1, e2, e3, e4⟩ := dec_one hs i hlt
    have hb := str_bt hin i hlt
    have hw : wrap64 ((i : Int) + 1) = ((i + 1 : Nat) : Int) := by unfold wrap64; omega
    refine Ev.step (fun k => ?_) (ih (i + 1) (by omega))
    simp only [larderref1_Int.l0, strOfNums_size]
    rw [if_pos (by omega), if_pos (by omega), if_pos (by omega), hb, hw]
    rcases hv with ⟨rfl, hv⟩ | ⟨rfl, hv⟩
    · rw [if_pos (hneg.2 rfl)]
      simp only [if_true]
      rw [acc_neg _ _ _ (Int.natCast_nonneg _) e1 (by omega) e3 e4]
    · rw [if_neg (fun c => by cases hneg.1 c)]
      simp only [Bool.false_eq_true, if_false]
      rw [acc_pos _ _ _ (Int.natCast_nonneg _) e1 (by omega) e3 e4]

theorem Int_ev (l : List Int) (h : inB l) (hn : l.length < 9223372036854775807) : Ev (fun k => larderref1_Int.f k l) (intS l) := by
  have hd := digits_ev l h hn
  unfold intS
  by_cases hsp : spellB l = true
  · rw [if_pos hsp] at hd ⊢
    obtain ⟨q1, q2, q3⟩ := spell_body hsp
    have h0 := spell_pos hsp
    have hin : inB (bodyL l) := fun c hc => by have := q1 c hc; omega
    have hln : (bodyL l).length < 9223372036854775807 := by unfold bodyL; split <;> (try rw [List.length_drop]) <;> omega
    have fin : ∀ (neg : Bool) (b : List Int), ((rd l 0 = 45) ↔ neg = true) → (∀ c ∈ b, 48 ≤ c ∧ c ≤ 57) → b.length = 19 → 10 ^ (b.length - 1) ≤ decV b → ((decV b : Int) = if neg = true then 9223372036854775808 else 9223372036854775807) →
        Ev (fun k => larderref1_Int.j0 k l (strOfNums (bodyL l)) (strOfNums b)) (if decV (bodyL l) ≤ decV b then ((if neg = true then -(decV (bodyL l) : Int) else (decV (bodyL l) : Int)), 0) else (0, 13)) := by
      intro neg b hneg hb hbl hbv hval
      have ov := over q1 q3 hb (by omega) hbv
      have hj1 : Ev (fun k => larderref1_Int.j1 k l (strOfNums (bodyL l)) (decide (decV b < decV (bodyL l)))) (if decV (bodyL l) ≤ decV b then ((if neg = true then -(decV (bodyL l) : Int) else (decV (bodyL l) : Int)), 0) else (0, 13)) := by
        by_cases c : decV b < decV (bodyL l)
        · rw [decide_eq_true c, if_neg (by omega)]
          exact Ev.step (f := fun _ => some (0, 13)) (fun k => by simp only [larderref1_Int.j1, if_true]) (Ev.now _)
        · rw [decide_eq_false c, if_pos (by omega)]
          have hv : (neg = true ∧ decV (bodyL l) ≤ 9223372036854775808) ∨ (neg = false ∧ decV (bodyL l) < 9223372036854775808) := by
            cases neg
            · right; simp only [Bool.false_eq_true, if_false] at hval; exact ⟨rfl, by omega⟩
            · left; simp only [if_true] at hval; exact ⟨rfl, by omega⟩
          have hl := int_loop l (bodyL l) q1 hin h0 hln neg hneg hv (bodyL l).length 0 (by omega)
          refine Ev.step (fun k => ?_) hl
          simp only [larderref1_Int.j1]
          rw [if_neg (by simp)]
          cases neg <;> rfl
      refine Ev.step (fun k => ?_) hj1
      simp only [larderref1_Int.j0, strOfNums_size]
      rw [← ov]
      by_cases c1 : ((bodyL l).length : Int) > (b.length : Int)
      · rw [if_pos c1, if_pos c1]
      · rw [if_neg c1, if_neg c1]
        by_cases c2 : ((bodyL l).length : Int) = (b.length : Int)
        · rw [if_pos c2, if_pos c2]
        · rw [if_neg c2, if_neg c2]
    unfold larderref1_Int.f
    refine Ev.bind hd ?_
    simp only
    by_cases h45 : rd l 0 = 45
    · have hneg := negB_of h0 h45
      rw [if_pos hneg]
      have := fin true bNeg ⟨fun _ => rfl, fun _ => h45⟩ bNeg_d rfl (by rw [bNeg_v]; decide) (by rw [bNeg_v]; rfl)
      rw [bNeg_v] at this
      refine Ev.congr (fun k => ?_) this
      rw [if_pos trivial, if_pos (by omega), if_pos h45, bNeg_s]
    · have hneg := negB_not h45
      rw [hneg, if_neg (by simp)]
      have := fin false bPos ⟨fun c => absurd c h45, fun c => by cases c⟩ bPos_d rfl (by rw [bPos_v]; decide) (by rw [bPos_v]; rfl)
      rw [bPos_v] at this
      have e : (if decV (bodyL l) < 9223372036854775808 then ((decV (bodyL l) : Int), (0 : Int)) else (0, 13)) = (if decV (bodyL l) ≤ 9223372036854775807 then ((if false = true then -(decV (bodyL l) : Int) else (decV (bodyL l) : Int)), 0) else (0, 13)) := by
        by_cases c : decV (bodyL l) < 9223372036854775808
        · rw [if_pos c, if_pos (by omega)]; rfl
        · rw [if_neg c, if_neg (by omega)]
      rw [e]
      refine Ev.congr (fun k => ?_) this
      rw [if_pos trivial, if_pos (by omega), if_neg h45, bPos_s]
  · rw [if_neg hsp] at hd ⊢
    unfold larderref1_Int.f
    refine Ev.bind hd ?_
    simp only
    exact Ev.congr (fun k => by rw [if_neg (by simp)]) (Ev.now _)

theorem uint_loop (s : List Int) (hs : ∀ c ∈ s, 48 ≤ c ∧ c ≤ 57) (hin : inB s) (hn : s.length < 9223372036854775807) (hv : decV s < 18446744073709551616) (d : Nat) : ∀ i : Nat, i + d = s.length →
    Ev (fun k => larderref1_Uint.l0 k (strOfNums s) (decV (s.take i) : Int) i) ((decV s : Int), 0) := by
  induction d with
  | zero =>
    intro i hi
    refine Ev.step (f := fun _ => some ((decV s : Int), 0)) (fun k => ?_) (Ev.now _)
    simp only [larderref1_Uint.l0, strOfNums_size]
    rw [if_neg (by omega), List.take_of_length_le (by omega)]
  | succ d ih =>
    intro i hi
    have hlt : i < s.length := by omega
    obtain ⟨e1, e2, e3, e4⟩ := dec_one hs i hlt
    have hb := str_bt hin i hlt
    have hw : wrap64 ((i : Int) + 1) = ((i + 1 : Nat) : Int) := by unfold wrap64; omega
    refine Ev.step (fun k => ?_) (ih (i + 1) (by omega))
    simp only [larderref1_Uint.l0, strOfNums_size]
    rw [if_pos (by omega), if_pos (by omega), hb, hw]
    rw [IntKind.wrap_u64, IntKind.wrap_u64, acc_u _ _ _ (Int.natCast_nonneg _) e1 (by omega) e3 e4]

theorem Uint_ev (l : List Int) (h : inB l) (hn : l.length < 9223372036854775807) : Ev (fun k => larderref1_Uint.f k l) (uintS l) := by
  have hd := digits_ev l h hn
  have bad : Ev (fun k => larderref1_Uint.j0 k (strOfNums (bodyL l)) true) ((0 : Int), (12 : Int)) :=
    Ev.step (f := fun _ => some (0, 12)) (fun k => by simp only [larderref1_Uint.j0, if_true]) (Ev.now _)
  unfold uintS
  by_cases hsp : spellB l = true
  · rw [if_pos hsp] at hd
    rw [hsp, Bool.true_and]
    obtain ⟨q1, q2, q3⟩ := spell_body hsp
    have h0 := spell_pos hsp
    unfold larderref1_Uint.f
    refine Ev.bind hd ?_
    simp only
    by_cases h45 : rd l 0 = 45
    · have hneg := negB_of h0 h45
      rw [hneg, if_neg (by simp)]
      refine Ev.congr (fun k => ?_) bad
      rw [if_pos trivial, if_pos (by omega), if_pos h45]
    · have hneg := negB_not h45
      have hbo : bodyL l = l := by unfold bodyL; rw [hneg]; rfl
      rw [hbo] at q1 q2 q3 bad ⊢
      rw [hneg, Bool.not_false, Bool.true_and]
      have ov := over q1 q3 bU_d (by decide) (by rw [bU_v]; decide)
      rw [bU_v] at ov
      have hj : Ev (fun k => larderref1_Uint.j0 k (strOfNums l) (decide (18446744073709551615 < decV l))) (if decide (decV l < 18446744073709551616) = true then ((decV l : Int), 0) else (0, 12)) := by
        by_cases c : decV l < 18446744073709551616
        · rw [if_pos (decide_eq_true c), decide_eq_false (by omega)]
          refine Ev.step (fun k => ?_) (uint_loop l q1 h hn c l.length 0 (by omega))
          simp only [larderref1_Uint.j0]
          rw [if_neg (by simp)]
          rfl
        · rw [if_neg (by simpa using c), decide_eq_true (by omega)]
          exact bad
      refine Ev.congr (fun k => ?_) hj
      rw [← ov, if_pos trivial, if_pos (by omega), if_neg h45, bU_s]
      simp only [strOfNums_size]
      have e20 : (bU.length : Int) = 20 := rfl
      rw [e20]
      by_cases c1 : (l.length : Int) > 20
      · rw [if_pos c1, if_pos c1]
      · rw [if_neg c1, if_neg c1]
        by_cases c2 : (l.length : Int) = 20
        · rw [if_pos c2, if_pos c2]
        · rw [if_neg c2, if_neg c2]
  · rw [if_neg hsp] at hd
    have hf : spellB l = false := by simpa using hsp
    rw [hf]
    simp only [Bool.false_and, Bool.false_eq_true, if_false]
    unfold larderref1_Uint.f
    refine Ev.bind hd ?_
    simp only [Bool.false_eq_true, if_false]
    exact Ev.step (f := fun _ => some (0, 12)) (fun k => by simp only [larderref1_Uint.j0, if_true]) (Ev.now _)
end Go.Proofs.Ytgngpbcbnfmoiaa.RefT
