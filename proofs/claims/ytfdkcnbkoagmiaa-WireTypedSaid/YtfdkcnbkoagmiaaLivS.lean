/- Layer 8: what is held, and what makes it whole, in plain words. No program. -/
import Derived.Test.YtfdkcnbkoagmiaaChkS
namespace Go.Proofs.Ytfdkcnbkoagmiaa.LivS
open Go.Proofs.Ytfdkcnbkoagmiaa.LinS Go.Proofs.Ytfdkcnbkoagmiaa.ParS
set_option linter.unusedVariables false

def val (l : List Int) : Int := l.foldl (fun v c => 10 * v + (c - 48)) 0
def digs (l : List Int) : Prop := ∀ c ∈ l, 48 ≤ c ∧ c ≤ 57
theorem val_snoc (l : List Int) (c : Int) : val (l ++ [c]) = 10 * val l + (c - 48) := by simp [val, List.foldl_append]
/-- A number's digits so far: in its one form. -/
structure Nm (l : List Int) (v : Int) : Prop where
  d : digs l
  v : val l = v
  len : l.length ≤ 4
  one : 2 ≤ l.length → ∃ c r, l = c :: r ∧ c ≠ 48
/-- An argument, as it stands in a request, its length's digits given. -/
def argB (x : List Int × List Int) : List Int := 36 :: (x.1 ++ 13 :: 10 :: (x.2 ++ [13, 10]))
structure ArgOk (x : List Int × List Int) : Prop where
  n : Nm x.1 x.2.length
  ne : x.1 ≠ []
def argsB (l : List (List Int × List Int)) : List Int := l.flatMap argB
/-- A request's head and the arguments that are whole. -/
def headB (ds : List Int) (l : List (List Int × List Int)) : List Int := 42 :: (ds ++ 13 :: 10 :: argsB l)
/-- What is held is t. -/
inductive Sh : List Int → PS → Prop
  | begin {p : PS} (s : p.st = .begin) (a : p.args = []) (c : p.cur = []) : Sh [] p
  | line {p : PS} (c : Int) (r : List Int) (s : p.st = .line) (e : p.cur = c :: r) (hc : c ≠ 42) (hn : (10 : Int) ∉ p.cur) (a : p.args = []) : Sh (c :: r) p
  | dig0 {p : PS} (ds : List Int) (s : p.st = .digit) (h : p.head = 0) (m : p.most = 128) (a : p.args = []) (n : Nm ds p.num) (l : (ds.length : Int) = p.digits) (nm : p.num ≤ 128) : Sh (42 :: ds) p
  | minus {p : PS} (s : p.st = .minus) (h : p.head = 0) (a : p.args = []) (n : p.num = 0) : Sh [42, 45] p
  | minusR {p : PS} (s : p.st = .minusR) (h : p.head = 0) (a : p.args = []) (n : p.num = 0) : Sh [42, 45, 49] p
  | num0 {p : PS} (ds : List Int) (s : p.st = .numF) (h : p.head = 0) (a : p.args = []) (n : Nm ds p.num) (ne : ds ≠ []) (m : p.num ≤ 128) : Sh (42 :: (ds ++ [13])) p
  | numM {p : PS} (s : p.st = .numF) (h : p.head = 0) (a : p.args = []) (n : p.num = 0) : Sh [42, 45, 49, 13] p
  | dollar {p : PS} (ds : List Int) (l : List (List Int × List Int)) (s : p.st = .dollar) (n : Nm ds p.want) (ne : ds ≠ []) (m : p.want ≤ 128) (w : (p.args.length : Int) < p.want) (a : p.args = l.map Prod.snd) (ok : ∀ x ∈ l, ArgOk x) : Sh (headB ds l) p
  | dig1 {p : PS} (ds : List Int) (l : List (List Int × List Int)) (dn : List Int) (s : p.st = .digit) (h : p.head = 1) (mo : p.most = 4096) (n : Nm ds p.want) (ne : ds ≠ []) (m : p.want ≤ 128) (w : (p.args.length : Int) < p.want) (a : p.args = l.map Prod.snd) (ok : ∀ x ∈ l, ArgOk x) (nn : Nm dn p.num) (dl : (dn.length : Int) = p.digits) : Sh (headB ds l ++ 36 :: dn) p
  | num1 {p : PS} (ds : List Int) (l : List (List Int × List Int)) (dn : List Int) (s : p.st = .numF) (h : p.head = 1) (n : Nm ds p.want) (ne : ds ≠ []) (m : p.want ≤ 128) (w : (p.args.length : Int) < p.want) (a : p.args = l.map Prod.snd) (ok : ∀ x ∈ l, ArgOk x) (nn : Nm dn p.num) (dne : dn ≠ []) (nm : p.num ≤ 4096) : Sh (headB ds l ++ 36 :: (dn ++ [13])) p
  | cont {p : PS} (ds : List Int) (l : List (List Int × List Int)) (dn : List Int) (s : p.st = .content ∧ 1 ≤ p.left ∨ p.st = .contR ∧ p.left = 0) (n : Nm ds p.want) (ne : ds ≠ []) (m : p.want ≤ 128) (w : (p.args.length : Int) < p.want) (a : p.args = l.map Prod.snd) (ok : ∀ x ∈ l, ArgOk x) (nn : Nm dn (p.cur.length + p.left)) (dne : dn ≠ []) (nm : p.cur.length + p.left ≤ 4096) : Sh (headB ds l ++ 36 :: (dn ++ 13 :: 10 :: p.cur)) p
  | contF {p : PS} (ds : List Int) (l : List (List Int × List Int)) (dn : List Int) (s : p.st = .contF) (n : Nm ds p.want) (ne : ds ≠ []) (m : p.want ≤ 128) (w : (p.args.length : Int) < p.want) (a : p.args = l.map Prod.snd) (ok : ∀ x ∈ l, ArgOk x) (nn : Nm dn p.cur.length) (dne : dn ≠ []) (nm : (p.cur.length : Int) ≤ 4096) : Sh (headB ds l ++ 36 :: (dn ++ 13 :: 10 :: (p.cur ++ [13]))) p
theorem Nm.nil : Nm [] 0 := ⟨fun _ h => (by cases h), rfl, by simp, fun h => (by simp at h)⟩
theorem snoc_ind {P : List Int → Prop} (h0 : P []) (h1 : ∀ l c, P l → P (l ++ [c])) (l : List Int) : P l := by
  rw [← List.reverse_reverse l]
  induction l.reverse with
  | nil => exact h0
  | cons c r ih => rw [List.reverse_cons]; exact h1 _ _ ih
theorem val_nonneg {l : List Int} : digs l → 0 ≤ val l := by
  refine snoc_ind (P := fun l => digs l → 0 ≤ val l) (fun _ => by simp [val]) (fun l c ih h => ?_) l
  rw [val_snoc]
  have := ih (fun x hx => h x (by simp [hx]))
  have := h c (by simp)
  omega
theorem val_pos {l : List Int} : digs l → (∃ c r, l = c :: r ∧ c ≠ 48) → 1 ≤ val l := by
  refine snoc_ind (P := fun l => digs l → (∃ c r, l = c :: r ∧ c ≠ 48) → 1 ≤ val l) (fun _ ⟨c, r, h, _⟩ => by cases h) (fun l x ih h => ?_) l
  rintro ⟨c, r, e, hc⟩
  rw [val_snoc]
  have hx := h x (by simp)
  cases l with
  | nil =>
    obtain ⟨rfl, _⟩ : x = c ∧ [] = r := by simpa using e
    simp only [val, List.foldl_nil]
    omega
  | cons y l =>
    obtain ⟨rfl, _⟩ : y = c ∧ l ++ [x] = r := by simpa using e
    have := ih (fun x hx => h x (by simp at hx ⊢; rcases hx with h | h <;> simp [h])) ⟨y, l, rfl, hc⟩
    omega
theorem Nm.snoc {l : List Int} {v c m : Int} (h : Nm l v) (hc : 48 ≤ c ∧ c ≤ 57) (hz : ¬ (0 < (l.length : Int) ∧ v = 0)) (hm : v * 10 + (c - 48) ≤ m) (h4 : m ≤ 4096) (hl : l.length = 4 → 1000 ≤ v) : Nm (l ++ [c]) (v * 10 + (c - 48)) := by
  have hv := h.v
  refine ⟨fun x hx => ?_, by rw [val_snoc]; omega, ?_, fun h2 => ?_⟩
  · rcases List.mem_append.1 hx with hx | hx
    · exact h.d x hx
    · rw [List.mem_singleton.1 hx]; exact hc
  · have := h.len
    rw [List.length_append, List.length_singleton]
    by_cases e : l.length = 4
    · have := hl e; omega
    · omega
  · cases l with
    | nil => simp at h2
    | cons y r =>
      refine ⟨y, r ++ [c], rfl, fun e => ?_⟩
      by_cases hr : 2 ≤ (y :: r).length
      · obtain ⟨y', r', e', hne⟩ := h.one hr
        cases e'
        exact hne e
      · have hr0 : r = [] := List.length_eq_zero_iff.1 (by simp only [List.length_cons] at hr; omega)
        subst hr0
        subst e
        have : v = 0 := by rw [← hv]; rfl
        exact hz ⟨by simp, this⟩
theorem whole_sh {p : PS} : Sh [] (whole p) ∧ (whole p).held = 0 := ⟨.begin rfl rfl rfl, rfl⟩
theorem argsB_append (l : List (List Int × List Int)) (x : List Int × List Int) : argsB (l ++ [x]) = argsB l ++ argB x := by simp [argsB]
theorem headB_append (ds : List Int) (l : List (List Int × List Int)) (x : List Int × List Int) : headB ds (l ++ [x]) = headB ds l ++ argB x := by simp [headB, argsB_append]
theorem ne_of_len {l : List Int} (h : 0 < (l.length : Int)) : l ≠ [] := by
  rintro rfl
  simp at h
theorem lineB_sh {p : PS} {c : Int} (s : p.st = .line) (hn : (10 : Int) ∉ p.cur) (a : p.args = []) (hc : ∀ r, p.cur ++ [c] = r → ∃ d u, r = d :: u ∧ (c ≠ 10 → d ≠ 42)) (he : (lineB p c).2 = 0) : (Sh [] (lineB p c).1 ∧ (lineB p c).1.held = 0) ∨ (Sh (p.cur ++ [c]) (lineB p c).1 ∧ (lineB p c).1.held = p.held) := by
  unfold lineB at he ⊢
  by_cases h : c ≠ 10
  · rw [if_pos h]
    obtain ⟨d, u, e, hd⟩ := hc _ rfl
    refine .inr ⟨?_, rfl⟩
    have hx : (10 : Int) ∉ p.cur ++ [c] := fun hx => by
      rcases List.mem_append.1 hx with hx | hx
      · exact hn hx
      · exact h (List.mem_singleton.1 hx).symm
    have := Sh.line (p := { p with cur := p.cur ++ [c] }) d u s e (hd h) hx a
    rw [← e] at this
    exact this
  · rw [if_neg h] at he ⊢
    split
    · next h2 => rw [if_pos h2] at he; exact absurd he h2
    · exact .inl whole_sh
theorem Sh.step {t : List Int} {p : PS} {c : Int} (hi : Inv p) (h : Sh t p) (he : (ParS.step p c).2 = 0) : (Sh [] (ParS.step p c).1 ∧ (ParS.step p c).1.held = 0) ∨ (Sh (t ++ [c]) (ParS.step p c).1 ∧ (ParS.step p c).1.held = p.held) := by
  have hdg := hi.dg
  have hdg4 : p.digits = 4 → 1000 ≤ p.num := by omega
  cases h with
  | begin s a cc =>
    unfold ParS.step at he ⊢
    rw [s] at he ⊢
    dsimp only at he ⊢
    by_cases h : c = 42
    · rw [if_pos h]
      subst h
      exact .inr ⟨.dig0 [] rfl rfl rfl a Nm.nil rfl (by show (0 : Int) ≤ 128; omega), rfl⟩
    · rw [if_neg h] at he ⊢
      exact lineB_sh (p := { p with cur := [], st := .line }) rfl (by simp) a (fun r e => ⟨c, [], e.symm, fun _ => h⟩) he
  | line d r s e hd hn a =>
    unfold ParS.step at he ⊢
    rw [s] at he ⊢
    dsimp only at he ⊢
    have := lineB_sh s hn a (fun r' e' => ⟨d, r ++ [c], by rw [← e', e]; rfl, fun _ => hd⟩) he
    rw [e] at this
    exact this
  | dig0 ds s hh m a n l nm =>
    unfold ParS.step at he ⊢
    rw [s] at he ⊢
    dsimp only at he ⊢
    unfold digitB at he ⊢
    split
    · next hc =>
      rw [if_pos hc] at he
      split
      · next hd => rw [if_pos hd] at he; unfold numErr at he; rw [hh] at he; cases he
      · next hd =>
        refine .inr ⟨.dig0 (ds ++ [c]) s hh m a (n.snoc hc ?_ (m := 128) ?_ (by omega) (fun h => hdg4 ?_)) ?_ ?_, rfl⟩
        · intro hz; exact hd (.inl ⟨by omega, hz.2⟩)
        · omega
        · omega
        · show ((ds ++ [c]).length : Int) = p.digits + 1
          rw [List.length_append, List.length_singleton]
          omega
        · show p.num * 10 + (c - 48) ≤ 128
          omega
    · next hc =>
      rw [if_neg hc] at he
      split
      · next hd =>
        obtain ⟨rfl, hd0⟩ := hd
        exact .inr ⟨.num0 ds rfl hh a n (ne_of_len (by omega)) nm, rfl⟩
      · next hd =>
        rw [if_neg hd] at he
        split
        · next hf =>
          obtain ⟨rfl, hf0, _⟩ := hf
          obtain rfl : ds = [] := List.length_eq_zero_iff.1 (by omega)
          have hz : val [] = p.num := n.v
          exact .inr ⟨.minus rfl hh a hz.symm, rfl⟩
        · next hf => rw [if_neg hf] at he; unfold numErr at he; rw [hh] at he; cases he
  | minus s hh a n =>
    unfold ParS.step at he ⊢
    rw [s] at he ⊢
    dsimp only at he ⊢
    split at he
    · next hc => subst hc; exact .inr ⟨.minusR rfl hh a n, rfl⟩
    · cases he
  | minusR s hh a n =>
    unfold ParS.step at he ⊢
    rw [s] at he ⊢
    dsimp only at he ⊢
    split at he
    · next hc => subst hc; exact .inr ⟨.numM rfl hh a n, rfl⟩
    · cases he
  | num0 ds s hh a n ne m =>
    have hn0 := val_nonneg n.d
    rw [n.v] at hn0
    unfold ParS.step at he ⊢
    rw [s] at he ⊢
    dsimp only at he ⊢
    unfold numFB at he ⊢
    by_cases hc : c ≠ 10
    · rw [if_pos hc] at he; cases he
    · rw [if_neg hc, if_neg (by omega)] at he ⊢
      by_cases hz : p.num = 0
      · rw [if_pos hz]; exact .inl whole_sh
      · rw [if_neg hz]
        obtain rfl : c = 10 := Decidable.not_not.1 hc
        have := Sh.dollar (p := { p with want := p.num, args := [], st := .dollar }) ds [] rfl n ne m (by show (0 : Int) < p.num; omega) rfl (fun _ h => (by cases h))
        refine .inr ⟨?_, rfl⟩
        simpa [headB, argsB] using this
  | numM s hh a n =>
    unfold ParS.step at he ⊢
    rw [s] at he ⊢
    dsimp only at he ⊢
    unfold numFB at he ⊢
    by_cases hc : c ≠ 10
    · rw [if_pos hc] at he; cases he
    · rw [if_neg hc, if_neg (by omega), if_pos n]; exact .inl whole_sh
  | dollar ds l s n ne m w a ok =>
    unfold ParS.step at he ⊢
    rw [s] at he ⊢
    dsimp only at he ⊢
    split at he
    · next hc =>
      subst hc
      exact .inr ⟨.dig1 ds l [] rfl rfl rfl n ne m w a ok Nm.nil rfl, rfl⟩
    · cases he
  | dig1 ds l dn s hh mo n ne m w a ok nn dl =>
    unfold ParS.step at he ⊢
    rw [s] at he ⊢
    dsimp only at he ⊢
    unfold digitB at he ⊢
    split
    · next hc =>
      rw [if_pos hc] at he
      split
      · next hd => rw [if_pos hd] at he; unfold numErr at he; rw [hh] at he; cases he
      · next hd =>
        have := Sh.dig1 (p := { p with num := p.num * 10 + (c - 48), digits := p.digits + 1 }) ds l (dn ++ [c]) s hh mo n ne m w a ok (nn.snoc hc (fun hz => hd (.inl ⟨by omega, hz.2⟩)) (m := 4096) (by omega) (by omega) (fun h => hdg4 (by omega))) (by rw [List.length_append, List.length_singleton]; show ((dn.length + 1 : Nat) : Int) = p.digits + 1; omega)
        refine .inr ⟨?_, rfl⟩
        simpa using this
    · next hc =>
      rw [if_neg hc] at he
      split
      · next hd =>
        obtain ⟨rfl, hd0⟩ := hd
        have := Sh.num1 (p := { p with st := .numF }) ds l dn rfl hh n ne m w a ok nn (ne_of_len (by omega)) hi.args0.2
        refine .inr ⟨?_, rfl⟩
        simpa using this
      · next hd =>
        rw [if_neg hd] at he
        split
        · next hf => exact absurd hf.2.2 (by omega)
        · next hf => rw [if_neg hf] at he; unfold numErr at he; rw [hh] at he; cases he
  | num1 ds l dn s hh n ne m w a ok nn dne nm =>
    have hn0 := val_nonneg nn.d
    rw [nn.v] at hn0
    unfold ParS.step at he ⊢
    rw [s] at he ⊢
    dsimp only at he ⊢
    unfold numFB at he ⊢
    by_cases hc : c ≠ 10
    · rw [if_pos hc] at he; cases he
    · rw [if_neg hc, if_pos hh] at he ⊢
      obtain rfl : c = 10 := Decidable.not_not.1 hc
      have e0 : ((([] : List Int).length : Nat) : Int) + p.num = p.num := by simp
      have := Sh.cont (p := { p with cur := [], left := p.num, st := if p.num = 0 then .contR else .content }) ds l dn ?_ n ne m w a ok (by show Nm dn ((([] : List Int).length : Nat) + p.num); rw [e0]; exact nn) dne (by show ((([] : List Int).length : Nat) : Int) + p.num ≤ 4096; rw [e0]; exact nm)
      · refine .inr ⟨?_, rfl⟩
        simpa using this
      · dsimp only
        by_cases hz : p.num = 0
        · rw [if_pos hz]; exact .inr ⟨rfl, hz⟩
        · rw [if_neg hz]; exact .inl ⟨rfl, by omega⟩
  | cont ds l dn s n ne m w a ok nn dne nm =>
    rcases s with ⟨s, hl⟩ | ⟨s, hl⟩
    · unfold ParS.step at he ⊢
      rw [s] at he ⊢
      dsimp only at he ⊢
      have e0 : (((p.cur ++ [c]).length : Nat) : Int) + (p.left - 1) = p.cur.length + p.left := by rw [List.length_append, List.length_singleton]; omega
      have := Sh.cont (p := { p with cur := p.cur ++ [c], left := p.left - 1, st := if p.left - 1 = 0 then .contR else .content }) ds l dn ?_ n ne m w a ok (by show Nm dn (((p.cur ++ [c]).length : Nat) + (p.left - 1)); rw [e0]; exact nn) dne (by show (((p.cur ++ [c]).length : Nat) : Int) + (p.left - 1) ≤ 4096; rw [e0]; exact nm)
      · refine .inr ⟨?_, rfl⟩
        simpa using this
      · dsimp only
        by_cases hz : p.left - 1 = 0
        · rw [if_pos hz]; exact .inr ⟨rfl, hz⟩
        · rw [if_neg hz]; exact .inl ⟨rfl, by omega⟩
    · unfold ParS.step at he ⊢
      rw [s] at he ⊢
      dsimp only at he ⊢
      split at he
      · next hc =>
        subst hc
        have e0 : ((p.cur.length : Nat) : Int) + p.left = p.cur.length := by omega
        rw [e0] at nn nm
        have := Sh.contF (p := { p with st := .contF }) ds l dn rfl n ne m w a ok nn dne nm
        refine .inr ⟨?_, rfl⟩
        simpa using this
      · cases he
  | contF ds l dn s n ne m w a ok nn dne nm =>
    unfold ParS.step at he ⊢
    rw [s] at he ⊢
    dsimp only at he ⊢
    unfold contFB at he ⊢
    by_cases hc : c ≠ 10
    · rw [if_pos hc] at he; cases he
    · rw [if_neg hc] at he ⊢
      obtain rfl : c = 10 := Decidable.not_not.1 hc
      by_cases hz : ((p.args.length + 1 : Nat) : Int) = p.want
      · rw [if_pos hz]; exact .inl whole_sh
      · rw [if_neg hz]
        have := Sh.dollar (p := { p with args := p.args ++ [p.cur], st := .dollar }) ds (l ++ [(dn, p.cur)]) rfl n ne m (by show (((p.args ++ [p.cur]).length : Nat) : Int) < p.want; rw [List.length_append, List.length_singleton]; omega) (by simp [a]) (fun x hx => by
          rcases List.mem_append.1 hx with hx | hx
          · exact ok x hx
          · rw [List.mem_singleton.1 hx]; exact ⟨nn, dne⟩)
        rw [headB_append] at this
        refine .inr ⟨?_, rfl⟩
        simpa [argB] using this
theorem Sh.held {t : List Int} {p : PS} (h : Sh t p) (k : Int) : Sh t { p with held := k } := by
  cases h with
  | begin s a c => exact .begin s a c
  | line c r s e hc hn a => exact .line c r s e hc hn a
  | dig0 ds s hh m a n l nm => exact .dig0 ds s hh m a n l nm
  | minus s hh a n => exact .minus s hh a n
  | minusR s hh a n => exact .minusR s hh a n
  | num0 ds s hh a n ne m => exact .num0 ds s hh a n ne m
  | numM s hh a n => exact .numM s hh a n
  | dollar ds l s n ne m w a ok => exact .dollar ds l s n ne m w a ok
  | dig1 ds l dn s hh mo n ne m w a ok nn dl => exact .dig1 ds l dn s hh mo n ne m w a ok nn dl
  | num1 ds l dn s hh n ne m w a ok nn dne nm => exact .num1 ds l dn s hh n ne m w a ok nn dne nm
  | cont ds l dn s n ne m w a ok nn dne nm => exact .cont (p := { p with held := k }) ds l dn s n ne m w a ok nn dne nm
  | contF ds l dn s n ne m w a ok nn dne nm => exact .contF (p := { p with held := k }) ds l dn s n ne m w a ok nn dne nm
theorem Sh.told {t : List Int} {p : PS} (h : Sh t p) : Sh t (told p) := by
  cases h with
  | begin s a c => exact .begin s a c
  | line c r s e hc hn a => exact .line c r s e hc hn a
  | dig0 ds s hh m a n l nm => exact .dig0 ds s hh m a n l nm
  | minus s hh a n => exact .minus s hh a n
  | minusR s hh a n => exact .minusR s hh a n
  | num0 ds s hh a n ne m => exact .num0 ds s hh a n ne m
  | numM s hh a n => exact .numM s hh a n
  | dollar ds l s n ne m w a ok => exact .dollar ds l s n ne m w a ok
  | dig1 ds l dn s hh mo n ne m w a ok nn dl => exact .dig1 ds l dn s hh mo n ne m w a ok nn dl
  | num1 ds l dn s hh n ne m w a ok nn dne nm => exact .num1 ds l dn s hh n ne m w a ok nn dne nm
  | cont ds l dn s n ne m w a ok nn dne nm => exact .cont (p := ParS.told p) ds l dn s n ne m w a ok nn dne nm
  | contF ds l dn s n ne m w a ok nn dne nm => exact .contF (p := ParS.told p) ds l dn s n ne m w a ok nn dne nm
/-- What is held behind a run. -/
theorem Sh.run : ∀ (b : List Int) {t : List Int} {p : PS}, Inv p → Sh t p → p.held = t.length → (run p b).broken = 0 → ∃ pre u, t ++ b = pre ++ u ∧ Sh u (run p b) ∧ (run p b).held = u.length := by
  intro b
  induction b with
  | nil => intro t p _ h hh _; exact ⟨[], t, by simp, h, hh⟩
  | cons c b ih =>
    intro t p hi h hh hb
    rw [run_cons] at hb ⊢
    have hp0 : p.broken = 0 := by
      refine Decidable.not_not.1 fun hne => ?_
      rw [show runB p c = p from if_pos hne, run_broken hne b] at hb
      exact hne hb
    have hs : runB p c = step1 p c := if_neg (Decidable.not_not.2 hp0)
    have he : (ParS.step { p with held := p.held + 1 } c).2 = 0 := by
      refine Decidable.not_not.1 fun hne => ?_
      have e1 : runB p c = { (ParS.step { p with held := p.held + 1 } c).1 with broken := (ParS.step { p with held := p.held + 1 } c).2, held := 0, args := [], cur := [] } := by rw [hs]; unfold step1; rw [if_pos hne]
      have hbr : (runB p c).broken ≠ 0 := by rw [e1]; exact hne
      rw [run_broken hbr b] at hb
      exact hbr hb
    have e2 : runB p c = (ParS.step { p with held := p.held + 1 } c).1 := by rw [hs]; unfold step1; rw [if_neg (Decidable.not_not.2 he)]
    rcases Sh.step (hi.held hp0 (p.held + 1)) (h.held (p.held + 1)) he with ⟨h1, h2⟩ | ⟨h1, h2⟩
    · rw [← e2] at h1 h2
      obtain ⟨pre, u, e, hu, hl⟩ := ih (hi.runB c) h1 (by rw [h2]; rfl) hb
      refine ⟨t ++ c :: pre, u, ?_, hu, hl⟩
      rw [List.append_assoc, List.cons_append, ← e, List.nil_append]
    · rw [← e2] at h1 h2
      obtain ⟨pre, u, e, hu, hl⟩ := ih (hi.runB c) h1 (by rw [h2, List.length_append, List.length_singleton]; show p.held + 1 = _; omega) hb
      exact ⟨pre, u, by rw [← e]; simp, hu, hl⟩
end Go.Proofs.Ytfdkcnbkoagmiaa.LivS
