/- Layer 8: what makes what is held whole, as finish sees it. No program. -/
import Derived.Test.YtfdkcnbkoagmiaaLivT
namespace Go.Proofs.Ytfdkcnbkoagmiaa.LivF
open Go.Proofs.Ytfdkcnbkoagmiaa.LinS Go.Proofs.Ytfdkcnbkoagmiaa.ParS Go.Proofs.Ytfdkcnbkoagmiaa.LivS Go.Proofs.Ytfdkcnbkoagmiaa.LivT
set_option linter.unusedVariables false

/-- A number as value reads it. -/
def Vl (b : List Int) (v : Int) : Prop := b = [45, 49] ∧ v = 0 ∨ Nm b v ∧ b ≠ []
/-- What an argument that has begun is, and what it lacks. -/
inductive Tl : List Int → List Int → Prop
  | none : Tl [] one
  | sign : Tl [36] [48, 13, 10, 13, 10]
  | some (dn u : List Int) (n : Nat) (h : Nm dn n) (ne : dn ≠ []) (hu : u.length < n + 4) (h13 : ∀ c r, u = c :: r → c = 13) : Tl (36 :: (dn ++ u)) ((tail1 n).drop u.length)
/-- What is held, what it lacks, of how many arguments it is. -/
inductive Vw : List Int → List Int → Int → Prop
  | a0 : Vw [42] [48, 13, 10] 0
  | a1 : Vw [42, 45] [49, 13, 10] 0
  | a2 (ds : List Int) (v : Int) (h : Vl ds v) (hm : v ≤ 128) : Vw (42 :: ds) (13 :: 10 :: empties v.toNat) v
  | b (ds : List Int) (v : Int) (h : Vl ds v) (hm : v ≤ 128) : Vw (42 :: (ds ++ [13])) (10 :: empties v.toNat) v
  | c (ds : List Int) (l : List (List Int × List Int)) (tl r : List Int) (v : Int) (h : Nm ds v) (ne : ds ≠ []) (hm : v ≤ 128) (hl : (l.length : Int) < v) (ok : ∀ x ∈ l, ArgOk x) (ht : Tl tl r) : Vw (headB ds l ++ tl) (r ++ empties (v.toNat - 1 - l.length)) v
theorem _root_.Go.Proofs.Ytfdkcnbkoagmiaa.LivS.Nm.nonneg {l : List Int} {v : Int} (h : Nm l v) : 0 ≤ v := by
  have := val_nonneg h.d
  rw [h.v] at this
  exact this
theorem Vl.nonneg {l : List Int} {v : Int} (h : Vl l v) : 0 ≤ v := by
  rcases h with ⟨_, rfl⟩ | ⟨h, _⟩
  · exact Int.le_refl _
  · exact h.nonneg
theorem zeros_drop (a b : Nat) : zeros (a + b) = zeros a ++ zeros b := by unfold zeros; exact List.replicate_append_replicate.symm
theorem drop_tail1 (a b : Nat) : (tail1 (a + b)).drop (a + 2) = zeros b ++ [13, 10] := by
  unfold tail1
  rw [zeros_drop, List.drop_succ_cons, List.drop_succ_cons, List.append_assoc, List.drop_left' (by simp [zeros])]
theorem _root_.Go.Proofs.Ytfdkcnbkoagmiaa.LivS.Sh.vw {t : List Int} {p : PS} (h : Sh t p) (hi : Inv p) (ha : Arr p) : Vw t (compl p) (cnt p) := by
  have hdg := hi.dg
  have hrest : rest p = (p.want - p.args.length).toNat := rfl
  cases h with
  | begin s a cc => exact absurd s ha.1
  | line d r s e hd hn a => exact absurd s ha.2
  | dig0 ds s hh m a n l nm =>
    have ec : compl p = if p.digits = 0 then [48, 13, 10] else 13 :: 10 :: empties p.num.toNat := by unfold compl; rw [s]; dsimp only; rw [if_pos hh]
    have en : cnt p = p.num := by unfold cnt; rw [s]; dsimp only; rw [if_pos hh]
    rw [ec, en]
    by_cases hd : p.digits = 0
    · rw [if_pos hd]
      obtain rfl : ds = [] := List.length_eq_zero_iff.1 (by omega)
      have : p.num = 0 := by omega
      rw [this]
      exact .a0
    · rw [if_neg hd]
      exact .a2 ds _ (.inr ⟨n, ne_of_len (by omega)⟩) nm
  | minus s hh a n =>
    have ec : compl p = 49 :: 13 :: 10 :: empties p.num.toNat := by unfold compl; rw [s]
    have en : cnt p = p.num := by unfold cnt; rw [s]
    rw [ec, en, n]
    exact .a1
  | minusR s hh a n =>
    have ec : compl p = 13 :: 10 :: empties p.num.toNat := by unfold compl; rw [s]
    have en : cnt p = p.num := by unfold cnt; rw [s]
    rw [ec, en]
    exact .a2 [45, 49] _ (.inl ⟨rfl, n⟩) (by omega)
  | num0 ds s hh a n ne m =>
    have ec : compl p = 10 :: empties p.num.toNat := by unfold compl; rw [s]; dsimp only; rw [if_pos hh]
    have en : cnt p = p.num := by unfold cnt; rw [s]; dsimp only; rw [if_pos hh]
    rw [ec, en]
    exact .b ds _ (.inr ⟨n, ne⟩) m
  | numM s hh a n =>
    have ec : compl p = 10 :: empties p.num.toNat := by unfold compl; rw [s]; dsimp only; rw [if_pos hh]
    have en : cnt p = p.num := by unfold cnt; rw [s]; dsimp only; rw [if_pos hh]
    rw [ec, en]
    exact .b [45, 49] _ (.inl ⟨rfl, n⟩) (by omega)
  | dollar ds l s n ne m w a ok =>
    have en : cnt p = p.want := by unfold cnt; rw [s]
    have hla : p.args.length = l.length := by rw [a, List.length_map]
    have ec : compl p = one ++ empties (p.want.toNat - 1 - l.length) := by
      unfold compl
      rw [s]
      dsimp only
      rw [show rest p = (p.want.toNat - 1 - l.length) + 1 by omega, empties_succ]
    rw [ec, en]
    have := Vw.c ds l [] one p.want n ne m (by omega) ok .none
    rw [List.append_nil] at this
    exact this
  | dig1 ds l dn s hh mo n ne m w a ok nn dl =>
    have en : cnt p = p.want := by unfold cnt; rw [s]; dsimp only; rw [if_neg (by omega)]
    have hla : p.args.length = l.length := by rw [a, List.length_map]
    have ec : compl p = (if p.digits = 0 then [48, 13, 10, 13, 10] else tail1 p.num.toNat) ++ empties (p.want.toNat - 1 - l.length) := by
      unfold compl
      rw [s]
      dsimp only
      rw [if_neg (by omega), show rest p - 1 = p.want.toNat - 1 - l.length by omega]
    rw [ec, en]
    refine .c ds l _ _ p.want n ne m (by omega) ok ?_
    by_cases hd : p.digits = 0
    · rw [if_pos hd]
      obtain rfl : dn = [] := List.length_eq_zero_iff.1 (by omega)
      exact .sign
    · rw [if_neg hd]
      have := Tl.some dn [] p.num.toNat (by rw [Int.toNat_of_nonneg nn.nonneg]; exact nn) (ne_of_len (by omega)) (by simp only [List.length_nil]; omega) (fun c r h => by cases h)
      rw [List.append_nil] at this
      exact this
  | num1 ds l dn s hh n ne m w a ok nn dne nm =>
    have en : cnt p = p.want := by unfold cnt; rw [s]; dsimp only; rw [if_neg (by omega)]
    have hla : p.args.length = l.length := by rw [a, List.length_map]
    have ec : compl p = (tail1 p.num.toNat).drop 1 ++ empties (p.want.toNat - 1 - l.length) := by
      unfold compl
      rw [s]
      dsimp only
      rw [if_neg (by omega), show rest p - 1 = p.want.toNat - 1 - l.length by omega]
      rfl
    rw [ec, en]
    exact .c ds l _ _ p.want n ne m (by omega) ok (Tl.some dn [13] p.num.toNat (by rw [Int.toNat_of_nonneg nn.nonneg]; exact nn) dne (by simp only [List.length_singleton]; omega) (fun c r h => by cases h; rfl))
  | cont ds l dn s n ne m w a ok nn dne nm =>
    have hla : p.args.length = l.length := by rw [a, List.length_map]
    have hl0 := hi.left.1
    have en : cnt p = p.want := by unfold cnt; rcases s with ⟨s, _⟩ | ⟨s, _⟩ <;> rw [s]
    have e1 : (tail1 (p.cur.length + p.left.toNat)).drop (p.cur.length + 2) = zeros p.left.toNat ++ [13, 10] := drop_tail1 _ _
    have ec : compl p = (zeros p.left.toNat ++ [13, 10]) ++ empties (p.want.toNat - 1 - l.length) := by
      unfold compl
      rcases s with ⟨s, _⟩ | ⟨s, hz⟩
      · rw [s]
        dsimp only
        rw [show rest p - 1 = p.want.toNat - 1 - l.length by omega]
      · rw [s, hz]
        dsimp only
        rw [show rest p - 1 = p.want.toNat - 1 - l.length by omega]
        rfl
    rw [ec, en, ← e1]
    exact .c ds l _ _ p.want n ne m (by omega) ok (Tl.some dn (13 :: 10 :: p.cur) (p.cur.length + p.left.toNat) (by rw [Int.natCast_add, Int.toNat_of_nonneg hl0]; exact nn) dne (by simp only [List.length_cons]; omega) (fun c r h => by cases h; rfl))
  | contF ds l dn s n ne m w a ok nn dne nm =>
    have hla : p.args.length = l.length := by rw [a, List.length_map]
    have en : cnt p = p.want := by unfold cnt; rw [s]
    have e1 : (tail1 p.cur.length).drop (p.cur.length + 3) = [10] := by
      have := drop_tail1 p.cur.length 0
      simp only [Nat.add_zero] at this
      rw [show p.cur.length + 3 = (p.cur.length + 2) + 1 by omega, ← List.drop_drop, this]
      rfl
    have ec : compl p = [10] ++ empties (p.want.toNat - 1 - l.length) := by
      unfold compl
      rw [s]
      dsimp only
      rw [show rest p - 1 = p.want.toNat - 1 - l.length by omega]
      rfl
    rw [ec, en, ← e1]
    have := Tl.some dn (13 :: 10 :: (p.cur ++ [13])) p.cur.length nn dne (by simp only [List.length_cons, List.length_append, List.length_nil]; omega) (fun c r h => by cases h; rfl)
    rw [show (13 :: 10 :: (p.cur ++ [13])).length = p.cur.length + 3 by simp] at this
    exact .c ds l _ _ p.want n ne m (by omega) ok this
theorem Tl.ne {tl r : List Int} (h : Tl tl r) : r ≠ [] := by
  cases h with
  | none => exact fun h => by cases h
  | sign => exact fun h => by cases h
  | some dn u n h ne hu h13 =>
    intro e
    have := congrArg List.length e
    rw [List.length_drop, tail1_len] at this
    simp only [List.length_nil] at this
    omega
theorem Vw.ne {t r : List Int} {n : Int} (h : Vw t r n) : r ≠ [] := by
  cases h with
  | c ds l tl r v h ne hm hl ok ht =>
    intro e
    exact ht.ne (List.append_eq_nil_iff.1 e).1
  | _ => exact fun h => by cases h
end Go.Proofs.Ytfdkcnbkoagmiaa.LivF
