/- What the document's own Pack and Unpack compute (the part of RefS that WordFresh needs). -/
import Derived.Test.YtgngpbcbnfmoiaaPAx7
import Derived.Test.YtgngpbcbnfmoiaaWordS
namespace Go.Proofs.Ytgngpbcbnfmoiaa.RefS
open Go Go.RowKit Go.Proofs.YtgngpbcbnfmoiaaW.PrintWords Go.Proofs.YtgngpbcbnfmoiaaW.PrintLast Go.Proofs.YtgngpbcbnfmoiaaW.PrintMore Go.Proofs.Ytgngpbcbnfmoiaa.PA Go.Proofs.Ytgngpbcbnfmoiaa.WordS Go.Proofs.Ytgngpbcbnfmoiaa.NumA

theorem Words (n : Int) (h : -9223372036854775808 ≤ n ∧ n < 9223372036854775808) : larderref1_Words.f n = word_Words.f n := by
  rw [words_some n h]
  unfold larderref1_Words.f
  by_cases h1 : n < 1
  · rw [if_pos h1, if_pos h1]
  · rw [if_neg h1, if_neg h1, Int.tmod_eq_emod_of_nonneg (by omega), Int.tdiv_eq_ediv_of_nonneg (by omega)]
    have e1 : wrap64 (n / 8) = n / 8 := by unfold wrap64; omega
    have e2 : wrap64 (n / 8 + 1) = n / 8 + 1 := by unfold wrap64; omega
    rw [e1, e2]
    by_cases h2 : n % 8 > 0
    · rw [if_pos h2]; congr 1; omega
    · rw [if_neg h2]; congr 1; omega

/-! ### Pack -/
theorem pow256_mono {a b : Nat} (h : a ≤ b) : (256 : Int) ^ a ≤ 256 ^ b := by
  obtain ⟨c, rfl⟩ := Nat.exists_eq_add_of_le h
  rw [Int.pow_add]
  have h1 : (0 : Int) < 256 ^ a := Int.pow_pos (by decide)
  have h0 : (0 : Int) < 256 ^ c := Int.pow_pos (by decide)
  have h2 : (1 : Int) ≤ 256 ^ c := h0
  have := Int.mul_le_mul_of_nonneg_left h2 (Int.le_of_lt h1)
  rw [Int.mul_one] at this
  exact this
def sv (l : List Int) (at_ i : Nat) : Int := valN ((l.drop (at_ + i)).take (8 - i))
theorem sv_step (l : List Int) (at_ i : Nat) (hi : i < 8) : sv l at_ i = l.getD (at_ + i) 0 + 256 * sv l at_ (i + 1) := by
  unfold sv
  by_cases h : at_ + i < l.length
  · rw [List.drop_eq_getElem_cons h, show 8 - i = (8 - (i + 1)) + 1 from by omega, List.take_succ_cons]
    simp only [valN]
    rw [List.getD_eq_getElem?_getD, List.getElem?_eq_getElem h, Option.getD_some, Nat.add_assoc]
  · rw [List.drop_of_length_le (by omega), List.drop_of_length_le (by omega), List.getD_eq_getElem?_getD, List.getElem?_eq_none (by omega)]
    simp [valN]
theorem sv_bd {l : List Int} (hl : inB l) (at_ i : Nat) : 0 ≤ sv l at_ i ∧ sv l at_ i < 256 ^ (8 - i) := by
  unfold sv
  have h := valN_bounds ((l.drop (at_ + i)).take (8 - i)) (fun b hb => hl b (List.mem_of_mem_drop (List.mem_of_mem_take hb)))
  have h2 : ((l.drop (at_ + i)).take (8 - i)).length ≤ 8 - i := by rw [List.length_take]; omega
  have h3 : (256 : Int) ^ ((l.drop (at_ + i)).take (8 - i)).length ≤ 256 ^ (8 - i) := pow256_mono h2
  omega

theorem pack_inner (l : List Int) (hl : inB l) (x3 : List Int) (at_ : Nat) (hat : at_ ≤ 140737488355336) (R : List Int)
    (h : Ev (fun k => larderref1_Pack.l1 k l x3 at_ (sv l at_ 0) (-1)) R) (i : Nat) (hi : i ≤ 8) : Ev (fun k => larderref1_Pack.l1 k l x3 at_ (sv l at_ i) ((i : Int) - 1)) R := by
  induction i with
  | zero => exact h
  | succ i ih =>
    have hs := sv_step l at_ i (by omega)
    have hb := sv_bd hl at_ (i + 1)
    have hp := pow256_le (8 - (i + 1)) (by omega)
    have hb0 := sv_bd hl at_ i
    have hp0 := pow256_le (8 - i) (by omega)
    have hp7 : (256 : Int) ^ (8 - (i + 1)) ≤ 72057594037927936 := by
      have : ∀ t : Fin 8, (256 : Int) ^ (8 - (t.1 + 1)) ≤ 72057594037927936 := by decide
      exact this ⟨i, by omega⟩
    have hw : wrap64 ((at_ : Int) + (((i + 1 : Nat) : Int) - 1)) = ((at_ + i : Nat) : Int) := by unfold wrap64; omega
    have hw2 : wrap64 (((i + 1 : Nat) : Int) - 1 - 1) = (i : Int) - 1 := by unfold wrap64; omega
    have hm : IntKind.u64.wrap (sv l at_ (i + 1) * 256) = sv l at_ (i + 1) * 256 := by rw [IntKind.wrap_u64]; omega
    refine Ev.step (f := fun k => larderref1_Pack.l1 k l x3 at_ (sv l at_ i) ((i : Int) - 1)) (fun k => ?_) (ih (by omega))
    simp only [larderref1_Pack.l1]
    rw [if_pos (by omega), hw, hm, hw2]
    by_cases hlt : at_ + i < l.length
    · have hg := hl _ (List.getElem_mem hlt)
      have hrd : rd l ((at_ + i : Nat) : Int) = l.getD (at_ + i) 0 := by unfold rd; rw [Int.toNat_natCast]
      have hgd : l.getD (at_ + i) 0 = l[at_ + i] := by rw [List.getD_eq_getElem?_getD, List.getElem?_eq_getElem hlt]; rfl
      rw [if_pos (by omega), if_pos (by omega), hrd]
      have e : IntKind.u64.wrap (sv l at_ (i + 1) * 256 + IntKind.u64.wrap (l.getD (at_ + i) 0)) = sv l at_ i := by
        rw [hgd] at hs ⊢
        rw [IntKind.wrap_u64, IntKind.wrap_u64]; omega
      rw [e]
    · have hgd : l.getD (at_ + i) 0 = 0 := by rw [List.getD_eq_getElem?_getD, List.getElem?_eq_none (by omega)]; rfl
      rw [if_neg (by omega)]
      rw [show sv l at_ (i + 1) * 256 = sv l at_ i from by rw [hgd] at hs; omega]

theorem pack_outer (l : List Int) (hl : inB l) (hn : l.length ≤ 140737488351232) (d : Nat) : ∀ j : Nat, j + d = (l.length + 7) / 8 → Ev (fun k => larderref1_Pack.l0 k l ((List.range j).map (wordOf l l.length)) ((8 * j : Nat) : Int)) (pack l) := by
  induction d with
  | zero =>
    intro j hj
    refine Ev.step (f := fun _ => some ((List.range j).map (wordOf l l.length))) (fun k => by simp only [larderref1_Pack.l0]; rw [if_neg (by omega)]) ?_
    rw [show pack l = (List.range j).map (wordOf l l.length) from by unfold pack; rw [← hj]; rfl]
    exact Ev.now _
  | succ d ih =>
    intro j hj
    refine Ev.step (f := fun k => larderref1_Pack.l1 k l ((List.range j).map (wordOf l l.length)) ((8 * j : Nat) : Int) (sv l (8 * j) 8) (((8 : Nat) : Int) - 1)) (fun k => ?_) ?_
    · simp only [larderref1_Pack.l0]
      rw [if_pos (by omega)]
      rfl
    · refine pack_inner l hl _ (8 * j) (by omega) _ ?_ 8 (Nat.le_refl _)
      have hw : wrap64 (((8 * j : Nat) : Int) + 8) = ((8 * (j + 1) : Nat) : Int) := by unfold wrap64; omega
      refine Ev.step (f := fun k => larderref1_Pack.l0 k l ((List.range (j + 1)).map (wordOf l l.length)) ((8 * (j + 1) : Nat) : Int)) (fun k => ?_) (ih (j + 1) (by omega))
      simp only [larderref1_Pack.l1]
      rw [if_neg (by decide), if_pos (by simp; omega), hw]
      congr 1
      rw [List.range_succ, List.map_append]
      congr 1
      simp [sv, wordOf]
theorem Pack (l : List Int) (hl : inB l) (hn : l.length ≤ 140737488351232) : Ev (fun k => larderref1_Pack.f k l) (pack l) := pack_outer l hl hn _ 0 (Nat.zero_add _)

/-! ### Unpack -/
theorem unpack_len (w : List Int) (n : Nat) : (unpack w n).length = n := by simp [unpack]
theorem unpack_succ (w : List Int) (n : Nat) : unpack w (n + 1) = unpack w n ++ [byteAt w n] := by simp [unpack, List.range_succ]

theorem unpack_inner (w : List Int) (hw : inW w) (n i : Nat) (hi : i < w.length) (hil : w.length < 9223372036854775807) (hn : n ≤ 140737488355328) (R : List Int × Int)
    (h : ∀ m, m ≤ n → (m = n ∨ m = 8 * (i + 1)) → Ev (fun k => larderref1_Unpack.l0 k w n (unpack w m) ((i + 1 : Nat) : Int)) R) (d : Nat) :
    ∀ t : Nat, t + d = 8 → 8 * i + t ≤ n → Ev (fun k => larderref1_Unpack.l1 k w n (unpack w (8 * i + t)) i (w.getD i 0 / 256 ^ t) t) R := by
  have hwrap : wrap64 ((i : Int) + 1) = ((i + 1 : Nat) : Int) := by unfold wrap64; omega
  induction d with
  | zero =>
    intro t ht htn
    obtain rfl : t = 8 := by omega
    refine Ev.step (f := fun k => larderref1_Unpack.l0 k w n (unpack w (8 * i + 8)) ((i + 1 : Nat) : Int)) (fun k => ?_) (h _ htn (.inr (by omega)))
    simp only [larderref1_Unpack.l1]
    rw [if_neg (by omega), hwrap]
  | succ d ih =>
    intro t ht htn
    by_cases hc : 8 * i + t < n
    · have h3 : wrap64 ((t : Int) + 1) = ((t + 1 : Nat) : Int) := by unfold wrap64; omega
      have hg : 0 ≤ w.getD i 0 ∧ w.getD i 0 < 18446744073709551616 := by
        rw [List.getD_eq_getElem?_getD, List.getElem?_eq_getElem hi]
        exact hw _ (List.getElem_mem hi)
      have hp : (0 : Int) < 256 ^ t := Int.pow_pos (by decide)
      have hq0 : 0 ≤ w.getD i 0 / 256 ^ t := Int.ediv_nonneg hg.1 (Int.le_of_lt hp)
      have hq1 : w.getD i 0 / 256 ^ t < 18446744073709551616 := by
        have := Int.ediv_le_self (256 ^ t) hg.1
        omega
      have hb : (Int.tmod (w.getD i 0 / 256 ^ t) 256) % 256 = byteAt w (8 * i + t) := by
        rw [Int.tmod_eq_emod_of_nonneg hq0]
        unfold byteAt
        rw [show (8 * i + t) / 8 = i from by omega, show (8 * i + t) % 8 = t from by omega]
        omega
      have hd : IntKind.u64.wrap (Int.tdiv (w.getD i 0 / 256 ^ t) 256) = w.getD i 0 / 256 ^ (t + 1) := by
        rw [Int.tdiv_eq_ediv_of_nonneg hq0, IntKind.wrap_u64, Int.pow_succ, ← Int.ediv_ediv_of_nonneg (Int.le_of_lt hp)]
        omega
      refine Ev.step (f := fun k => larderref1_Unpack.l1 k w n (unpack w (8 * i + (t + 1))) i (w.getD i 0 / 256 ^ (t + 1)) ((t + 1 : Nat) : Int)) (fun k => ?_) (ih (t + 1) (by omega) (by omega))
      simp only [larderref1_Unpack.l1]
      rw [if_pos (by omega), if_pos (by rw [unpack_len]; omega), if_pos (by rw [unpack_len]; omega), hb, hd, h3, ← unpack_succ]
      rfl
    · have e : 8 * i + t = n := by omega
      refine Ev.step (f := fun k => larderref1_Unpack.l0 k w n (unpack w (8 * i + t)) ((i + 1 : Nat) : Int)) (fun k => ?_) (h _ htn (.inl e))
      simp only [larderref1_Unpack.l1]
      rw [if_pos (by omega), if_neg (by rw [unpack_len]; omega), hwrap]

theorem unpack_outer (w : List Int) (hw : inW w) (n : Nat) (hil : w.length < 9223372036854775807) (hn : n ≤ 140737488355328) (hnw : n ≤ 8 * w.length) (d : Nat) :
    ∀ i m : Nat, i + d = w.length → m ≤ n → (m = n ∨ m = 8 * i) → Ev (fun k => larderref1_Unpack.l0 k w n (unpack w m) i) (unpack w n, 0) := by
  have stop : ∀ i : Nat, Ev (fun k => larderref1_Unpack.j1 k w n (unpack w n) i false) (unpack w n, 0) := fun i =>
    Ev.step (f := fun _ => some (unpack w n, 0)) (fun k => by simp only [larderref1_Unpack.j1]; rw [if_neg (by simp)]) (Ev.now _)
  induction d with
  | zero =>
    intro i m hi hm hc
    obtain rfl : m = n := by omega
    refine Ev.step (f := fun k => larderref1_Unpack.j1 k w m (unpack w m) i false) (fun k => ?_) (stop i)
    simp only [larderref1_Unpack.l0]
    rw [if_neg (by omega)]
  | succ d ih =>
    intro i m hi hm hc
    have hi' : i < w.length := by omega
    by_cases he : m = n
    · subst he
      refine Ev.step (f := fun k => larderref1_Unpack.j1 k w m (unpack w m) i false) (fun k => ?_) (stop i)
      simp only [larderref1_Unpack.l0]
      rw [if_pos (by omega), decide_eq_false (by rw [unpack_len]; omega)]
    · obtain rfl : m = 8 * i := by omega
      refine Ev.step (f := fun k => larderref1_Unpack.j1 k w n (unpack w (8 * i)) i true) (fun k => ?_) ?_
      · simp only [larderref1_Unpack.l0]
        rw [if_pos (by omega), decide_eq_true (by rw [unpack_len]; omega)]
      · have hin := unpack_inner w hw n i hi' hil hn (unpack w n, 0) (fun m' h1 h2 => ih (i + 1) m' (by omega) h1 h2) 8 0 rfl (by omega)
        refine Ev.step (f := fun k => larderref1_Unpack.l1 k w n (unpack w (8 * i)) i (rd w (i : Int)) 0) (fun k => ?_) ?_
        · simp only [larderref1_Unpack.j1]
          rw [if_pos trivial, if_pos (by omega), if_pos (by omega)]
        · have : rd w (i : Int) = w.getD i 0 / 256 ^ 0 := by unfold rd; rw [Int.toNat_natCast]; simp
          rw [this]
          exact hin
theorem Unpack_ok (w : List Int) (hw : inW w) (n : Nat) (hil : w.length < 9223372036854775807) (hn : n ≤ 140737488355328) (hnw : n ≤ 8 * w.length) : Ev (fun k => larderref1_Unpack.f k w (n : Int)) (unpack w n, 0) := by
  have h := unpack_outer w hw n hil hn hnw w.length 0 0 (by omega) (Nat.zero_le _) (.inr rfl)
  refine Ev.congr (fun k => ?_) h
  unfold larderref1_Unpack.f
  rw [if_neg (by omega), Words _ (by omega), words_nat n (by omega), Option.bind_some, if_neg (by omega)]
  rfl
theorem Unpack_bad (w : List Int) (n : Int) (hn : -9223372036854775808 ≤ n ∧ n < 9223372036854775808) (h : n < 0 ∨ 8 * (w.length : Int) < n) : Ev (fun k => larderref1_Unpack.f k w n) ([], 11) := by
  refine Ev.congr (f := fun _ => some (([] : List Int), 11)) (fun k => ?_) (Ev.now _)
  unfold larderref1_Unpack.f
  by_cases h0 : n < 0
  · rw [if_pos h0]
  · rw [if_neg h0, Words n hn, words_some n hn, if_neg (show ¬ n < 1 by omega), Option.bind_some, if_pos (by omega)]

/-! ### sameWords -/
theorem same_ev (l : List Int) (hn : l.length < 9223372036854775807) (d : Nat) : ∀ i : Nat, i + d = l.length → Ev (fun k => larderlaw1_sameWords.l0 k l l i) true := by
  induction d with
  | zero =>
    intro i hi
    exact Ev.step (f := fun _ => some true) (fun k => by simp only [larderlaw1_sameWords.l0]; rw [if_neg (by omega)]) (Ev.now _)
  | succ d ih =>
    intro i hi
    have hw : wrap64 ((i : Int) + 1) = ((i + 1 : Nat) : Int) := by unfold wrap64; omega
    refine Ev.step (f := fun k => larderlaw1_sameWords.l0 k l l ((i + 1 : Nat) : Int)) (fun k => ?_) (ih (i + 1) (by omega))
    simp only [larderlaw1_sameWords.l0]
    rw [if_pos (by omega), if_pos (by omega), if_pos (by omega), if_pos trivial, hw]
theorem sameWords (l : List Int) (hn : l.length < 9223372036854775807) : Ev (fun k => larderlaw1_sameWords.f k l l) true := by
  refine Ev.congr (fun k => ?_) (same_ev l hn l.length 0 (Nat.zero_add _))
  unfold larderlaw1_sameWords.f
  rw [if_pos rfl]
  rfl

end Go.Proofs.Ytgngpbcbnfmoiaa.RefS
