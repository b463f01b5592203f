/- What the document's own functions of layer 1 compute, in the same plain words as the program's. -/
import Derived.Test.YtgngpbcbnfmoiaaPDm
import Derived.Test.YtgngpbcbnfmoiaaPAx7
import Derived.Test.YtgngpbcbnfmoiaaHashS
import Derived.Test.YtgngpbcbnfmoiaaCrcB
import Derived.Test.YtgngpbcbnfmoiaaDigW
namespace Go.Proofs.Ytgngpbcbnfmoiaa.RefS
open Go Go.RowKit Go.Proofs.YtgngpbcbnfmoiaaW.PrintWords Go.Proofs.YtgngpbcbnfmoiaaW.PrintLast Go.Proofs.YtgngpbcbnfmoiaaW.PrintMore Go.Proofs.Ytgngpbcbnfmoiaa.PA Go.Proofs.Ytgngpbcbnfmoiaa.PD Go.Proofs.Ytgngpbcbnfmoiaa.WordS Go.Proofs.Ytgngpbcbnfmoiaa.HashS Go.Proofs.Ytgngpbcbnfmoiaa.NumA

theorem Words (n : Int) (h : -9223372036854775808 ≤ n ∧ n < 9223372036854775808) : larderref1_Words.f n = word_Words.f n := by
  rw [words_some n h]
  unfold larderref1_Words.f
  by_cases h1 : n < 1
  · rw [if_pos h1, if_pos h1]
  · rw [if_neg h1, if_neg h1, Int.tmod_eq_emod_of_nonneg (by omega), Int.tdiv_eq_ediv_of_nonneg (by omega)]
    have e1 : wrap64 (n / 8) = n / 8 := by unfold wrap64; omega
    have e2 : wrap64 (n / 8 + 1) = n / 8 + 1 := by unfold wrap64; omega
    rw [e1, e2]
    by_cases h2 : n % 8 > 0
    · rw [if_pos h2]; congr 1; omega
    · rw [if_neg h2]; congr 1; omega

/-! ### Pack -/
theorem pow256_mono {a b : Nat} (h : a ≤ b) : (256 : Int) ^ a ≤ 256 ^ b := by
  obtain ⟨c, rfl⟩ := Nat.exists_eq_add_of_le h
  rw [Int.pow_add]
  have h1 : (0 : Int) < 256 ^ a := Int.pow_pos (by decide)
  have h0 : (0 : Int) < 256 ^ c := Int.pow_pos (by decide)
  have h2 : (1 : Int) ≤ 256 ^ c := h0
  have := Int.mul_le_mul_of_nonneg_left h2 (Int.le_of_lt h1)
  rw [Int.mul_one] at this
  exact this
def sv (l : List Int) (at_ i : Nat) : Int := valN ((l.drop (at_ + i)).take (8 - i))
theorem sv_step (l : List Int) (at_ i : Nat) (hi : i < 8) : sv l at_ i = l.getD (at_ + i) 0 + 256 * sv l at_ (i + 1) := by
  unfold sv
  by_cases h : at_ + i < l.length
  · rw [List.drop_eq_getElem_cons h, show 8 - i = (8 - (i + 1)) + 1 from by omega, List.take_succ_cons]
    simp only [valN]
    rw [List.getD_eq_getElem?_getD, List.getElem?_eq_getElem h, Option.getD_some, Nat.add_assoc]
  · rw [List.drop_of_length_le (by omega), List.drop_of_length_le (by omega), List.getD_eq_getElem?_getD, List.getElem?_eq_none (by omega)]
    simp [valN]
theorem sv_bd {l : List Int} (hl : inB l) (at_ i : Nat) : 0 ≤ sv l at_ i ∧ sv l at_ i < 256 ^ (8 - i) := by
  unfold sv
  have h := valN_bounds ((l.drop (at_ + i)).take (8 - i)) (fun b hb => hl b (List.mem_of_mem_drop (List.mem_of_mem_take hb)))
  have h2 : ((l.drop (at_ + i)).take (8 - i)).length ≤ 8 - i := by rw [List.length_take]; omega
  have h3 : (256 : Int) ^ ((l.drop (at_ + i)).take (8 - i)).length ≤ 256 ^ (8 - i) := pow256_mono h2
  omega

theorem pack_inner (l : List Int) (hl : inB l) (x3 : List Int) (at_ : Nat) (hat : at_ ≤ 140737488355336) (R : List Int)
    (h : Ev (fun k => larderref1_Pack.l1 k l x3 at_ (sv l at_ 0) (-1)) R) (i : Nat) (hi : i ≤ 8) : Ev (fun k => larderref1_Pack.l1 k l x3 at_ (sv l at_ i) ((i : Int) - 1)) R := by
  induction i with
  | zero => exact h
  | succ i ih =>
    have hs := sv_step l at_ i (by omega)
    have hb := sv_bd hl at_ (i + 1)
    have hp := pow256_le (8 - (i + 1)) (by omega)
    have hb0 := sv_bd hl at_ i
    have hp0 := pow256_le (8 - i) (by omega)
    have hp7 : (256 : Int) ^ (8 - (i + 1)) ≤ 72057594037927936 := by
      have : ∀ t : Fin 8, (256 : Int) ^ (8 - (t.1 + 1)) ≤ 72057594037927936 := by decide
      exact this ⟨i, by omega⟩
    have hw : wrap64 ((at_ : Int) + (((i + 1 : Nat) : Int) - 1)) = ((at_ + i : Nat) : Int) := by unfold wrap64; omega
    have hw2 : wrap64 (((i + 1 : Nat) : Int) - 1 - 1) = (i : Int) - 1 := by unfold wrap64; omega
    have hm : IntKind.u64.wrap (sv l at_ (i + 1) * 256) = sv l at_ (i + 1) * 256 := by rw [IntKind.wrap_u64]; omega
    refine Ev.step (f := fun k => larderref1_Pack.l1 k l x3 at_ (sv l at_ i) ((i : Int) - 1)) (fun k => ?_) (ih (by omega))
    simp only [larderref1_Pack.l1]
    rw [if_pos (by omega), hw, hm, hw2]
    by_cases hlt : at_ + i < l.length
    · have hg := hl _ (List.getElem_mem hlt)
      have hrd : rd l ((at_ + i : Nat) : Int) = l.getD (at_ + i) 0 := by unfold rd; rw [Int.toNat_natCast]
      have hgd : l.getD (at_ + i) 0 = l[at_ + i] := by rw [List.getD_eq_getElem?_getD, List.getElem?_eq_getElem hlt]; rfl
      rw [if_pos (by omega), if_pos (by omega), hrd]
      have e : IntKind.u64.wrap (sv l at_ (i + 1) * 256 + IntKind.u64.wrap (l.getD (at_ + i) 0)) = sv l at_ i := by
        rw [hgd] at hs ⊢
        rw [IntKind.wrap_u64, IntKind.wrap_u64]; omega
      rw [e]
    · have hgd : l.getD (at_ + i) 0 = 0 := by rw [List.getD_eq_getElem?_getD, List.getElem?_eq_none (by omega)]; rfl
      rw [if_neg (by omega)]
      rw [show sv l at_ (i + 1) * 256 = sv l at_ i from by rw [hgd] at hs; omega]

theorem pack_outer (l : List Int) (hl : inB l) (hn : l.length ≤ 140737488351232) (d : Nat) : ∀ j : Nat, j + d = (l.length + 7) / 8 → Ev (fun k => larderref1_Pack.l0 k l ((List.range j).map (wordOf l l.length)) ((8 * j : Nat) : Int)) (pack l) := by
  induction d with
  | zero =>
    intro j hj
    refine Ev.step (f := fun _ => some ((List.range j).map (wordOf l l.length))) (fun k => by simp only [larderref1_Pack.l0]; rw [if_neg (by omega)]) ?_
    rw [show pack l = (List.range j).map (wordOf l l.length) from by unfold pack; rw [← hj]; rfl]
    exact Ev.now _
  | succ d ih =>
    intro j hj
    refine Ev.step (f := fun k => larderref1_Pack.l1 k l ((List.range j).map (wordOf l l.length)) ((8 * j : Nat) : Int) (sv l (8 * j) 8) (((8 : Nat) : Int) - 1)) (fun k => ?_) ?_
    · simp only [larderref1_Pack.l0]
      rw [if_pos (by omega)]
      rfl
    · refine pack_inner l hl _ (8 * j) (by omega) _ ?_ 8 (Nat.le_refl _)
      have hw : wrap64 (((8 * j : Nat) : Int) + 8) = ((8 * (j + 1) : Nat) : Int) := by unfold wrap64; omega
      refine Ev.step (f := fun k => larderref1_Pack.l0 k l ((List.range (j + 1)).map (wordOf l l.length)) ((8 * (j + 1) : Nat) : Int)) (fun k => ?_) (ih (j + 1) (by omega))
      simp only [larderref1_Pack.l1]
      rw [if_neg (by decide), if_pos (by simp; omega), hw]
      congr 1
      rw [List.range_succ, List.map_append]
      congr 1
      simp [sv, wordOf]
theorem Pack (l : List Int) (hl : inB l) (hn : l.length ≤ 140737488351232) : Ev (fun k => larderref1_Pack.f k l) (pack l) := pack_outer l hl hn _ 0 (Nat.zero_add _)

/-! ### Unpack -/
theorem unpack_len (w : List Int) (n : Nat) : (unpack w n).length = n := by simp [unpack]
theorem unpack_succ (w : List Int) (n : Nat) : unpack w (n + 1) = unpack w n ++ [byteAt w n] := by simp [unpack, List.range_succ]

theorem unpack_inner (w : List Int) (hw : inW w) (n i : Nat) (hi : i < w.length) (hil : w.length < 9223372036854775807) (hn : n ≤ 140737488355328) (R : List Int × Int)
    (h : ∀ m, m ≤ n → (m = n ∨ m = 8 * (i + 1)) → Ev (fun k => larderref1_Unpack.l0 k w n (unpack w m) ((i + 1 : Nat) : Int)) R) (d : Nat) :
    ∀ t : Nat, t + d = 8 → 8 * i + t ≤ n → Ev (fun k => larderref1_Unpack.l1 k w n (unpack w (8 * i + t)) i (w.getD i 0 / 256 ^ t) t) R := by
  have hwrap : wrap64 ((i : Int) + 1) = ((i + 1 : Nat) : Int) := by unfold wrap64; omega
  induction d with
  | zero =>
    intro t ht htn
    obtain rfl : t = 8 := by omega
    refine Ev.step (f := fun k => larderref1_Unpack.l0 k w n (unpack w (8 * i + 8)) ((i + 1 : Nat) : Int)) (fun k => ?_) (h _ htn (.inr (by omega)))
    simp only [larderref1_Unpack.l1]
    rw [if_neg (by omega), hwrap]
  | succ d ih =>
    intro t ht htn
    by_cases hc : 8 * i + t < n
    · have h3 : wrap64 ((t : Int) + 1) = ((t + 1 : Nat) : Int) := by unfold wrap64; omega
      have hg : 0 ≤ w.getD i 0 ∧ w.getD i 0 < 18446744073709551616 := by
        rw [List.getD_eq_getElem?_getD, List.getElem?_eq_getElem hi]
        exact hw _ (List.getElem_mem hi)
      have hp : (0 : Int) < 256 ^ t := Int.pow_pos (by decide)
      have hq0 : 0 ≤ w.getD i 0 / 256 ^ t := Int.ediv_nonneg hg.1 (Int.le_of_lt hp)
      have hq1 : w.getD i 0 / 256 ^ t < 18446744073709551616 := by
        have := Int.ediv_le_self (256 ^ t) hg.1
        omega
      have hb : (Int.tmod (w.getD i 0 / 256 ^ t) 256) % 256 = byteAt w (8 * i + t) := by
        rw [Int.tmod_eq_emod_of_nonneg hq0]
        unfold byteAt
        rw [show (8 * i + t) / 8 = i from by omega, show (8 * i + t) % 8 = t from by omega]
        omega
      have hd : IntKind.u64.wrap (Int.tdiv (w.getD i 0 / 256 ^ t) 256) = w.getD i 0 / 256 ^ (t + 1) := by
        rw [Int.tdiv_eq_ediv_of_nonneg hq0, IntKind.wrap_u64, Int.pow_succ, ← Int.ediv_ediv_of_nonneg (Int.le_of_lt hp)]
        omega
      refine Ev.step (f := fun k => larderref1_Unpack.l1 k w n (unpack w (8 * i + (t + 1))) i (w.getD i 0 / 256 ^ (t + 1)) ((t + 1 : Nat) : Int)) (fun k => ?_) (ih (t + 1) (by omega) (by omega))
      simp only [larderref1_Unpack.l1]
      rw [if_pos (by omega), if_pos (by rw [unpack_len]; omega), if_pos (by rw [unpack_len]; omega), hb, hd, h3, ← unpack_succ]
      rfl
    · have e : 8 * i + t = n := by omega
      refine Ev.step (f := fun k => larderref1_Unpack.l0 k w n (unpack w (8 * i + t)) ((i + 1 : Nat) : Int)) (fun k => ?_) (h _ htn (.inl e))
      simp only [larderref1_Unpack.l1]
      rw [if_pos (by omega), if_neg (by rw [unpack_len]; omega), hwrap]

theorem unpack_outer (w : List Int) (hw : inW w) (n : Nat) (hil : w.length < 9223372036854775807) (hn : n ≤ 140737488355328) (hnw : n ≤ 8 * w.length) (d : Nat) :
    ∀ i m : Nat, i + d = w.length → m ≤ n → (m = n ∨ m = 8 * i) → Ev (fun k => larderref1_Unpack.l0 k w n (unpack w m) i) (unpack w n, 0) := by
  have stop : ∀ i : Nat, Ev (fun k => larderref1_Unpack.j1 k w n (unpack w n) i false) (unpack w n, 0) := fun i =>
    Ev.step (f := fun _ => some (unpack w n, 0)) (fun k => by simp only [larderref1_Unpack.j1]; rw [if_neg (by simp)]) (Ev.now _)
  induction d with
  | zero =>
    intro i m hi hm hc
    obtain rfl : m = n := by omega
    refine Ev.step (f := fun k => larderref1_Unpack.j1 k w m (unpack w m) i false) (fun k => ?_) (stop i)
    simp only [larderref1_Unpack.l0]
    rw [if_neg (by omega)]
  | succ d ih =>
    intro i m hi hm hc
    have hi' : i < w.length := by omega
    by_cases he : m = n
    · subst he
      refine Ev.step (f := fun k => larderref1_Unpack.j1 k w m (unpack w m) i false) (fun k => ?_) (stop i)
      simp only [larderref1_Unpack.l0]
      rw [if_pos (by omega), decide_eq_false (by rw [unpack_len]; omega)]
    · obtain rfl : m = 8 * i := by omega
      refine Ev.step (f := fun k => larderref1_Unpack.j1 k w n (unpack w (8 * i)) i true) (fun k => ?_) ?_
      · simp only [larderref1_Unpack.l0]
        rw [if_pos (by omega), decide_eq_true (by rw [unpack_len]; omega)]
      · have hin := unpack_inner w hw n i hi' hil hn (unpack w n, 0) (fun m' h1 h2 => ih (i + 1) m' (by omega) h1 h2) 8 0 rfl (by omega)
        refine Ev.step (f := fun k => larderref1_Unpack.l1 k w n (unpack w (8 * i)) i (rd w (i : Int)) 0) (fun k => ?_) ?_
        · simp only [larderref1_Unpack.j1]
          rw [if_pos trivial, if_pos (by omega), if_pos (by omega)]
        · have : rd w (i : Int) = w.getD i 0 / 256 ^ 0 := by unfold rd; rw [Int.toNat_natCast]; simp
          rw [this]
          exact hin
theorem Unpack_ok (w : List Int) (hw : inW w) (n : Nat) (hil : w.length < 9223372036854775807) (hn : n ≤ 140737488355328) (hnw : n ≤ 8 * w.length) : Ev (fun k => larderref1_Unpack.f k w (n : Int)) (unpack w n, 0) := by
  have h := unpack_outer w hw n hil hn hnw w.length 0 0 (by omega) (Nat.zero_le _) (.inr rfl)
  refine Ev.congr (fun k => ?_) h
  unfold larderref1_Unpack.f
  rw [if_neg (by omega), Words _ (by omega), words_nat n (by omega), Option.bind_some, if_neg (by omega)]
  rfl
theorem Unpack_bad (w : List Int) (n : Int) (hn : -9223372036854775808 ≤ n ∧ n < 9223372036854775808) (h : n < 0 ∨ 8 * (w.length : Int) < n) : Ev (fun k => larderref1_Unpack.f k w n) ([], 11) := by
  refine Ev.congr (f := fun _ => some (([] : List Int), 11)) (fun k => ?_) (Ev.now _)
  unfold larderref1_Unpack.f
  by_cases h0 : n < 0
  · rw [if_pos h0]
  · rw [if_neg h0, Words n hn, words_some n hn, if_neg (show ¬ n < 1 by omega), Option.bind_some, if_pos (by omega)]

/-! ### sameWords -/
theorem same_ev (l : List Int) (hn : l.length < 9223372036854775807) (d : Nat) : ∀ i : Nat, i + d = l.length → Ev (fun k => larderlaw1_sameWords.l0 k l l i) true := by
  induction d with
  | zero =>
    intro i hi
    exact Ev.step (f := fun _ => some true) (fun k => by simp only [larderlaw1_sameWords.l0]; rw [if_neg (by omega)]) (Ev.now _)
  | succ d ih =>
    intro i hi
    have hw : wrap64 ((i : Int) + 1) = ((i + 1 : Nat) : Int) := by unfold wrap64; omega
    refine Ev.step (f := fun k => larderlaw1_sameWords.l0 k l l ((i + 1 : Nat) : Int)) (fun k => ?_) (ih (i + 1) (by omega))
    simp only [larderlaw1_sameWords.l0]
    rw [if_pos (by omega), if_pos (by omega), if_pos (by omega), if_pos trivial, hw]
theorem sameWords (l : List Int) (hn : l.length < 9223372036854775807) : Ev (fun k => larderlaw1_sameWords.f k l l) true := by
  refine Ev.congr (fun k => ?_) (same_ev l hn l.length 0 (Nat.zero_add _))
  unfold larderlaw1_sameWords.f
  rw [if_pos rfl]
  rfl

/-! ### Hash -/
theorem times_ev (n : Nat) : ∀ (a b p : Nat), b = n → a < 18446744073709551616 → b < 18446744073709551616 → p < 18446744073709551616 → Ev (fun k => larderref1_times.l0 k a b p) (((p + a * b) % 18446744073709551616 : Nat) : Int) := by
  induction n using Nat.strongRecOn with
  | _ n ih =>
    intro a b p hbn ha hb hp
    by_cases h0 : b = 0
    · subst h0
      refine Ev.step (f := fun _ => some (p : Int)) (fun k => by simp only [larderref1_times.l0]; rw [if_neg (by omega)]) ?_
      rw [Nat.mul_zero, Nat.add_zero, Nat.mod_eq_of_lt hp]
      exact Ev.now _
    · have e1 : IntKind.u64.wrap ((a : Int) + a) = ((2 * a % 18446744073709551616 : Nat) : Int) := by rw [IntKind.wrap_u64]; omega
      have e2 : IntKind.u64.wrap (Int.tdiv (b : Int) 2) = ((b / 2 : Nat) : Int) := by rw [Int.tdiv_eq_ediv_of_nonneg (by omega), IntKind.wrap_u64]; omega
      have e3 : IntKind.u64.wrap ((p : Int) + a) = (((p + a) % 18446744073709551616 : Nat) : Int) := by rw [IntKind.wrap_u64]; omega
      have e4 : Int.tmod (b : Int) 2 = ((b % 2 : Nat) : Int) := by rw [Int.tmod_eq_emod_of_nonneg (by omega)]; omega
      by_cases hodd : b % 2 = 1
      · have key : ((p + a) % 18446744073709551616 + 2 * a % 18446744073709551616 * (b / 2)) % 18446744073709551616 = (p + a * b) % 18446744073709551616 := by
          have hb2 : b = 2 * (b / 2) + 1 := by omega
          rw [Nat.add_mod, Nat.mod_mod, Nat.mod_mul_mod, ← Nat.add_mod]
          congr 1
          conv => rhs; rw [hb2]
          rw [Nat.mul_add, Nat.mul_one, ← Nat.mul_assoc, Nat.mul_comm a 2, Nat.add_assoc, Nat.add_comm a]
        rw [← key]
        refine Ev.step (f := fun k => larderref1_times.l0 k ((2 * a % 18446744073709551616 : Nat) : Int) ((b / 2 : Nat) : Int) (((p + a) % 18446744073709551616 : Nat) : Int)) (fun k => ?_) (ih (b / 2) (by omega) _ _ _ rfl (Nat.mod_lt _ (by decide)) (by omega) (Nat.mod_lt _ (by decide)))
        simp only [larderref1_times.l0]
        rw [if_pos (by omega), e4, if_pos (by omega), e1, e2, e3]
      · have key : (p + 2 * a % 18446744073709551616 * (b / 2)) % 18446744073709551616 = (p + a * b) % 18446744073709551616 := by
          have hb2 : b = 2 * (b / 2) := by omega
          rw [Nat.add_mod, Nat.mod_mul_mod, ← Nat.add_mod]
          congr 1
          conv => rhs; rw [hb2]
          rw [← Nat.mul_assoc, Nat.mul_comm a 2]
        rw [← key]
        refine Ev.step (f := fun k => larderref1_times.l0 k ((2 * a % 18446744073709551616 : Nat) : Int) ((b / 2 : Nat) : Int) (p : Int)) (fun k => ?_) (ih (b / 2) (by omega) _ _ _ rfl (Nat.mod_lt _ (by decide)) (by omega) hp)
        simp only [larderref1_times.l0]
        rw [if_pos (by omega), e4, if_neg (by omega), e1, e2]
theorem times (a b : Nat) (ha : a < 18446744073709551616) (hb : b < 18446744073709551616) : Ev (fun k => larderref1_times.f k a b) ((ml b a : Nat) : Int) := by
  have h := times_ev b a b 0 rfl ha hb (by decide)
  rw [Nat.zero_add] at h
  exact h
theorem Mix (x : Nat) (h : x < 18446744073709551616) : Ev (fun k => larderref1_Mix.f k x) ((mixN x : Nat) : Int) := by
  have hx : ∀ a s : Nat, a < 18446744073709551616 → Go.bits .xor .u64 (a : Int) ((a : Int) / (s : Int)) = ((xs s a : Nat) : Int) := fun a s ha => xorShift_u64 a s ha
  refine Ev.congr (fun k => by unfold larderref1_Mix.f; rw [show (4294967296 : Int) = ((4294967296 : Nat) : Int) from rfl, hx _ _ h]) ?_
  refine Ev.bind (times _ 15466983567672013453 (xs_lt _ _ h) (by decide)) ?_
  refine Ev.congr (fun k => by rw [show (536870912 : Int) = ((536870912 : Nat) : Int) from rfl, hx _ _ (ml_lt _ _)]) ?_
  refine Ev.bind (times _ 12920666929402377605 (xs_lt _ _ (ml_lt _ _)) (by decide)) ?_
  exact Ev.congr (fun k => by rw [hx _ _ (ml_lt _ _)]; rfl) (Ev.now _)
theorem hash_ev (w : List Int) (hw : inW w) (hn : w.length < 9223372036854775808) (d : Nat) : ∀ (i : Nat) (h : Nat), h < 18446744073709551616 → i + d = w.length → Ev (fun k => larderref1_Hash.l0 k (h : Int) w i) ((hfold h (w.drop i) : Nat) : Int) := by
  induction d with
  | zero =>
    intro i h hh hi
    obtain rfl : i = w.length := by omega
    refine Ev.step (f := fun _ => some (h : Int)) (fun k => by simp only [larderref1_Hash.l0]; rw [if_neg (by omega)]) ?_
    rw [List.drop_length]
    exact Ev.now _
  | succ d ih =>
    intro i h hh hi
    have hi' : i < w.length := by omega
    have hx := hw _ (List.getElem_mem hi')
    have h3 : wrap64 ((i : Int) + 1) = ((i + 1 : Nat) : Int) := by unfold wrap64; omega
    have hd : i + 1 + d = w.length := by omega
    have hxor : Go.bits .xor .u64 (h : Int) (rd w (i : Int)) = ((h ^^^ w[i].toNat : Nat) : Int) := by
      rw [rd_get hi', ← bits_xor_u64_nat h _ hh (by omega)]
      congr 1; omega
    rw [List.drop_eq_getElem_cons hi']
    refine Ev.step (fun k => by simp only [larderref1_Hash.l0]; rw [if_pos (by omega), if_pos (by omega), hxor, h3]) ?_
    refine Ev.bind (Mix _ (xw_lt hh hx)) ?_
    exact ih (i + 1) (mixN (h ^^^ w[i].toNat)) (mix_lt _) hd
theorem Hash (seed : Nat) (l : List Int) (hl : inB l) (hn : l.length ≤ 140737488351232) : Ev (fun k => larderref1_Hash.f k (seed : Int) l) ((HashS.hash seed l : Nat) : Int) := by
  have e : IntKind.u64.wrap ((seed : Int) + IntKind.u64.wrap (l.length : Int)) = (((seed + l.length) % 18446744073709551616 : Nat) : Int) := by
    rw [IntKind.wrap_u64, IntKind.wrap_u64]; omega
  refine Ev.congr (fun k => by unfold larderref1_Hash.f; rw [e]) ?_
  refine Ev.bind (Mix _ (Nat.mod_lt _ (by decide))) ?_
  refine Ev.bind (Pack l hl hn) ?_
  have := hash_ev (pack l) (pack_in hl) (by rw [pack_len]; omega) (pack l).length 0 (mixN ((seed + l.length) % 18446744073709551616)) (mix_lt _) (by omega)
  simpa [HashS.hash] using this

/-! ### Sum -/
theorem top_true : CrcM.top true = 2 ^ 63 := rfl
theorem P_cast : (4823603603198064275 : Int) = ((CrcM.P : Nat) : Int) := by unfold CrcM.P; rfl

open Go.Proofs.Ytgngpbcbnfmoiaa.CrcM Go.Proofs.Ytgngpbcbnfmoiaa.CrcB in
theorem T_top (r : Nat) (b : Bool) : T (r ^^^ top b) = if (r.testBit 63 ^^ b) then (r * 2 % 18446744073709551616) ^^^ P else r * 2 % 18446744073709551616 := by
  have h1 : (r ^^^ top b) * 2 % 18446744073709551616 = r * 2 % 18446744073709551616 := by
    apply Nat.eq_of_testBit_eq
    intro i
    rw [dbl_testBit, dbl_testBit, Nat.testBit_xor]
    have ht : ∀ j, j < 63 → (top b).testBit j = false := by
      intro j hj
      cases b
      · simp [top]
      · rw [top_true, Nat.testBit_two_pow]; simp; omega
    by_cases h1 : i < 64
    · by_cases h2 : 1 ≤ i
      · rw [ht (i - 1) (by omega)]; simp
      · simp [h2]
    · simp [h1]
  have h2 : (r ^^^ top b).testBit 63 = (r.testBit 63 ^^ b) := by
    rw [Nat.testBit_xor]
    cases b
    · simp [top]
    · rw [top_true, Nat.testBit_two_pow]; simp
  unfold T
  rw [h1, h2]
  split <;> simp
open Go.Proofs.Ytgngpbcbnfmoiaa.CrcM Go.Proofs.Ytgngpbcbnfmoiaa.CrcB in
theorem sum_inner (l : List Int) (at_ : Int) (c : Nat) (hc : c < 256) (R : Int) (d : Nat) :
    ∀ (t r : Nat), t + d = 8 → r < 18446744073709551616 → Ev (fun k => larderref1_Sum.l0 k l ((F r ((byteBits c).drop t) : Nat) : Int) (wrap64 (at_ + 1))) R → Ev (fun k => larderref1_Sum.l1 k l (r : Int) at_ ((c * 2 ^ t : Nat) : Int) t) R := by
  induction d with
  | zero =>
    intro t r ht hr h
    obtain rfl : t = 8 := by omega
    refine Ev.step (fun k => by simp only [larderref1_Sum.l1]; rw [if_neg (by decide)]) ?_
    have e : (byteBits c).drop 8 = [] := List.drop_of_length_le (by simp [byteBits])
    rw [e, F_nil] at h
    exact h
  | succ d ih =>
    intro t r ht hr h
    have ht8 : (t : Int) < 8 := by omega
    have ht1 : t + 1 + d = 8 := by omega
    have e4 : wrap64 ((t : Int) + 1) = ((t + 1 : Nat) : Int) := by unfold wrap64; omega
    have e2 : IntKind.u64.wrap ((r : Int) * 2) = ((r * 2 % 18446744073709551616 : Nat) : Int) := by rw [IntKind.wrap_u64]; omega
    have hbl : t < (byteBits c).length := by simp [byteBits]; omega
    have hbit : (byteBits c)[t] = c.testBit (7 - t) := by simp [byteBits]
    rw [List.drop_eq_getElem_cons hbl, F_cons, hbit, T_top r] at h
    have hp : c * 2 ^ t < 32768 := by
      have : ∀ t : Fin 8, 256 * 2 ^ t.1 ≤ 32768 := by decide
      have h1 := this ⟨t, by omega⟩
      have h2 : c * 2 ^ t < 256 * 2 ^ t := Nat.mul_lt_mul_of_pos_right hc (Nat.two_pow_pos t)
      simp only at h1
      omega
    have hb : Go.bits .and .u64 (((c * 2 ^ t : Nat) : Int) / 128) 1 = (((c.testBit (7 - t)).toNat : Nat) : Int) := by
      have e : c * 2 ^ t / 128 = c / 2 ^ (7 - t) := by
        have : (128 : Nat) = 2 ^ t * 2 ^ (7 - t) := by rw [← Nat.pow_add, show t + (7 - t) = 7 from by omega]
        rw [this, ← Nat.div_div_eq_div_mul, Nat.mul_div_cancel _ (Nat.two_pow_pos t)]
      have hq : c / 2 ^ (7 - t) < 18446744073709551616 := Nat.lt_of_le_of_lt (Nat.div_le_self _ _) (by omega)
      rw [show ((c * 2 ^ t : Nat) : Int) / 128 = ((c / 2 ^ (7 - t) : Nat) : Int) from by rw [← e]; simp, Nat.testBit_eq_decide_div_mod_eq]
      generalize c / 2 ^ (7 - t) = q at hq ⊢
      rw [show (1 : Int) = 2 ^ 1 - 1 from rfl, and_u64 1 (by decide) _ (by omega) (by omega)]
      rcases Nat.mod_two_eq_zero_or_one q with h0 | h0
      · simp [h0]; omega
      · simp [h0]; omega
    have hr63 : (r : Int) / 9223372036854775808 = (((r.testBit 63).toNat : Nat) : Int) := by
      rw [Nat.testBit_eq_decide_div_mod_eq]
      have : r / 2 ^ 63 < 2 := by rw [Nat.div_lt_iff_lt_mul (by decide)]; exact hr
      rw [show (r : Int) / 9223372036854775808 = ((r / 2 ^ 63 : Nat) : Int) from by simp]
      generalize r / 2 ^ 63 = q at this ⊢
      have : q = 0 ∨ q = 1 := by omega
      rcases this with rfl | rfl <;> rfl
    have hx : Go.bits .xor .u64 (((r.testBit 63).toNat : Nat) : Int) (((c.testBit (7 - t)).toNat : Nat) : Int) = (((r.testBit 63 ^^ c.testBit (7 - t)).toNat : Nat) : Int) := by
      cases r.testBit 63 <;> cases c.testBit (7 - t) <;> rfl
    have e3 : IntKind.u64.wrap (((c * 2 ^ t : Nat) : Int) * 2) = ((c * 2 ^ (t + 1) : Nat) : Int) := by
      rw [IntKind.wrap_u64, Nat.pow_succ, ← Nat.mul_assoc]; omega
    have hm : r * 2 % 18446744073709551616 < 18446744073709551616 := Nat.mod_lt _ (by decide)
    by_cases hb1 : (r.testBit 63 ^^ c.testBit (7 - t)) = true
    · rw [if_pos hb1] at h
      have hxl : (r * 2 % 18446744073709551616) ^^^ P < 18446744073709551616 := Nat.xor_lt_two_pow (n := 64) hm P_lt
      refine Ev.step (f := fun k => larderref1_Sum.l1 k l (((r * 2 % 18446744073709551616) ^^^ P : Nat) : Int) at_ ((c * 2 ^ (t + 1) : Nat) : Int) ((t + 1 : Nat) : Int)) (fun k => ?_) (ih (t + 1) _ ht1 hxl h)
      simp only [larderref1_Sum.l1]
      rw [if_pos ht8, hb, hr63, hx, if_pos (by rw [hb1]; rfl), e2, e3, e4]
      rw [P_cast, bits_xor_u64_nat _ _ hm P_lt]
    · rw [if_neg hb1] at h
      refine Ev.step (f := fun k => larderref1_Sum.l1 k l ((r * 2 % 18446744073709551616 : Nat) : Int) at_ ((c * 2 ^ (t + 1) : Nat) : Int) ((t + 1 : Nat) : Int)) (fun k => ?_) (ih (t + 1) _ ht1 hm h)
      simp only [larderref1_Sum.l1]
      rw [if_pos ht8, hb, hr63, hx, if_neg (by rw [Bool.eq_false_iff.2 hb1]; decide), e2, e3, e4]
open Go.Proofs.Ytgngpbcbnfmoiaa.CrcM Go.Proofs.Ytgngpbcbnfmoiaa.CrcB in
theorem sum_outer (l : List Int) (hl : WordS.inB l) (hn : l.length < 9223372036854775807) (d : Nat) : ∀ (i r : Nat), i + d = l.length → r < 18446744073709551616 → Ev (fun k => larderref1_Sum.l0 k l (r : Int) i) (((l.drop i).foldl (fun r c => crcB r c.toNat) r : Nat) : Int) := by
  induction d with
  | zero =>
    intro i r hi hr
    obtain rfl : i = l.length := by omega
    refine Ev.step (f := fun _ => some (r : Int)) (fun k => by simp only [larderref1_Sum.l0]; rw [if_neg (by omega)]) ?_
    rw [List.drop_length]
    exact Ev.now _
  | succ d ih =>
    intro i r hi hr
    have hi' : i < l.length := by omega
    have hb := hl _ (List.getElem_mem hi')
    have hw : wrap64 ((i : Int) + 1) = ((i + 1 : Nat) : Int) := by unfold wrap64; omega
    have e : IntKind.u64.wrap (rd l (i : Int)) = ((l[i].toNat * 2 ^ 0 : Nat) : Int) := by rw [rd_get hi', IntKind.wrap_u64]; omega
    rw [List.drop_eq_getElem_cons hi', List.foldl_cons]
    refine Ev.step (fun k => by simp only [larderref1_Sum.l0]; rw [if_pos (by omega), if_pos (by omega), e]) ?_
    refine sum_inner l (i : Int) l[i].toNat (by omega) _ 8 0 r rfl hr ?_
    rw [List.drop_zero, ← crcB_eq r _ hr (by omega), hw]
    exact ih (i + 1) _ (by omega) (crcB_lt _ _)
theorem Sum (l : List Int) (hl : inB l) (hn : l.length < 9223372036854775807) : Ev (fun k => larderref1_Sum.f k l) ((crc l : Nat) : Int) := sum_outer l hl hn l.length 0 18446744073709551615 (Nat.zero_add _) (by decide)

/-! ### Digits -/
theorem Digits (n : Nat) : n < 18446744073709551616 → Ev (fun k => larderref1_Digits.f k n) (digitsL n) := by
  induction n using Nat.strongRecOn with
  | _ n ih =>
    intro hn
    by_cases h : n < 10
    · rw [digitsL_small h]
      refine Ev.step (f := fun _ => some [((48 + n : Nat) : Int)]) (fun k => ?_) (Ev.now _)
      simp only [larderref1_Digits.f]
      rw [if_pos (by omega), show (IntKind.u64.wrap (48 + (n : Int))) % 256 = ((48 + n : Nat) : Int) from by rw [IntKind.wrap_u64]; omega]
    · rw [digitsL_great h]
      have e1 : IntKind.u64.wrap (Int.tdiv (n : Int) 10) = ((n / 10 : Nat) : Int) := by rw [Int.tdiv_eq_ediv_of_nonneg (by omega), IntKind.wrap_u64]; omega
      have e2 : (IntKind.u64.wrap (48 + Int.tmod (n : Int) 10)) % 256 = ((48 + n % 10 : Nat) : Int) := by rw [Int.tmod_eq_emod_of_nonneg (by omega), IntKind.wrap_u64]; omega
      refine Ev.step (fun k => by simp only [larderref1_Digits.f]; rw [if_neg (by omega), e1, e2]) ?_
      refine Ev.bind (ih (n / 10) (by omega) (by omega)) ?_
      have hl := digitsL_len 20 (n / 10) (by omega) (by decide)
      exact Ev.congr (fun k => by rw [if_pos (by omega)]) (Ev.now _)

end Go.Proofs.Ytgngpbcbnfmoiaa.RefS
