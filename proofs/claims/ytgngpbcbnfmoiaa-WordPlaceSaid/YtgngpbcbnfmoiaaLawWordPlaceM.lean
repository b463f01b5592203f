-- JOINED by tailmerge.py: PlaceP LawWordPlace
import Derived.Test.YtgngpbcbnfmoiaaPPx
import Derived.Test.YtgngpbcbnfmoiaaRefT
import Derived.Test.YtgngpbcbnfmoiaaRefS
import Derived.Test.YtgngpbcbnfmoiaaArgsW
import Derived.Laws.BitsAllLaws
import Derived.Test.YtgngpbcbnfmoiaaRows
import Derived.WalkKit
import Derived.ProofKit
import Derived.OpenShut
import Derived.ShutString
import Derived.ChangeOld
import Derived.Below
import Derived.SizedLaws

section
/- WordPlace: true at every script; the machine's call answers it. -/
namespace Go.Proofs.Ytgngpbcbnfmoiaa.PlaceP
open Go Go.RowKit Go.Proofs.YtgngpbcbnfmoiaaW.PrintWords Go.Proofs.YtgngpbcbnfmoiaaW.PrintLast Go.Proofs.YtgngpbcbnfmoiaaW.PrintMore Go.Proofs.Ytgngpbcbnfmoiaa.PA Go.Proofs.Ytgngpbcbnfmoiaa.PD Go.Proofs.Ytgngpbcbnfmoiaa.PP Go.Proofs.Ytgngpbcbnfmoiaa.WordS Go.Proofs.Ytgngpbcbnfmoiaa.NumS Go.Proofs.Ytgngpbcbnfmoiaa.ArgsW Go.Proofs.Ytgngpbcbnfmoiaa.Open
set_option linter.unusedVariables false

theorem pack_bound (l : List Int) (h : l.length ≤ 140737488351232) : (pack l).length < 9223372036854775807 := by rw [pack_len]; omega
theorem unpack_both (w : List Int) (hw : inW w) (hl : w.length ≤ 17592186043904) (n : Int) (hn : -9223372036854775808 ≤ n ∧ n < 9223372036854775808) :
    ∃ (r1 : List Int) (r2 : Int), Ev (fun k => word_Unpack.f k w n) (r1, r2) ∧ Ev (fun k => larderref1_Unpack.f k w n) (r1, r2) := by
  by_cases c : n < 0 ∨ 8 * (w.length : Int) < n
  · exact ⟨_, _, Unpack_bad w n hn c, RefS.Unpack_bad w n hn c⟩
  · obtain ⟨m, rfl⟩ := Int.eq_ofNat_of_zero_le (show 0 ≤ n by omega)
    exact ⟨_, _, Unpack_ok w m (by omega) (by omega), RefS.Unpack_ok w hw m (by omega) (by omega) (by omega)⟩
theorem lend_some (l : List Int) (hl : l.length + 3 < 140737488355328) : larderlaw1_Lend.f l = some l := by
  unfold larderlaw1_Lend.f
  rw [if_pos (by simp only [List.length_nil]; omega), Option.bind_some, Option.bind_some, if_pos (by simp only [List.length_append, List.length_nil, List.length_cons]; omega), Option.bind_some, if_pos (by omega), if_pos (by simp only [List.length_append, List.length_nil, List.length_cons]; omega)]
  simp
theorem lendW_some (l : List Int) (hl : l.length + 3 < 17592186044416) : larderlaw1_LendWords.f l = some l := by
  unfold larderlaw1_LendWords.f
  rw [if_pos (by simp only [List.length_nil]; omega), Option.bind_some, Option.bind_some, if_pos (by simp only [List.length_append, List.length_nil, List.length_cons]; omega), Option.bind_some, if_pos (by omega), if_pos (by simp only [List.length_append, List.length_nil, List.length_cons]; omega)]
  simp

theorem set_mid (X L : List Int) (i : Nat) (hX : i < X.length) (hL : L.length = X.length) : (X.take i ++ L.drop i).set i (rd X i) = X.take (i + 1) ++ L.drop (i + 1) := by
  have hr : rd X i = X[i] := by unfold rd; rw [Int.toNat_natCast, List.getD_eq_getElem?_getD, List.getElem?_eq_getElem hX]; rfl
  rw [hr, List.take_succ_eq_append_getElem hX, List.set_append_right _ _ (by rw [List.length_take]; omega), List.length_take, Nat.min_eq_left (by omega), Nat.sub_self, List.drop_eq_getElem_cons (show i < L.length by omega), List.set_cons_zero, List.append_assoc]
  rfl
theorem mid_len (X L : List Int) (i : Nat) (hX : i ≤ X.length) (hL : L.length = X.length) : (X.take i ++ L.drop i).length = X.length := by
  rw [List.length_append, List.length_take, List.length_drop]; omega

theorem into_ev (X L : List Int) (hL : L.length = X.length) (hn : X.length < 9223372036854775807) (d : Nat) : ∀ i : Nat, i + d = X.length → Ev (fun k => larderlaw1_Into.l0 k (X.take i ++ L.drop i) X i) X := by
  induction d with
  | zero =>
    intro i hi
    refine Ev.step (f := fun _ => some X) (fun k => ?_) (Ev.now _)
    simp only [larderlaw1_Into.l0, mid_len X L i (by omega) hL]
    rw [if_neg (by omega), List.take_of_length_le (by omega), List.drop_of_length_le (by omega), List.append_nil]
  | succ d ih =>
    intro i hi
    have hw : wrap64 ((i : Int) + 1) = ((i + 1 : Nat) : Int) := by unfold wrap64; omega
    refine Ev.step (fun k => ?_) (ih (i + 1) (by omega))
    simp only [larderlaw1_Into.l0, mid_len X L i (by omega) hL]
    rw [if_pos (by omega), if_pos (by omega), if_pos (by omega), hw, Int.toNat_natCast, set_mid X L i (by omega) hL]
theorem Into (L X : List Int) (hL : L.length = X.length) (hn : X.length < 9223372036854775807) : Ev (fun k => larderlaw1_Into.f k L X) X := by
  have := into_ev X L hL hn X.length 0 (by omega)
  rw [List.take_zero, List.drop_zero, List.nil_append] at this
  exact this

theorem xor8 (x : Int) (h : 0 ≤ x ∧ x < 256) : 0 ≤ Go.bits .xor .u8 x 1 ∧ Go.bits .xor .u8 x 1 < 256 := by
  rw [u8_xor x 1 h.1 h.2 (by decide) (by decide)]
  have := Nat.xor_lt_two_pow (n := 8) (show x.toNat < 2 ^ 8 by omega) (show (1 : Int).toNat < 2 ^ 8 by decide)
  omega
theorem xor64 (x : Int) (h : 0 ≤ x ∧ x < 18446744073709551616) : 0 ≤ Go.bits .xor .u64 18446744073709551615 x ∧ Go.bits .xor .u64 18446744073709551615 x < 18446744073709551616 := by
  rw [u64_xor 18446744073709551615 x (by decide) (by decide) h.1 h.2]
  have := Nat.xor_lt_two_pow (n := 64) (show (18446744073709551615 : Int).toNat < 2 ^ 64 by decide) (show x.toNat < 2 ^ 64 by omega)
  omega
theorem in_set {P : Int → Prop} {l : List Int} (h : ∀ c ∈ l, P c) (i : Nat) (x : Int) (hx : P x) : ∀ c ∈ l.set i x, P c := fun c hc => by
  rcases List.mem_or_eq_of_mem_set hc with h1 | h1
  · exact h c h1
  · exact h1 ▸ hx
theorem rd_mem {l : List Int} (i : Nat) (h : i < l.length) : rd l i ∈ l := by
  have hr : rd l i = l[i] := by unfold rd; rw [Int.toNat_natCast, List.getD_eq_getElem?_getD, List.getElem?_eq_getElem h]; rfl
  rw [hr]; exact List.getElem_mem h
theorem other_loop (l : List Int) (hl : inB l) (hn : l.length ≤ 140737488351232) (m : Nat) : ∀ acc : List Int, acc.length + m = l.length → inB acc →
    ∃ o, o.length = l.length ∧ inB o ∧ Ev (fun k => larderlaw1_Other.l0 k l acc ((m : Int) - 1)) o := by
  induction m with
  | zero =>
    intro acc ha hin
    have hz : wrap64 ((acc.length : Int) - 1) = (acc.length : Int) - 1 := by unfold wrap64; omega
    by_cases h0 : (l.length : Int) > 0
    · by_cases he : (strOfNums acc).toList = (strOfNums l).toList
      · have hi : rd acc ((acc.length : Int) - 1) ∈ acc := by
          have := rd_mem (l := acc) (acc.length - 1) (by omega)
          rwa [show ((acc.length - 1 : Nat) : Int) = (acc.length : Int) - 1 from by omega] at this
        refine ⟨acc.set ((acc.length : Int) - 1).toNat (Go.bits .xor .u8 (rd acc ((acc.length : Int) - 1)) 1), by rw [List.length_set]; omega, in_set (P := fun c => 0 ≤ c ∧ c < 256) hin _ _ (xor8 _ (hin _ hi)), ?_⟩
        refine Ev.step (f := fun _ => some (acc.set ((acc.length : Int) - 1).toNat (Go.bits .xor .u8 (rd acc ((acc.length : Int) - 1)) 1))) (fun k => ?_) (Ev.now _)
        simp only [larderlaw1_Other.l0]
        rw [if_neg (by omega), if_pos h0, if_pos he, hz, if_pos (by omega), if_pos (by omega)]
      · refine ⟨acc, by omega, hin, Ev.step (f := fun _ => some acc) (fun k => ?_) (Ev.now _)⟩
        simp only [larderlaw1_Other.l0]
        rw [if_neg (by omega), if_pos h0, if_neg he]
    · refine ⟨acc, by omega, hin, Ev.step (f := fun _ => some acc) (fun k => ?_) (Ev.now _)⟩
      simp only [larderlaw1_Other.l0]
      rw [if_neg (by omega), if_neg h0]
  | succ m ih =>
    intro acc ha hin
    have hm := rd_mem (l := l) m (by omega)
    obtain ⟨o, h1, h2, h3⟩ := ih (acc ++ [rd l m]) (by simp; omega) (fun c hc => by
      rcases List.mem_append.1 hc with h | h
      · exact hin c h
      · rw [List.mem_singleton.1 h]; exact hl _ hm)
    refine ⟨o, h1, h2, Ev.step (fun k => ?_) h3⟩
    have e : (((m + 1 : Nat) : Int) - 1) = (m : Int) := by omega
    have hw : wrap64 ((m : Int) - 1) = (m : Int) - 1 := by unfold wrap64; omega
    rw [e]
    simp only [larderlaw1_Other.l0]
    rw [if_pos (by omega), if_pos (by omega), if_pos (by omega), if_pos (by omega), hw]
theorem Other (l : List Int) (hl : inB l) (hn : l.length ≤ 140737488351232) : ∃ o, o.length = l.length ∧ inB o ∧ Ev (fun k => larderlaw1_Other.f k l) o := by
  obtain ⟨o, h1, h2, h3⟩ := other_loop l hl hn l.length [] (by simp) (fun c hc => by cases hc)
  refine ⟨o, h1, h2, Ev.congr (fun k => ?_) h3⟩
  unfold larderlaw1_Other.f
  rw [show wrap64 ((l.length : Int) - 1) = (l.length : Int) - 1 from by unfold wrap64; omega]

theorem same_some (l : List Int) : larderlaw1_sameBytes.f l l = some true := by
  unfold larderlaw1_sameBytes.f; simp
theorem num_some (x : Int) : larderlaw1_num.f x = some x := rfl

theorem places (a0 a1 a2 a3 a4 a5 a6 : Int) (l7 l8 b : List Int) (h6 : 0 ≤ a6 ∧ a6 < 18446744073709551616) (hb : inB b) (hn : b.length ≤ 140737488351232) :
    Ev (fun k => larderlaw1_places.f k a0 a1 a2 a3 a4 a5 a6 l7 l8 b b) true := by
  obtain ⟨s, rfl⟩ := Int.eq_ofNat_of_zero_le h6.1
  by_cases c4 : a0 = 4
  · have h := Ev.bind (Pack b hb (by omega)) (f := fun k t => (larderref1_Pack.f k b).bind fun t111 => ((larderlaw1_sameWords.f k t t111).bind fun t114 => some t114)) (Ev.bind (RefS.Pack b hb hn) (Ev.bind (RefS.sameWords (pack b) (pack_bound b hn)) (Ev.now true)))
    exact Ev.congr (fun k => by unfold larderlaw1_places.f; rw [if_pos c4]) h
  · by_cases c6 : a0 = 6
    · have h := Ev.bind (RefT.Int_ev b hb (by omega)) (f := fun k bt117 => (if (intS b).1 = bt117.1 then ((larderlaw1_num.f (intS b).2).bind fun t119 => (some (t119 == bt117.2))) else (some false))) (r := true) (Ev.congr (fun k => by rw [if_pos rfl, num_some, Option.bind_some]; simp) (Ev.now true))
      exact Ev.congr (fun k => by unfold larderlaw1_places.f; rw [if_neg c4, if_pos c6, show PB.word_Int.f b = some (intS b) from rfl, Option.bind_some]) h
    · by_cases c9 : a0 = 9
      · have h := Ev.bind (RefT.Uint_ev b hb (by omega)) (f := fun k bt117 => (if (uintS b).1 = bt117.1 then ((larderlaw1_num.f (uintS b).2).bind fun t119 => (some (t119 == bt117.2))) else (some false))) (r := true) (Ev.congr (fun k => by rw [if_pos rfl, num_some, Option.bind_some]; simp) (Ev.now true))
        exact Ev.congr (fun k => by unfold larderlaw1_places.f; rw [if_neg c4, if_neg c6, if_pos c9, show PB.word_Uint.f b = some (uintS b) from rfl, Option.bind_some]) h
      · by_cases c11 : a0 = 11
        · have h := Ev.bind (HashS.Hash s b hb (by omega)) (f := fun k t => (larderref1_Hash.f k (s : Int) b).bind fun t126 => some (t == t126)) (Ev.bind (RefS.Hash s b hb hn) (r := true) (Ev.congr (fun k => by simp) (Ev.now true)))
          exact Ev.congr (fun k => by unfold larderlaw1_places.f; rw [if_neg c4, if_neg c6, if_neg c9, if_pos c11]) h
        · by_cases c12 : a0 = 12
          · have h := Ev.bind (RefS.Sum b hb (by omega)) (f := fun k t => some (((crc b : Nat) : Int) == t)) (r := true) (Ev.congr (fun k => by simp) (Ev.now true))
            exact Ev.congr (fun k => by unfold larderlaw1_places.f; rw [if_neg c4, if_neg c6, if_neg c9, if_neg c11, if_pos c12, show word_Sum.f b = some _ from if_pos hb, Option.bind_some]) h
          · exact Ev.congr (fun k => by unfold larderlaw1_places.f; rw [if_neg c4, if_neg c6, if_neg c9, if_neg c11, if_neg c12]) (Ev.now true)

/-! ### unpacks -/
section
variable (a0 a1 a2 a3 a4 a5 a6 : Int) (l7 l8 : List Int)
theorem copy_ev (X : List Int) (R : Bool) (j : Int) (hn : X.length < 9223372036854775807) (L : List Int) (hL : L.length = X.length)
    (hend : ∀ i : Nat, i = X.length → Ev (fun k => larderlaw1_unpacks.l2 k X j X i a0 a1 a2 a3 a4 a5 a6 l7 l8) R) (d : Nat) : ∀ i : Nat, i + d = X.length →
    Ev (fun k => larderlaw1_unpacks.l2 k (X.take i ++ L.drop i) j X i a0 a1 a2 a3 a4 a5 a6 l7 l8) R := by
  induction d with
  | zero =>
    intro i hi
    rw [List.take_of_length_le (by omega), List.drop_of_length_le (by omega), List.append_nil]
    exact hend i (by omega)
  | succ d ih =>
    intro i hi
    have hw : wrap64 ((i : Int) + 1) = ((i + 1 : Nat) : Int) := by unfold wrap64; omega
    refine Ev.step (fun k => ?_) (ih (i + 1) (by omega))
    simp only [larderlaw1_unpacks.l2, mid_len X L i (by omega) hL]
    rw [if_pos (by omega), if_pos (by omega), if_pos (by omega), hw, Int.toNat_natCast, set_mid X L i (by omega) hL]

theorem flip_ev (n : Nat) (L : List Int) (R : Bool) (j : Int) (hn : n < 9223372036854775807)
    (hend : ∀ X, inW X → X.length = n → Ev (fun k => larderlaw1_unpacks.j2 k L j X a0 a1 a2 a3 a4 a5 a6 l7 l8) R) (d : Nat) : ∀ (i : Nat) (X : List Int), inW X → X.length = n → i + d = n →
    Ev (fun k => larderlaw1_unpacks.l1 k L j X i a0 a1 a2 a3 a4 a5 a6 l7 l8) R := by
  induction d with
  | zero =>
    intro i X hX hl hi
    refine Ev.step (fun k => ?_) (hend X hX hl)
    simp only [larderlaw1_unpacks.l1]
    rw [if_neg (by omega)]
  | succ d ih =>
    intro i X hX hl hi
    have hw : wrap64 ((i : Int) + 1) = ((i + 1 : Nat) : Int) := by unfold wrap64; omega
    by_cases hj : j = 1
    · refine Ev.step (fun k => ?_) (ih (i + 1) (X.set i (Go.bits .xor .u64 18446744073709551615 (rd X i))) (in_set (P := fun c => 0 ≤ c ∧ c < 18446744073709551616) hX _ _ (xor64 _ (hX _ (rd_mem i (by omega))))) (by rw [List.length_set]; exact hl) (by omega))
      simp only [larderlaw1_unpacks.l1]
      rw [if_pos (by omega), if_pos hj, if_pos (by omega), hw, Int.toNat_natCast]
    · refine Ev.step (fun k => ?_) (hend X hX hl)
      simp only [larderlaw1_unpacks.l1]
      rw [if_pos (by omega), if_neg hj]

theorem unpacks_loop (h1 : -9223372036854775808 ≤ a1 ∧ a1 < 9223372036854775808) (hW : inW l8) (hl : l8.length ≤ 17592186043904) (d : Nat) : ∀ (j : Nat) (L : List Int), j + d = 3 → L.length = l8.length →
    Ev (fun k => larderlaw1_unpacks.l0 k L j a0 a1 a2 a3 a4 a5 a6 l7 l8) true := by
  induction d with
  | zero =>
    intro j L hj hL
    refine Ev.step (f := fun _ => some true) (fun k => ?_) (Ev.now _)
    simp only [larderlaw1_unpacks.l0]
    rw [if_neg (by omega)]
  | succ d ih =>
    intro j L hj hL
    have hw : wrap64 ((j : Int) + 1) = ((j + 1 : Nat) : Int) := by unfold wrap64; omega
    refine Ev.step (f := fun k => larderlaw1_unpacks.l1 k L j l8 0 a0 a1 a2 a3 a4 a5 a6 l7 l8) (fun k => ?_) (flip_ev a0 a1 a2 a3 a4 a5 a6 l7 l8 l8.length L true j (by omega) (fun X hX hXl => ?_) l8.length 0 l8 hW rfl (by omega))
    · simp only [larderlaw1_unpacks.l0]
      rw [if_pos (by omega), lendW_some l8 (by omega), Option.bind_some]
    · refine Ev.step (f := fun k => larderlaw1_unpacks.l2 k L j X 0 a0 a1 a2 a3 a4 a5 a6 l7 l8) (fun k => by simp only [larderlaw1_unpacks.j2]) ?_
      have hc := copy_ev a0 a1 a2 a3 a4 a5 a6 l7 l8 X true j (by omega) L (by omega) (fun i hi => ?_) X.length 0 (by omega)
      · rw [List.take_zero, List.drop_zero, List.nil_append] at hc
        exact hc
      · obtain ⟨r1, r2, hu1, hu2⟩ := unpack_both X hX (by omega) a1 h1
        refine Ev.step (f := fun k => ((word_Unpack.f k X a1).bind fun bt142 => ((larderref1_Unpack.f k X a1).bind fun bt146 => ((larderlaw1_sameBytes.f bt142.1 bt146.1).bind fun t150 => (if t150 = true then ((larderlaw1_num.f bt142.2).bind fun t151 => (if t151 = bt146.2 then (larderlaw1_unpacks.l0 k X (wrap64 ((j : Int) + 1)) a0 a1 a2 a3 a4 a5 a6 l7 l8) else (some false))) else (some false)))))) (fun k => ?_)
          (Ev.bind hu1 (Ev.bind hu2 (Ev.congr (fun k => ?_) (ih (j + 1) X (by omega) (by omega)))))
        · simp only [larderlaw1_unpacks.l2]
          rw [if_neg (by omega)]
        · rw [same_some, Option.bind_some, if_pos rfl, num_some, Option.bind_some, if_pos rfl, hw]
theorem unpacks (h1 : -9223372036854775808 ≤ a1 ∧ a1 < 9223372036854775808) (hW : inW l8) (hl : l8.length ≤ 17592186043904) : Ev (fun k => larderlaw1_unpacks.f k a0 a1 a2 a3 a4 a5 a6 l7 l8) true :=
  Ev.congr (fun k => by unfold larderlaw1_unpacks.f; rw [lendW_some l8 (by omega), Option.bind_some]; rfl) (unpacks_loop a0 a1 a2 a3 a4 a5 a6 l7 l8 h1 hW hl 3 0 l8 rfl rfl)
end

/-! ### the law -/
def good (y : S71) : Prop := gI y.f1 ∧ gU y.f6 ∧ gBytes y.f7 ∧ gWords y.f8
theorem o_op : Opens Try.prog 71 k71 good :=
  fun F => (at_iso (fun x : S71 => (x.f0, x.f1, x.f2, x.f3, x.f4, x.f5, x.f6, x.f7, x.f8)) (fun t => ⟨t.1, t.2.1, t.2.2.1, t.2.2.2.1, t.2.2.2.2.1, t.2.2.2.2.2.1, t.2.2.2.2.2.2.1, t.2.2.2.2.2.2.2.1, t.2.2.2.2.2.2.2.2⟩) (fun _ => rfl)
    ((opens_struct Try.underlying71 rfl (by kernel_rfl) (fields2 rfl o_int (fields2 rfl o_int (fields2 rfl o_int (fields2 rfl o_int (fields2 rfl o_i64 (fields2 rfl o_i64 (fields2 rfl o_u64 (fields2 rfl o_bytes (fields1 rfl o_words))))))))) F))).good_imp
    (fun _ h => ⟨h.2.1, h.2.2.2.2.2.2.1, h.2.2.2.2.2.2.2.1, h.2.2.2.2.2.2.2.2⟩)
theorem o_ops : Opens Try.prog 49 (Kd.slice 71 k71) (GoodL 104 good) :=
  opens_slice Try.underlying49 (by kernel_rfl) (by kernel_rfl) o_op


theorem gW_in {l : List Int} (h : gWords l) : inW l := fun c hc => wf_u64 (h.2 c hc)
theorem gW_len {l : List Int} (h : gWords l) : l.length ≤ 17592186043904 := by have := h.1; omega

theorem loop (l : List S71) (hn : l.length < 9223372036854775807) (hg : ∀ y ∈ l, good y) (d : Nat) : ∀ i : Nat, i + d = l.length → Ev (fun k => larderlaw1_WordPlace.l0 k l i) true := by
  have fin : ∀ i : Nat, Ev (fun k => larderlaw1_WordPlace.j1 k l i false) true := fun i =>
    Ev.step (f := fun _ => some true) (fun k => by simp only [larderlaw1_WordPlace.j1]; rw [if_neg (by simp)]) (Ev.now _)
  induction d with
  | zero =>
    intro i hi
    refine Ev.step (fun k => ?_) (fin i)
    simp only [larderlaw1_WordPlace.l0]
    rw [if_neg (by omega)]
  | succ d ih =>
    intro i hi
    have hlt : i < l.length := by omega
    have hw : wrap64 ((i : Int) + 1) = ((i + 1 : Nat) : Int) := by unfold wrap64; omega
    have hrd : rd_T71 l (i : Int) = l[i] := by unfold rd_T71; rw [Int.toNat_natCast, List.getD_eq_getElem?_getD, List.getElem?_eq_getElem hlt]; rfl
    by_cases h400 : (i : Int) < 400
    · obtain ⟨g1, g6, g7, g8⟩ := hg _ (List.getElem_mem hlt)
      have rest := ih (i + 1) (by omega)
      generalize l[i] = y at hrd g1 g6 g7 g8
      obtain ⟨o, ol, oin, oev⟩ := Other y.f7 (gBytes_in g7) (gBytes_len g7)
      have hl7 := gBytes_len g7
      have hP : ∀ b, inB b → b.length ≤ 140737488351232 → Ev (fun k => larderlaw1_places.f k y.f0 y.f1 y.f2 y.f3 y.f4 y.f5 y.f6 y.f7 y.f8 b b) true := fun b hb hbl => places _ _ _ _ _ _ _ _ _ b (wf_u64 g6) hb hbl
      have tail : Ev (fun k => if y.f0 = 5 then ((larderlaw1_unpacks.f k y.f0 y.f1 y.f2 y.f3 y.f4 y.f5 y.f6 y.f7 y.f8).bind fun t172 => (if t172 = true then (larderlaw1_WordPlace.l0 k l (wrap64 ((i : Int) + 1))) else (some false))) else (larderlaw1_WordPlace.l0 k l (wrap64 ((i : Int) + 1)))) true := by
        rw [hw]
        by_cases c5 : y.f0 = 5
        · refine Ev.congr (fun k => if_pos c5) ?_
          refine Ev.bind (unpacks _ _ _ _ _ _ _ _ _ (wf_i64 g1) (gW_in g8) (gW_len g8)) ?_
          exact Ev.congr (fun k => if_pos rfl) rest
        · exact Ev.congr (fun k => if_neg c5) rest
      have hJ2 : Ev (fun k => larderlaw1_WordPlace.j2 k l i o false y.f0 y.f1 y.f2 y.f3 y.f4 y.f5 y.f6 y.f7 y.f8) true := by
        refine Ev.step (f := fun k => ((larderlaw1_Into.f k o y.f7).bind fun t170 => ((larderlaw1_places.f k y.f0 y.f1 y.f2 y.f3 y.f4 y.f5 y.f6 y.f7 y.f8 t170 y.f7).bind fun t171 => (if t171 = true then (if y.f0 = 5 then ((larderlaw1_unpacks.f k y.f0 y.f1 y.f2 y.f3 y.f4 y.f5 y.f6 y.f7 y.f8).bind fun t172 => (if t172 = true then (larderlaw1_WordPlace.l0 k l (wrap64 ((i : Int) + 1))) else (some false))) else (larderlaw1_WordPlace.l0 k l (wrap64 ((i : Int) + 1)))) else (some false))))) (fun k => ?_) ?_
        · simp only [larderlaw1_WordPlace.j2]
          rw [if_neg (by simp)]
        · refine Ev.bind (Into o y.f7 ol (by omega)) ?_
          refine Ev.bind (hP y.f7 (gBytes_in g7) hl7) ?_
          exact Ev.congr (fun k => if_pos rfl) tail
      have hJ1 : Ev (fun k => larderlaw1_WordPlace.j1 k l i true) true := by
        refine Ev.step (f := fun k => ((larderlaw1_Lend.f y.f7).bind fun t154 => ((larderlaw1_Other.f k y.f7).bind fun t157 => ((word_Pack.f k t154).bind fun t160 => ((larderlaw1_places.f k y.f0 y.f1 y.f2 y.f3 y.f4 y.f5 y.f6 y.f7 y.f8 t154 y.f7).bind fun t163 => (if t163 = true then ((larderlaw1_Into.f k t154 t157).bind fun t164 => ((larderlaw1_places.f k y.f0 y.f1 y.f2 y.f3 y.f4 y.f5 y.f6 y.f7 y.f8 t164 t157).bind fun t165 => (if t165 = true then ((larderref1_Pack.f k y.f7).bind fun t166 => ((larderlaw1_sameWords.f k t160 t166).bind fun t169 => (larderlaw1_WordPlace.j2 k l i t164 (!t169) y.f0 y.f1 y.f2 y.f3 y.f4 y.f5 y.f6 y.f7 y.f8))) else (larderlaw1_WordPlace.j2 k l i t164 true y.f0 y.f1 y.f2 y.f3 y.f4 y.f5 y.f6 y.f7 y.f8)))) else (some false))))))) (fun k => ?_) ?_
        · simp only [larderlaw1_WordPlace.j1]
          rw [if_pos trivial, if_pos (by omega), if_pos (by omega), hrd]
        · refine Ev.bind (a := y.f7) (Ev.congr (fun k => lend_some y.f7 (by omega)) (Ev.now _)) ?_
          refine Ev.bind oev ?_
          refine Ev.bind (Pack y.f7 (gBytes_in g7) (by omega)) ?_
          refine Ev.bind (hP y.f7 (gBytes_in g7) hl7) ?_
          refine Ev.congr (fun k => if_pos rfl) ?_
          refine Ev.bind (Into y.f7 o ol.symm (by omega)) ?_
          refine Ev.bind (hP o oin (by omega)) ?_
          refine Ev.congr (fun k => if_pos rfl) ?_
          refine Ev.bind (RefS.Pack y.f7 (gBytes_in g7) hl7) ?_
          refine Ev.bind (RefS.sameWords (pack y.f7) (pack_bound y.f7 hl7)) ?_
          exact hJ2
      refine Ev.step (fun k => ?_) hJ1
      simp only [larderlaw1_WordPlace.l0]
      rw [if_pos (by omega), decide_eq_true h400]
    · refine Ev.step (fun k => ?_) (fin i)
      simp only [larderlaw1_WordPlace.l0]
      rw [if_pos (by omega), decide_eq_false h400]

theorem walk (y : List S71) (v : Value) (W : World) (hK : (Kd.slice 71 k71).K W y [v]) (hg : GoodL 104 good y) :
    Calls Try.prog 8 #[v] W fun e w' => e = .returned (.bool true) ∧ Below W.heap.size W w' := by
  obtain ⟨A, c, hv, hl, hC⟩ := hK
  obtain rfl : v = .slice A y.length c := by simpa using hv
  obtain ⟨k, hk⟩ := Ev.rounds (loop y (by have := hg.1; omega) hg.2 y.length 0 (by omega))
  exact larderlaw1_WordPlace.calls k A c y true W hC hl hk
end Go.Proofs.Ytgngpbcbnfmoiaa.PlaceP
end

section
/- The law WordPlace as its given statement says it: for every argument that can be read as data the call returns true, and what the argument leads to reads as before. No condition. -/
namespace Go.Proofs.Ytgngpbcbnfmoiaa.LawWordPlace
open Go.ChangeShapes Go.WideShapes Go.ChangeAt Go.RowKit
open Go.ChangeMaps (open_string shut_string)
theorem own : ownKnob Try.prog.godebug = none := by kernel_rfl
theorem laidOut : laidOutB Try.prog = true := by kernel_rfl
set_option maxRecDepth 100000 in
theorem lifted (os : Os) (started : os.Started) (H : Type) (enc : TypeId × Value → H) :
    ReturnsInHanded {} Try.checked os 8 .any (Rows.wordPlaceSpec.pre6 enc Try.prog Try.f8 Rows.wordPlaceRow.domain false) (Rows.wordPlaceSpec.post enc Try.prog Try.f8 false true false false) := by
  refine returnsInHanded_of_change_sized (C := Try.checked) own started (by kernel_rfl) Try.func8
    (ChangeSpec.witness6 (enc := enc) (C := Try.checked) false ⟨#[], #[.slice none 0 0], []⟩ 8 (by kernel_rfl) (by kernel_rfl) (by kernel_rfl) (by kernel_rfl)) ?_
  intro W base args ds gs before hval0 hW _ hsz0 _
  have hsz : (DataW.weightsEach Try.prog (Try.f8.params.toList ++ Rows.wordPlaceSpec.plain.varTypes Try.prog) (ds ++ gs)).all (· ≤ reachBytes) = true := hsz0
  have hval : ∀ (j : Nat) t v, Try.f8.params[j]? = some t → args[j]? = some v → Value.okWide Try.prog W .any base t v := hval0
  have hW' := hW
  obtain ⟨p, q, hA0, hV, rfl, _, _⟩ := hW
  have hA : DataW.TrodAll enc Try.prog W 0 (fun _ => true) true Try.f8.params.toList args.toList ds p := hA0
  rw [Try.params8] at hA hval hsz
  obtain ⟨v0, vs0, d0, ds0, p0, q0, hargs, rfl, rfl, h0, r0⟩ := trodAll_cons hA
  obtain ⟨rfl, rfl, rfl⟩ := trodAll_nil r0
  obtain rfl : args = #[v0] := by cases args; simp_all
  obtain ⟨rfl, rfl⟩ := trodVars_none hV
  have k0 := h0
  have lt0 : ∀ x ∈ p0, x.block < W.heap.size := by obtain ⟨m, hm⟩ := k0; exact DataW.trod_lt m _ _ _ hm
  obtain ⟨y, hK, hg⟩ := Open.open_arg PlaceP.o_ops hsz (j := 0) rfl rfl h0
  obtain ⟨a0, len0, cap0, rfl⟩ := okWide_slice Try.underlying49 (hval 0 _ v0 rfl rfl)
  clear hA0 hval0 hsz0 hsz
  refine (PlaceP.walk y _ W hK hg).mono fun e W' ⟨he, bel⟩ => ?_
  subst he
  exact ⟨_, rfl, _, _, _, [], _, [], hW', trodAll_mk1 (shut_bool Try.underlying4 _), (trodAll_cons_mk (Below.trod laidOut (by kernel_rfl) (of_decide_eq_true (by kernel_rfl)) k0 bel lt0) trodAll_mk0), rfl, bel.frame _, fun h => by cases h⟩
theorem over : Rows.wordPlaceRow.holds Try.pinned (OpenSpec.ofChange Rows.wordPlaceSpec) :=
  OpenClaim.holds_of_wide 8 Try.f8 rfl rfl rfl rfl rfl rfl rfl ⟨rfl, rfl, rfl, rfl, rfl⟩ rfl rfl rfl rfl rfl (by kernel_rfl) Try.func8 (by kernel_rfl)
    (of_decide_eq_true (by kernel_rfl)) (by unfold Func.isWrapper; first | (rw [if_pos (by decide +kernel)]; kernel_rfl) | (rw [if_neg (by decide +kernel)]; exact ⟨rfl, rfl⟩))
    (fun os started H enc _ => lifted os started H enc)
theorem proved : Rows.WordPlaceSaid := over
#print axioms proved
end Go.Proofs.Ytgngpbcbnfmoiaa.LawWordPlace
namespace Go.Proofs.Ytgngpbcbnfmoiaa
/-- The row, under a short name, for the claim. -/
theorem wordPlace_holds : Rows.WordPlaceSaid := LawWordPlace.proved
end Go.Proofs.Ytgngpbcbnfmoiaa
end
