/- WordApart over numbers and lists: true at every input that fits; the machine's call answers it. -/
import Derived.Test.YtgngpbcbnfmoiaaHashS
import Derived.Test.YtgngpbcbnfmoiaaArgsW
import Derived.Laws.Bits64
namespace Go.Proofs.Ytgngpbcbnfmoiaa.ApartP
open Go Go.RowKit Go.Proofs.YtgngpbcbnfmoiaaW.PrintWords Go.Proofs.YtgngpbcbnfmoiaaW.PrintLast Go.Proofs.YtgngpbcbnfmoiaaW.PrintMore Go.Proofs.Ytgngpbcbnfmoiaa.PA Go.Proofs.Ytgngpbcbnfmoiaa.WordS Go.Proofs.Ytgngpbcbnfmoiaa.HashS

theorem xor_u8_in (a b : Int) (ha : 0 ≤ a ∧ a < 256) (hb : 0 ≤ b ∧ b < 256) : 0 ≤ bits .xor .u8 a b ∧ bits .xor .u8 a b < 256 := by
  obtain ⟨m, rfl⟩ := Int.eq_ofNat_of_zero_le ha.1
  obtain ⟨n, rfl⟩ := Int.eq_ofNat_of_zero_le hb.1
  have h : ∀ x : Int, 0 ≤ IntKind.u8.wrap x ∧ IntKind.u8.wrap x < 256 := fun x => by rw [IntKind.wrap_u8]; omega
  exact h _

theorem copy_some (t : List Int) (hn : t.length < 140737488355328) : larderlaw1_copyBytes.f t = some t := by
  unfold larderlaw1_copyBytes.f
  rw [if_pos (by simpa using hn)]
  rfl

theorem str_eq (a b : List Int) (ha : inB a) (hb : inB b) : ((strOfNums a).toList == (strOfNums b).toList) = decide (a = b) := by
  have e : ∀ l : List Int, (strOfNums l).toList = l.map fun x => (x.toNat.toUInt8) := by
    intro l
    simp [strOfNums]
  rw [e, e, Bool.eq_iff_iff, beq_iff_eq, decide_eq_true_iff]
  constructor
  · intro h
    have hl : a.length = b.length := by simpa using congrArg List.length h
    apply List.ext_getElem hl
    intro i h1 h2
    have h3 := congrArg (fun l => l[i]?) h
    simp only [List.getElem?_map, List.getElem?_eq_getElem h1, List.getElem?_eq_getElem h2, Option.map_some, Option.some.injEq] at h3
    have h4 := ha _ (List.getElem_mem h1)
    have h5 := hb _ (List.getElem_mem h2)
    have h6 := congrArg UInt8.toNat h3
    simp at h6
    omega
  · rintro rfl; rfl
theorem same_some (a b : List Int) (ha : inB a) (hb : inB b) : larderlaw1_sameBytes.f a b = some (decide (a = b)) := by
  unfold larderlaw1_sameBytes.f
  rw [str_eq a b ha hb]

/-- c parts from t in the word at_ alone. -/
structure Near (t c : List Int) (at_ : Nat) : Prop where
  len : c.length = t.length
  inc : inB c
  far : ∀ i, i / 8 ≠ at_ → c.getD i 0 = t.getD i 0

theorem changed_ev (t : List Int) (at_ : Nat) (hat : at_ ≤ 17592186044416) (x : Int) (d : Nat) : ∀ (i : Nat) (c : List Int), i + d = 8 → Near t c at_ →
    ∃ c', Near t c' at_ ∧ Ev (fun k => larderlaw1_changed.l0 k at_ x c i) c' := by
  induction d with
  | zero =>
    intro i c hi hN
    obtain rfl : i = 8 := by omega
    exact ⟨c, hN, Ev.step (f := fun _ => some c) (fun k => by simp only [larderlaw1_changed.l0]; rw [if_neg (by omega)]) (Ev.now c)⟩
  | succ d ih =>
    intro i c hi hN
    have hcl := hN.len
    have h1 : wrap64 (8 * (at_ : Int)) = ((8 * at_ : Nat) : Int) := by unfold wrap64; omega
    have h2 : wrap64 (((8 * at_ : Nat) : Int) + (i : Int)) = ((8 * at_ + i : Nat) : Int) := by unfold wrap64; omega
    have h3 : wrap64 ((i : Int) + 1) = ((i + 1 : Nat) : Int) := by unfold wrap64; omega
    have h4 : wrap64 (8 * (i : Int)) = ((8 * i : Nat) : Int) := by unfold wrap64; omega
    by_cases hlt : 8 * at_ + i < c.length
    · have hin := hN.inc _ (List.getElem_mem hlt)
      obtain ⟨v, hv⟩ : ∃ v, v = Go.bits .xor .u8 c[8 * at_ + i] (shr .u64 x ((8 * i : Nat) : Int) % 256) := ⟨_, rfl⟩
      have hvin : 0 ≤ v ∧ v < 256 := by rw [hv]; exact xor_u8_in _ _ hin (by omega)
      obtain ⟨c', q1, q2⟩ := ih (i + 1) (c.set (8 * at_ + i) v) (by omega) ⟨by simpa using hcl, fun y hy => by
        rcases List.mem_or_eq_of_mem_set hy with hy | rfl
        · exact hN.inc y hy
        · exact hvin, fun j hj => by
        rw [← hN.far j hj, List.getD_eq_getElem?_getD, List.getD_eq_getElem?_getD, List.getElem?_set, if_neg (by omega)]⟩
      refine ⟨c', q1, Ev.step (f := fun k => larderlaw1_changed.l0 k at_ x (c.set (8 * at_ + i) v) ((i + 1 : Nat) : Int)) (fun k => ?_) q2⟩
      simp only [larderlaw1_changed.l0]
      rw [if_pos (by omega), h1, h2, if_pos (by omega), if_pos (by omega), h4, if_pos (by omega), rd_get hlt, ← hv, h3, Int.toNat_natCast]
    · obtain ⟨c', q1, q2⟩ := ih (i + 1) c (by omega) hN
      refine ⟨c', q1, Ev.step (f := fun k => larderlaw1_changed.l0 k at_ x c ((i + 1 : Nat) : Int)) (fun k => ?_) q2⟩
      simp only [larderlaw1_changed.l0]
      rw [if_pos (by omega), h1, h2, if_neg (by omega), h3]

theorem changed (t : List Int) (ht : inB t) (hn : t.length < 140737488355328) (a x : Int) (ha : -9223372036854775808 ≤ a ∧ a < 9223372036854775808) : ∃ c n, Near t c n ∧ Ev (fun k => larderlaw1_changed.f k t a x) c := by
  have hT : ∀ n, Near t t n := fun n => ⟨rfl, ht, fun _ _ => rfl⟩
  have hj : Ev (fun k => larderlaw1_changed.j0 k a x t true) t := Ev.step (f := fun _ => some t) (fun k => by simp only [larderlaw1_changed.j0, if_true]) (Ev.now t)
  have hw : wrap64 ((t.length : Int) / 8) = ((t.length / 8 : Nat) : Int) := by unfold wrap64; omega
  by_cases h0 : a < 0
  · exact ⟨t, 0, hT 0, Ev.congr (fun k => by unfold larderlaw1_changed.f; rw [copy_some t hn, Option.bind_some, if_pos h0]) hj⟩
  by_cases h1 : a > ((t.length / 8 : Nat) : Int)
  · exact ⟨t, 0, hT 0, Ev.congr (fun k => by unfold larderlaw1_changed.f; rw [copy_some t hn, Option.bind_some, if_neg h0, hw, decide_eq_true h1]) hj⟩
  obtain ⟨n, rfl⟩ := Int.eq_ofNat_of_zero_le (show 0 ≤ a by omega)
  obtain ⟨c, q1, q2⟩ := changed_ev t n (by omega) x 8 0 t rfl (hT n)
  refine ⟨c, n, q1, Ev.congr (fun k => by unfold larderlaw1_changed.f; rw [copy_some t hn, Option.bind_some, if_neg h0, hw, decide_eq_false h1]) ?_⟩
  exact Ev.step (fun k => by simp only [larderlaw1_changed.j0]; rw [if_neg (by simp)]; rfl) q2

theorem WordApart (s o : Int) (l : List Int) (a x : Int) (hs : 0 ≤ s ∧ s < 18446744073709551616) (ho : 0 ≤ o ∧ o < 18446744073709551616) (hl : inB l) (hn : l.length ≤ 140737488351232) (ha : -9223372036854775808 ≤ a ∧ a < 9223372036854775808) :
    ∃ k, larderlaw1_WordApart.f k s o l a x = some true := by
  apply Ev.rounds
  obtain ⟨S, rfl⟩ := Int.eq_ofNat_of_zero_le hs.1
  obtain ⟨O, rfl⟩ := Int.eq_ofNat_of_zero_le ho.1
  have hS : S < 18446744073709551616 := by omega
  have hO : O < 18446744073709551616 := by omega
  obtain ⟨c, n, hc, hcE⟩ := changed l hl (by omega) a x ha
  have hH := Hash S l hl (by omega)
  have hC := Hash S c hc.inc (by have := hc.len; omega)
  have main : Ev (fun k => larderlaw1_WordApart.j0 k ((hash S l : Nat) : Int) false (S : Int) (O : Int) l a x) true := by
    refine Ev.step (fun k => by simp only [larderlaw1_WordApart.j0]; rw [if_neg (by simp)]) ?_
    refine Ev.bind hcE ?_
    by_cases e : c = l
    · subst e
      refine Ev.congr (fun k => by rw [same_some c c hc.inc hc.inc, Option.bind_some, if_pos (by simp)]) ?_
      refine Ev.bind hC ?_
      refine Ev.congr (fun k => ?_) (Ev.now true)
      simp
    · refine Ev.congr (fun k => by rw [same_some c l hc.inc hl, Option.bind_some, if_neg (by simpa using e)]) ?_
      refine Ev.bind hC ?_
      have hne : hash S c ≠ hash S l := fun h => e (hash_word S c l hc.inc hl hc.len n hc.far h)
      refine Ev.congr (fun k => ?_) (Ev.now true)
      simp
      omega
  by_cases e : (O : Int) = (S : Int)
  · refine Ev.congr (fun k => rfl) (Ev.bind hH ?_)
    exact Ev.congr (fun k => by rw [if_pos e]) main
  · refine Ev.congr (fun k => rfl) (Ev.bind hH ?_)
    refine Ev.congr (fun k => by rw [if_neg e]) (Ev.bind (Hash O l hl (by omega)) ?_)
    have hne : hash O l ≠ hash S l := fun h => e (by have := hash_seed O S l hl hO hS h; omega)
    refine Ev.congr (fun k => ?_) main
    congr 1
    simp
    omega

open Go.Proofs.Ytgngpbcbnfmoiaa.ArgsW in
theorem walk (y : Int × Int × List Int × Int × Int) (ca : Array Value) (W : World) (hK : kChange.K W y ca.toList) (hg : gU y.1 ∧ gU y.2.1 ∧ gBytes y.2.2.1 ∧ gI y.2.2.2.1 ∧ gU y.2.2.2.2) :
    Calls Try.prog 4 #[.agg ca] W fun e w' => e = .returned (.bool true) ∧ Below W.heap.size W w' := by
  obtain ⟨s, o, l, a, x⟩ := y
  obtain ⟨hs, ho, hl, ha, hx⟩ := hg
  obtain ⟨c0, c1, e0, hk0, c2, c3, rfl, hk1, c4, c5, rfl, hk2, c6, c7, rfl, hk3, hk4⟩ := hK
  obtain ⟨A, c, rfl, hlc, hC⟩ := bytes_cell hk2
  have h0 : c0 = [.int .u64 s] := hk0
  have h1 : c2 = [.int .u64 o] := hk1
  have h2 : c6 = [.int .i64 a] := hk3
  have h3 : c7 = [.int .u64 x] := hk4
  subst h0 h1 h2 h3
  obtain rfl : ca = #[.int .u64 s, .int .u64 o, .slice A l.length c, .int .i64 a, .int .u64 x] := by cases ca; simp_all
  obtain ⟨k, h⟩ := WordApart s o l a x (wf_u64 hs) (wf_u64 ho) (gBytes_in hl) (gBytes_len hl) (wf_i64 ha)
  exact larderlaw1_WordApart.calls k s o A c l a x true W hC hlc h
end Go.Proofs.Ytgngpbcbnfmoiaa.ApartP
