-- JOINED by tailmerge3.py: XrL11 XrL12 XrX XrY XrZ XrA GreS GreW LawArenaGreat
import Derived.Test.YtgjcffjicbmkhaaLawArenaGreatM3
import Derived.Deep.CutBlock
import Derived.Deep.DeepCutAuto
import Derived.Deep.DeepMust
import Derived.Lib.SlBytesConst
import Derived.Great.BuildSlice
import Derived.Test.YtgjcffjicbmkhaaRows
import Derived.WalkKit
import Derived.ProofKit
import Derived.OpenShut
import Derived.ShutString
import Derived.ChangeOld
import Derived.Below
import Derived.SizedLaws

section
namespace Go.Proofs.Ytgjcffjicbmkhaa.XrL11
open Go Go.RowKit Go.Proofs.YtgjcffjicbmkhaaW.PrintWords Go.Proofs.YtgjcffjicbmkhaaW.PrintLast Go.Proofs.YtgjcffjicbmkhaaW.PrintMore Go.Proofs.Ytgjcffjicbmkhaa.RowU Go.Proofs.Ytgjcffjicbmkhaa.ArS Go.Proofs.Ytgjcffjicbmkhaa.ArM Go.Proofs.Ytgjcffjicbmkhaa.GenM Go.Proofs.Ytgjcffjicbmkhaa.GenN Go.Proofs.Ytgjcffjicbmkhaa.BokA Go.Proofs.Ytgjcffjicbmkhaa.BokB Go.Proofs.Ytgjcffjicbmkhaa.ArP Go.Proofs.Ytgjcffjicbmkhaa.ArQ Go.Proofs.Ytgjcffjicbmkhaa.RfM Go.Proofs.Ytgjcffjicbmkhaa.XrM Go.Proofs.Ytgjcffjicbmkhaa.XrN Go.Proofs.Ytgjcffjicbmkhaa.XrP Go.Proofs.Ytgjcffjicbmkhaa.XrW Go.Proofs.Ytgjcffjicbmkhaa.XrB Go.Proofs.Ytgjcffjicbmkhaa.BegW
set_option linter.unusedVariables false
set_option maxRecDepth 100000
variable {W wr w' : World} {gW : Nat} {q : XQ} {n : Nat}
set_option maxHeartbeats 16000000 in
theorem lists.calls (h : XC W wr gW q n) (hn9 : n ≤ 1000000) (he : XE q) (Bk Sr x y z : Int) (V : Nat) (Ad : Option Addr) (nb cd : Nat) (hon : q.on (mod3 Bk) = true) :
    Calls Try.prog 48 #[.pointer (some ⟨gW, 0, none⟩), .agg #[.int .i64 11, .int .i64 Bk, .int .i64 Sr, .int .i64 x, .int .i64 y, .int .i64 z, .int .u64 (V : Int), .slice Ad nb cd]] wr fun e w' => StR W w' gW q (n + 1) e := by
  have H := Aside0.mk h
  obtain ⟨m, hm⟩ : ∃ m, m = mod3 Bk := ⟨_, rfl⟩
  have hm3 : m < 3 := by rw [hm]; exact mod3_lt Bk
  have HE := Aside0.mk (And.intro he hon)
  have HT : Aside0 (∀ w, Calls Try.prog 30 #[.int .i64 Bk] w fun e w' => e = .returned (.int .i64 (m : Int)) ∧ Drawn0 w w') := ⟨fun w => by rw [hm]; exact three_q Bk w⟩
  rw [← hm] at HE
  clear h he hon hm
  go_enter Try.func48, Try.ntmps48
  go_upto_region 1 with ((with_reducible refine gate_dst (N := 3) rfl ?_); refine box_event ?hg (N := 3) ?hd (cs := #[.int .i64 11, .int .i64 Bk, .int .i64 Sr, .int .i64 x, .int .i64 y, .int .i64 z, .int .u64 (V : Int), .slice Ad nb cd]) (t := 80) ?hr ?_; (case hd => rfl); (case hg => rfl); (case hr => first | (go_simp; done) | (go_simp; rfl)); intro ga hga w1 hbox hb; have BA := Aside0.mk hbox; have HB := Aside0.mk hb; have GA := Aside0.mk hga; clear hbox hb hga)
  have H1 := Aside0.mk (H.out.below HB.out)
  have b1 : w1.cell? ⟨ga, 1, none⟩ = some (.int .i64 Bk) := (blk_cell BA.out 1).trans rfl
  have hpc : w1.cell? ⟨gW, m, none⟩ = some (.pointer (some ⟨(q.d m).g, 0, none⟩)) := by rw [H1.out.pc m hm3]; unfold pC; rw [if_pos HE.out.2]
  have hqc : w1.cell? ⟨gW, 3 + m, none⟩ = some (.pointer (some ⟨q.rg m, 0, none⟩)) := by rw [H1.out.qc m hm3]; unfold qC; rw [if_pos HE.out.2]
  have hmi : (m : Int) < 3 := by omega
  have hm0 : (0 : Int) ≤ m := by omega
  go_quiet (first | (go_at_call 30; (with_reducible refine (HT.out _).mono ?_); rintro e w' ⟨rfl, ⟨nd, rfl⟩⟩; (try first | exact ⟨rfl, _, World.drewN_drewN _ _ _⟩ | exact ⟨rfl, _, Eq.trans (World.drewN_drewN _ _ _) (congrArg (World.drewN _) (Nat.add_assoc _ _ _))⟩)))
  have hbd := pw_below_drewN (Below.refl w1.heap.size w1) nq
  have H2 := Aside0.mk (H1.out.below hbd)
  have BA2 := Aside0.mk (blk_below BA.out hbd)
  have HB2 := Aside0.mk (below_next HB.out hbd)
  have HNM : Aside0 (¬ (q.mine gW ga ∨ (w1.drewN nq).heap.size ≤ ga)) := ⟨by
    rintro (h1 | h1)
    · exact (H.out.fresh (b := ga) (by rw [GA.out]; exact Nat.le_refl _)).1 h1
    · have := cell_lt BA2.out; omega⟩
  clear hbd b1 hpc hqc H1 BA HB
  generalize w1.drewN nq = w2 at *
  have b0 : w2.cell? ⟨ga, 0, none⟩ = some (.int .i64 11) := (blk_cell BA2.out 0).trans rfl
  obtain ⟨ws, hws⟩ : ∃ ws, ws = words (q.d m).l := ⟨_, rfl⟩
  have HP : Aside0 (∀ wq q0 n0, XC W wq gW q0 n0 → q0.d = q.d → q0.on = q.on → Calls Try.prog 17 #[.pointer (some ⟨(q.d m).g, 0, none⟩)] wq fun e w' => ImA wq w' ws e) := ⟨fun wq q0 n0 hq e1 e2 => by rw [hws, ← e1]; exact p_image hq hm3 (by rw [e2]; exact HE.out.2)⟩
  have HQ : Aside0 (∀ wq q0 n0, XC W wq gW q0 n0 → XE q0 → q0.d = q.d → q0.on = q.on → q0.rg = q.rg → Calls Try.prog 63 #[.pointer (some ⟨q.rg m, 0, none⟩)] wq fun e w' => ImA wq w' ws e) := ⟨fun wq q0 n0 hq h5 e1 e2 e3 => by rw [hws, ← e1, ← e3]; exact q_image hq h5 hm3 (by rw [e2]; exact HE.out.2)⟩
  have hlen : ws.length ≤ 1048576 := by rw [hws]; exact words_len H2.out hm3 HE.out.2
  have HLB := Aside0.mk (show ws.length ≤ 100000000000000 by omega)
  clear hws
  go_wp2_with fail
  refine (HP.out w2 q n H2.out rfl rfl).mono ?_
  rintro e w3 ⟨r1, c1, rfl, g1, o1, hb1⟩
  have R3 := Aside0.mk (And.intro g1 (And.intro o1 hb1))
  have H3 := Aside0.mk (H2.out.below hb1)
  clear g1 o1 hb1
  go_wp2_with fail
  refine (HP.out w3 q n H3.out rfl rfl).mono ?_
  rintro e w4 ⟨r2, c2, rfl, g2, o2, hb2⟩
  have R4 := Aside0.mk (And.intro g2 (And.intro o2 hb2))
  have H4 := Aside0.mk (H3.out.below hb2)
  clear g2 o2 hb2
  go_wp2_with fail
  refine (HQ.out w4 q n H4.out HE.out.1 rfl rfl rfl).mono ?_
  rintro e w5 ⟨r3, c3, rfl, g3, o3, hb3⟩
  have R5 := Aside0.mk (And.intro g3 (And.intro o3 hb3))
  have H5 := Aside0.mk (H4.out.below hb3)
  have HG : Aside0 (∀ w, Below w5.heap.size w5 w → WordsAt w r1 c1 ws ∧ WordsAt w r2 c2 ws ∧ WordsAt w r3 c3 ws) := ⟨fun w hb => by
    have k5 := below_next R5.out.2.2 hb
    have k4 := below_next R4.out.2.2 k5
    exact ⟨R3.out.1.upd (S := none_) (Upd.of_below k4) (fun h => h), R4.out.1.upd (S := none_) (Upd.of_below k5) (fun h => h), R5.out.1.upd (S := none_) (Upd.of_below hb) (fun h => h)⟩⟩
  clear g3 o3 hb3
  go_wp2_with fail
  have G5 := HG.out w5 (Below.refl _ _)
  refine (SamW.same_calls G5.1 G5.2.2 _ rfl HLB.out).mono ?_
  clear G5
  rintro e w6 ⟨rfl, hb6⟩
  have HB6 := Aside0.mk hb6
  clear hb6
  go_wp2_with fail
  have G6 := HG.out w6 HB6.out
  refine (SamW.same_calls G6.2.1 G6.1 _ rfl HLB.out).mono ?_
  clear G6
  rintro e w7 ⟨rfl, hb7⟩
  have HB7 := Aside0.mk (below_next HB6.out hb7)
  clear hb7
  have H7 := Aside0.mk (H5.out.below HB7.out)
  have G7 := Aside0.mk (HG.out w7 HB7.out)
  have HO1 : Aside0 (¬ q.mine gW r1 ∧ W.heap.size ≤ r1 ∧ r1 < w3.heap.size) := ⟨(H2.out.fresh R3.out.2.1).1, (H2.out.fresh R3.out.2.1).2, R3.out.1.lt⟩
  by_cases hl : ws.length ≤ 5000
  · have hl' : (ws.length : Int) ≤ 5000 := by omega
    have HBK := Aside0.mk (BokD.words.calls H7.out.bk (some ⟨r1, 0, none⟩) ws.length c1 (ws.map RowU.u64) (.inr ⟨r1, c1, by rw [List.length_map], RfA.gen_of_words G7.out.1⟩) (by rw [List.length_map]; omega) (fun b hb => by obtain rfl := Option.some.inj hb; have h5 := HO1.out.1; exact ⟨Classical.byContradiction fun e => h5 (.inr (.inr (.inl e))), fun e => h5 (.inl e)⟩) (by have := H7.out.cnt; omega))
    go_wp2_with fail
    refine HBK.out.mono ?_
    clear HBK
    rintro e w8 ⟨rfl, ow', vW', vWo', eW', used', hB, hS⟩
    have H8 := Aside0.mk (H7.out.book (m := n + 1) hB hS (fun b hb => by obtain rfl := Option.some.inj hb; exact ⟨HO1.out.1, HO1.out.2.1⟩) (by have := H7.out.cnt; omega))
    have hne : ¬ (r2 = gW ∨ q.ow r2 ≠ none ∨ vB_ (.slice (some ⟨r1, 0, none⟩) ws.length c1) r2) := fun h3 => by
      have h2 := (H3.out.fresh R4.out.2.1).1
      rcases h3 with h3 | h3 | h3
      · exact h2 (.inl h3)
      · exact h2 (.inr (.inr (.inl h3)))
      · have h5 : r1 = r2 := Option.some.inj h3
        have := HO1.out.2.2; have := R4.out.2.1; omega
    have W2 := Aside0.mk (G7.out.2.1.upd hS.upd hne)
    clear hB hS hne
    go_wp2_with fail
    refine (HQ.out w8 _ _ H8.out HE.out.1 rfl rfl rfl).mono ?_
    rintro e w9 ⟨r4, c4, rfl, g4, o4, hb4⟩
    have H9 := Aside0.mk (H8.out.below hb4)
    have HS9 := Aside0.mk (SamW.same_calls (W2.out.upd (S := none_) (Upd.of_below hb4) (fun h => h)) g4 _ rfl HLB.out)
    clear g4 o4 hb4
    go_wp2_with fail
    refine HS9.out.mono ?_
    clear HS9
    rintro e w10 ⟨rfl, hb10⟩
    have H10 := Aside0.mk (H9.out.below hb10)
    clear hb10
    go_wp2_with fail
    go_ret
    exact ⟨rfl, _, H10.out, HE.out.1, rfl⟩
  · have hl' : ¬ (ws.length : Int) ≤ 5000 := by omega
    have HLP : Aside0 (∃ P : List Value, P.length = 0 ∧ GenAt 36 w7 r1 c1 (P ++ (ws.map RowU.u64).drop 0) ∧ Upd (fun b => b = r1) w7 w7) := ⟨[], rfl, by simpa using RfA.gen_of_words G7.out.1, Upd.refl _ _⟩
    go_upto_region 38 with fail
    go_loopw [28] (fun v wr' => ∃ i : Nat, i ≤ ws.length ∧ v = .int .i64 i ∧ Aside0 (∃ P : List Value, P.length = i ∧ GenAt 36 wr' r1 c1 (P ++ (ws.map RowU.u64).drop i) ∧ Upd (fun b => b = r1) w7 wr')) (fun v _ => ws.length - (intOf v).toNat)
    case atStart => exact ⟨0, Nat.zero_le _, rfl, HLP⟩
    case round =>
      obtain ⟨i, hi, rfl, HL⟩ := hrel
      clear HLP
      rename World => wv
      by_cases hlt : i < ws.length
      · have hlt' : (i : Int) < ws.length := by omega
        have hi0 : (0 : Int) ≤ i := by omega
        obtain ⟨P, hP, hGA, hu⟩ := HL.out
        obtain ⟨c, hc⟩ : ∃ c, ws[i]? = some c := ⟨_, List.getElem?_eq_getElem hlt⟩
        have hd : (ws.map RowU.u64).drop i = .int .u64 (c : Int) :: (ws.map RowU.u64).drop (i + 1) := by
          have h5 : i < (ws.map RowU.u64).length := by rw [List.length_map]; exact hlt
          rw [List.drop_eq_getElem_cons h5]
          congr 1
          rw [List.getElem_map]
          have h6 := (List.getElem?_eq_some_iff.1 hc).2
          rw [h6]; rfl
        have hkk := hGA.get i (.int .u64 (c : Int)) (by rw [List.getElem?_append_right (by omega), hP, Nat.sub_self, hd]; rfl)
        have hfz := gen_frozen hGA i
        have HSET : Aside0 (∀ y, ∃ P' : List Value, P'.length = i + 1 ∧ GenAt 36 (wv.setCell ⟨r1, i, none⟩ y) r1 c1 (P' ++ (ws.map RowU.u64).drop (i + 1)) ∧ Upd (fun b => b = r1) w7 (wv.setCell ⟨r1, i, none⟩ y)) := ⟨fun y => by
          have h5 := gen_set hGA i (by simp [hP]; omega) y
          rw [List.set_append_right _ _ (by omega), hP, Nat.sub_self, hd, List.set_cons_zero] at h5
          exact ⟨P ++ [y], by rw [List.length_append, hP]; rfl, by rw [List.append_assoc]; exact h5, hu.put (.inl rfl) _ _⟩⟩
        clear hGA hu hc hd HL
        go_wp2_with fail
        exact ⟨⟨i + 1, by omega, by rw [Int.natCast_succ], ⟨HSET.out _⟩⟩, by simp only [intOf]; omega⟩
      · obtain rfl : i = ws.length := by omega
        clear hlt
        obtain ⟨P, hP, hg, hu⟩ := HL.out
        have H8 := Aside0.mk (H7.out.moveU hu (fun b hm hb => by subst hb; exact HO1.out.1 hm) (fun b hb => by subst hb; exact HO1.out.2.1))
        have W2 := Aside0.mk (G7.out.2.1.upd hu (fun e => by have := HO1.out.2.2; have := R4.out.2.1; omega))
        clear hg hu hP
        go_wp2_with fail
        refine (HP.out wv q n H8.out rfl rfl).mono ?_
        rintro e w9 ⟨r4, c4, rfl, g4, o4, hb4⟩
        have H9 := Aside0.mk (H8.out.below hb4)
        have W9 := Aside0.mk (W2.out.upd (S := none_) (Upd.of_below hb4) (fun h => h))
        have HS9 := Aside0.mk (SamW.same_calls g4 W9.out _ rfl HLB.out)
        clear g4 o4 hb4
        go_wp2_with fail
        refine HS9.out.mono ?_
        clear HS9
        rintro e w10 ⟨rfl, hb10⟩
        have H10 := Aside0.mk (H9.out.below hb10)
        have W10 := Aside0.mk (W9.out.upd (S := none_) (Upd.of_below hb10) (fun h => h))
        clear hb10
        go_wp2_with fail
        refine (HQ.out w10 _ _ H10.out HE.out.1 rfl rfl rfl).mono ?_
        rintro e w11 ⟨r5, c5, rfl, g5, o5, hb5⟩
        have H11 := Aside0.mk (H10.out.below hb5)
        have HS11 := Aside0.mk (SamW.same_calls (W10.out.upd (S := none_) (Upd.of_below hb5) (fun h => h)) g5 _ rfl HLB.out)
        clear g5 o5 hb5
        go_wp2_with fail
        refine HS11.out.mono ?_
        clear HS11
        rintro e w12 ⟨rfl, hb12⟩
        have H12 := Aside0.mk (H11.out.below hb12)
        clear hb12
        go_wp2_with fail
        go_ret
        exact ⟨rfl, q, H12.out.more (by omega), HE.out.1, rfl⟩
end Go.Proofs.Ytgjcffjicbmkhaa.XrL11
end

section
namespace Go.Proofs.Ytgjcffjicbmkhaa.XrL12
open Go Go.RowKit Go.Proofs.YtgjcffjicbmkhaaW.PrintWords Go.Proofs.YtgjcffjicbmkhaaW.PrintLast Go.Proofs.YtgjcffjicbmkhaaW.PrintMore Go.Proofs.Ytgjcffjicbmkhaa.RowU Go.Proofs.Ytgjcffjicbmkhaa.ArS Go.Proofs.Ytgjcffjicbmkhaa.ArM Go.Proofs.Ytgjcffjicbmkhaa.GenM Go.Proofs.Ytgjcffjicbmkhaa.GenN Go.Proofs.Ytgjcffjicbmkhaa.BokA Go.Proofs.Ytgjcffjicbmkhaa.BokB Go.Proofs.Ytgjcffjicbmkhaa.ArP Go.Proofs.Ytgjcffjicbmkhaa.ArQ Go.Proofs.Ytgjcffjicbmkhaa.RfM Go.Proofs.Ytgjcffjicbmkhaa.XrM Go.Proofs.Ytgjcffjicbmkhaa.XrN Go.Proofs.Ytgjcffjicbmkhaa.XrP Go.Proofs.Ytgjcffjicbmkhaa.XrW Go.Proofs.Ytgjcffjicbmkhaa.XrB Go.Proofs.Ytgjcffjicbmkhaa.BegW
set_option linter.unusedVariables false
set_option maxRecDepth 100000
variable {W wr w' : World} {gW : Nat} {q : XQ} {n : Nat}
set_option maxHeartbeats 16000000 in
theorem lists.calls (h : XC W wr gW q n) (hn9 : n ≤ 1000000) (he : XE q) (Bk Sr x y z : Int) (V : Nat) (Ad : Option Addr) (nb cd : Nat) (hon : q.on (mod3 Bk) = true) :
    Calls Try.prog 48 #[.pointer (some ⟨gW, 0, none⟩), .agg #[.int .i64 12, .int .i64 Bk, .int .i64 Sr, .int .i64 x, .int .i64 y, .int .i64 z, .int .u64 (V : Int), .slice Ad nb cd]] wr fun e w' => StR W w' gW q (n + 1) e := by
  have H := Aside0.mk h
  obtain ⟨m, hm⟩ : ∃ m, m = mod3 Bk := ⟨_, rfl⟩
  have hm3 : m < 3 := by rw [hm]; exact mod3_lt Bk
  have HE := Aside0.mk (And.intro he hon)
  have HT : Aside0 (∀ w, Calls Try.prog 30 #[.int .i64 Bk] w fun e w' => e = .returned (.int .i64 (m : Int)) ∧ Drawn0 w w') := ⟨fun w => by rw [hm]; exact three_q Bk w⟩
  rw [← hm] at HE
  clear h he hon hm
  go_enter Try.func48, Try.ntmps48
  go_upto_region 1 with ((with_reducible refine gate_dst (N := 3) rfl ?_); refine box_event ?hg (N := 3) ?hd (cs := #[.int .i64 12, .int .i64 Bk, .int .i64 Sr, .int .i64 x, .int .i64 y, .int .i64 z, .int .u64 (V : Int), .slice Ad nb cd]) (t := 80) ?hr ?_; (case hd => rfl); (case hg => rfl); (case hr => first | (go_simp; done) | (go_simp; rfl)); intro ga hga w1 hbox hb; have BA := Aside0.mk hbox; have HB := Aside0.mk hb; have GA := Aside0.mk hga; clear hbox hb hga)
  have H1 := Aside0.mk (H.out.below HB.out)
  have b1 : w1.cell? ⟨ga, 1, none⟩ = some (.int .i64 Bk) := (blk_cell BA.out 1).trans rfl
  have hpc : w1.cell? ⟨gW, m, none⟩ = some (.pointer (some ⟨(q.d m).g, 0, none⟩)) := by rw [H1.out.pc m hm3]; unfold pC; rw [if_pos HE.out.2]
  have hqc : w1.cell? ⟨gW, 3 + m, none⟩ = some (.pointer (some ⟨q.rg m, 0, none⟩)) := by rw [H1.out.qc m hm3]; unfold qC; rw [if_pos HE.out.2]
  have hmi : (m : Int) < 3 := by omega
  have hm0 : (0 : Int) ≤ m := by omega
  go_quiet (first | (go_at_call 30; (with_reducible refine (HT.out _).mono ?_); rintro e w' ⟨rfl, ⟨nd, rfl⟩⟩; (try first | exact ⟨rfl, _, World.drewN_drewN _ _ _⟩ | exact ⟨rfl, _, Eq.trans (World.drewN_drewN _ _ _) (congrArg (World.drewN _) (Nat.add_assoc _ _ _))⟩)))
  have hbd := pw_below_drewN (Below.refl w1.heap.size w1) nq
  have H2 := Aside0.mk (H1.out.below hbd)
  have BA2 := Aside0.mk (blk_below BA.out hbd)
  have HB2 := Aside0.mk (below_next HB.out hbd)
  have HNM : Aside0 (¬ (q.mine gW ga ∨ (w1.drewN nq).heap.size ≤ ga)) := ⟨by
    rintro (h1 | h1)
    · exact (H.out.fresh (b := ga) (by rw [GA.out]; exact Nat.le_refl _)).1 h1
    · have := cell_lt BA2.out; omega⟩
  clear hbd b1 hpc hqc H1 BA HB
  generalize w1.drewN nq = w2 at *
  have b0 : w2.cell? ⟨ga, 0, none⟩ = some (.int .i64 12) := (blk_cell BA2.out 0).trans rfl
  have HP := Aside0.mk (ArZ.clear.calls (H2.out.th.at_ m hm3 HE.out.2))
  go_wp2_with fail
  refine HP.out.mono ?_
  clear HP
  rintro e w3 ⟨rfl, gw', gf', hA, e1, e2, hu⟩
  have H3 := Aside0.mk (H2.out.p1 hm3 HE.out.2 hA (.inr e1) (.inr e2) (hu.mono (fun b hb => .inl hb)))
  have HK3 : Aside0 (Keep q gW w2 w3) := ⟨Keep.of hu (fun b hb => .inl (.inr (.inr (.inr ⟨m, hm3, HE.out.2, .inl hb⟩))))⟩
  clear hA e1 e2 hu
  have HQ : Aside0 (Calls Try.prog 66 #[.pointer (some ⟨q.rg m, 0, none⟩)] w3 fun e w' => e = .returned (.tuple #[]) ∧ StX W w' gW q n) := ⟨by
    have hr := H3.out.rf m hm3 HE.out.2
    rw [putP_sz] at hr
    refine (RfG.clear.calls (lo := q.lo) hr).mono ?_
    rintro e w4 ⟨rfl, hR, hu⟩
    exact ⟨rfl, (H2.out.second HE.out.1 hm3 HE.out.2 H3.out HK3.out (Below.refl _ _) hR rfl (fun _ _ h => h) (fun b hb => .inl hb) (fun b hb => Nat.lt_of_lt_of_le (H3.out.lo_lt b hb) hu.size) hu).2⟩⟩
  go_wp2_with fail
  refine HQ.out.mono ?_
  clear HQ
  rintro e w4 ⟨rfl, hst⟩
  have HST := Aside0.mk hst
  clear hst
  go_wp2_with fail
  go_ret
  obtain ⟨q', h1, h2, h3⟩ := HST.out
  exact ⟨rfl, q', h1.more (by omega), h2, h3⟩
end Go.Proofs.Ytgjcffjicbmkhaa.XrL12
end

section
namespace Go.Proofs.Ytgjcffjicbmkhaa.XrX
open Go Go.RowKit Go.Proofs.YtgjcffjicbmkhaaW.PrintWords Go.Proofs.YtgjcffjicbmkhaaW.PrintLast Go.Proofs.YtgjcffjicbmkhaaW.PrintMore Go.Proofs.Ytgjcffjicbmkhaa.RowU Go.Proofs.Ytgjcffjicbmkhaa.ArS Go.Proofs.Ytgjcffjicbmkhaa.ArM Go.Proofs.Ytgjcffjicbmkhaa.GenM Go.Proofs.Ytgjcffjicbmkhaa.GenN Go.Proofs.Ytgjcffjicbmkhaa.BokA Go.Proofs.Ytgjcffjicbmkhaa.BokB Go.Proofs.Ytgjcffjicbmkhaa.ArP Go.Proofs.Ytgjcffjicbmkhaa.ArQ Go.Proofs.Ytgjcffjicbmkhaa.RfM Go.Proofs.Ytgjcffjicbmkhaa.XrM Go.Proofs.Ytgjcffjicbmkhaa.XrN Go.Proofs.Ytgjcffjicbmkhaa.XrP Go.Proofs.Ytgjcffjicbmkhaa.XrW Go.Proofs.Ytgjcffjicbmkhaa.XrB Go.Proofs.Ytgjcffjicbmkhaa.BegW
set_option linter.unusedVariables false
set_option maxRecDepth 100000
variable {W wr w' : World} {gW : Nat} {q : XQ} {n : Nat}
structure OpK (W : World) (x y z : Int) (V : Nat) (Ad : Option Addr) (nb cd : Nat) (bs : List Nat) : Prop where
  hx : -9223372036854775808 ≤ x ∧ x < 9223372036854775808
  hy : -9223372036854775808 ≤ y ∧ y < 9223372036854775808
  hz : -9223372036854775808 ≤ z ∧ z < 9223372036854775808
  hV : V < 18446744073709551616
  hbs : ∀ c ∈ bs, c < 256
  hlb : bs.length ≤ 140737488351232
  hnb : nb = bs.length
  hcd : nb ≤ cd
  hrd : FlipW.Rd8 W Ad bs
theorem lists_all (h : XC W wr gW q n) (hn9 : n ≤ 1000000) (he : XE q) (K Bk Sr x y z : Int) (V : Nat) (Ad : Option Addr) (nb cd : Nat) (bs : List Nat) (hop : OpK W x y z V Ad nb cd bs) (hon : q.on (mod3 Bk) = true) :
    Calls Try.prog 48 #[.pointer (some ⟨gW, 0, none⟩), .agg #[.int .i64 K, .int .i64 Bk, .int .i64 Sr, .int .i64 x, .int .i64 y, .int .i64 z, .int .u64 (V : Int), .slice Ad nb cd]] wr fun e w' => StR W w' gW q (n + 1) e := by
  by_cases k6 : K = 6
  · subst k6; exact XrL6.lists.calls h hn9 he Bk Sr x y z V Ad nb cd hon hop.hy hop.hz
  by_cases k7 : K = 7
  · subst k7; exact XrL7.lists.calls h hn9 he Bk Sr x y z V Ad nb cd hon hop.hy bs hop.hbs hop.hlb hop.hnb hop.hcd hop.hrd
  by_cases k8 : K = 8
  · subst k8; exact XrL8.lists.calls h hn9 he Bk Sr x y z V Ad nb cd hon
  by_cases k10 : K = 10
  · subst k10; exact XrL10.lists.calls h hn9 he Bk Sr x y z V Ad nb cd hon
  by_cases k11 : K = 11
  · subst k11; exact XrL11.lists.calls h hn9 he Bk Sr x y z V Ad nb cd hon
  by_cases k12 : K = 12
  · subst k12; exact XrL12.lists.calls h hn9 he Bk Sr x y z V Ad nb cd hon
  exact XrL0.lists.calls h hn9 he K Bk Sr x y z V Ad nb cd hon ⟨by simp [k6], by simp [k7], by simp [k8], by simp [k10], by simp [k11], by simp [k12]⟩
end Go.Proofs.Ytgjcffjicbmkhaa.XrX
end

section
namespace Go.Proofs.Ytgjcffjicbmkhaa.XrY
open Go Go.RowKit Go.Proofs.YtgjcffjicbmkhaaW.PrintWords Go.Proofs.YtgjcffjicbmkhaaW.PrintLast Go.Proofs.YtgjcffjicbmkhaaW.PrintMore Go.Proofs.Ytgjcffjicbmkhaa.RowU Go.Proofs.Ytgjcffjicbmkhaa.ArS Go.Proofs.Ytgjcffjicbmkhaa.ArM Go.Proofs.Ytgjcffjicbmkhaa.GenM Go.Proofs.Ytgjcffjicbmkhaa.BokA Go.Proofs.Ytgjcffjicbmkhaa.BokB Go.Proofs.Ytgjcffjicbmkhaa.ArP Go.Proofs.Ytgjcffjicbmkhaa.ArQ Go.Proofs.Ytgjcffjicbmkhaa.RfM Go.Proofs.Ytgjcffjicbmkhaa.XrM Go.Proofs.Ytgjcffjicbmkhaa.XrN Go.Proofs.Ytgjcffjicbmkhaa.XrP
set_option linter.unusedVariables false
set_option maxRecDepth 100000
variable {W wr w' : World} {gW : Nat} {q : XQ} {n : Nat}
theorem set_at {w : World} {g k : Nat} {v u : Value} (hb : ∃ cur T, w.heap[g]? = some (.cells cur T (0, 0))) (hc : w.cell? ⟨g, k, none⟩ = some u) : (w.setCell ⟨g, k, none⟩ v).cell? ⟨g, k, none⟩ = some v := by
  obtain ⟨cur, T, hbk⟩ := hb
  rw [blk_cell (blk_set hbk _ _)]
  rw [blk_cell hbk] at hc
  have hlt : k < cur.size := by
    rcases Nat.lt_or_ge k cur.size with h3 | h3
    · exact h3
    · rw [Array.getElem?_eq_none h3] at hc; cases hc
  simp [hlt]
def newQ (q : XQ) (d' : Nat → ArD) (on' : Nat → Bool) (rg' : Nat → Nat) (rv' : Nat → Value) (re' : Nat → List RO) (lo' : Own) : XQ := { q with d := d', on := on', rg := rg', rv := rv', re := re', lo := lo' }
theorem _root_.Go.Proofs.Ytgjcffjicbmkhaa.XrM.XC.renew (h : XC W wr gW q n) {i : Nat} (hi : i < 3) {d' : Nat → ArD} {on' : Nat → Bool} {rg' : Nat → Nat} {rv' : Nat → Value} {re' : Nat → List RO} {lo' : Own}
    (hw : w' = (wr.setCell ⟨gW, i, none⟩ (pC (newQ q d' on' rg' rv' re' lo') i)).setCell ⟨gW, 3 + i, none⟩ (qC (newQ q d' on' rg' rv' re' lo') i)) (hT : Three wr d' on') (hR : ∀ k, k < 3 → on' k = true → RA k wr lo' (rg' k) (d' k).sz (rv' k) (re' k)) (hle : ∀ b t, q.lo b = some t → lo' b = some t)
    (hcl : ∀ b, lo' b ≠ none → q.lo b ≠ none ∨ (¬ q.mine gW b ∧ W.heap.size ≤ b ∧ b < wr.heap.size)) (hpr : ∀ b, (newQ q d' on' rg' rv' re' lo').prog b → (q.prog b ∨ (¬ q.mine gW b ∧ W.heap.size ≤ b ∧ b < wr.heap.size)) ∧ lo' b = none)
    (hp : ∀ j, j < 3 → j ≠ i → pC (newQ q d' on' rg' rv' re' lo') j = pC q j) (hq : ∀ j, j < 3 → j ≠ i → qC (newQ q d' on' rg' rv' re' lo') j = qC q j) : XC W w' gW (newQ q d' on' rg' rv' re' lo') n := by
  have hu : Upd (fun b => b = gW) wr w' := by rw [hw]; exact Upd.put (S := fun b => b = gW) (Upd.put (S := fun b => b = gW) (Upd.refl _ wr) (.inl rfl) _ _) (.inl rfl) _ _
  have hsz : w'.heap.size = wr.heap.size := by rw [hw]; simp [World.setCell]
  have hb1 : ∃ cur T, (wr.setCell ⟨gW, i, none⟩ (pC (newQ q d' on' rg' rv' re' lo') i)).heap[gW]? = some (.cells cur T (0, 0)) := by obtain ⟨cur, T, hb⟩ := h.blk; exact ⟨_, T, blk_set hb _ _⟩
  have kc : ∀ j, j ≠ i → j ≠ 3 + i → w'.cell? ⟨gW, j, none⟩ = wr.cell? ⟨gW, j, none⟩ := fun j h1 h2 => by
    rw [hw]
    exact (set_keep hb1 h2).trans (set_keep h.blk h1)
  have hlW : ∀ b, lo' b ≠ none → q.ow b = none ∧ b ≠ gW := fun b hb => by
    rcases hcl b hb with h1 | h1
    · exact h.x1 b h1
    · exact ⟨Classical.byContradiction fun e => h1.1 (.inr (.inr (.inl e))), fun e => h1.1 (.inl e)⟩
  have hpW : ∀ b, (newQ q d' on' rg' rv' re' lo').prog b → q.ow b = none ∧ b ≠ gW := fun b hb => by
    rcases (hpr b hb).1 with h1 | h1
    · exact (h.x2 b h1).2
    · exact ⟨Classical.byContradiction fun e => h1.1 (.inr (.inr (.inl e))), fun e => h1.1 (.inl e)⟩
  refine ⟨⟨fun k hk ho => ArD.upd (hT.at_ k hk ho) hu (fun b hb e => (hpW b ⟨k, hk, ho, hb⟩).2 e), hT.sep⟩, fun k hk ho => (hR k hk ho).upd hu (fun b t hb e => (hlW b (by rw [hb]; simp)).2 e) (fun _ _ h => h), ?_, fun j hj => ?_, fun j hj => ?_, fun j hj => (kc _ (by omega) (by omega)).trans (h.rc j hj), fun j hj => ?_, hlW, fun b hb => ⟨(hpr b hb).2, hpW b hb⟩, fun b hm => ?_, hu.to_below h.bel h.bel.size (fun b e => by subst e; exact (h.old _ (.inl rfl)).1), h.cnt⟩
  · have hB := h.bk
    refine ⟨⟨?_, fun j hj => (kc _ (by omega) (by omega)).trans (hB.hd.cell j hj)⟩, hB.tB.move hu (fun b t hb2 e => by subst e; rw [hB.ng] at hb2; cases hb2) (Own.le.refl _) (Nat.le_refl _), hB.tW.move hu (fun b t hb2 e => by subst e; rw [hB.ng] at hb2; cases hb2) (Own.le.refl _) (Nat.le_refl _), fun b hb2 => by rw [hsz]; exact hB.lt b hb2, hB.ng, hB.us⟩
    obtain ⟨cur, T, hb⟩ := hb1
    rw [hw]
    exact ⟨_, T, blk_set hb _ _⟩
  · by_cases c : j = i
    · subst c
      rw [hw]
      exact (set_keep hb1 (by omega)).trans (set_at h.blk (h.pc j hj))
    · rw [hp j hj c]
      exact (kc j c (by omega)).trans (h.pc j hj)
  · by_cases c : j = i
    · subst c
      rw [hw]
      exact set_at hb1 ((set_keep h.blk (by omega)).trans (h.qc j hj))
    · rw [hq j hj c]
      exact (kc _ (by omega) (by omega)).trans (h.qc j hj)
  · obtain ⟨⟨l, hl⟩, ht⟩ := h.rm j hj
    exact ⟨⟨l, hl.upd hu (fun b hb e => (h.x1 b (by rw [ht b hb]; simp)).2 e)⟩, fun b hb => hle _ _ (ht b hb)⟩
  · rw [hsz]
    rcases hm with h1 | h1 | h1 | h1
    · exact h.old b (.inl h1)
    · rcases hcl b h1 with h2 | h2
      · exact h.old b (.inr (.inl h2))
      · exact h2.2
    · exact h.old b (.inr (.inr (.inl h1)))
    · rcases (hpr b h1).1 with h2 | h2
      · exact h.old b (.inr (.inr (.inr h2)))
      · exact h2.2
theorem _root_.Go.Proofs.Ytgjcffjicbmkhaa.XrM.XC.off (h : XC W wr gW q n) (he : XE q) {i : Nat} (hi : i < 3) (hw : w' = (wr.setCell ⟨gW, i, none⟩ (.pointer none)).setCell ⟨gW, 3 + i, none⟩ (.pointer none)) : ∃ q', XC W w' gW q' n ∧ XE q' := by
  have hon : ∀ j, (if j = i then false else q.on j) = true → j ≠ i ∧ q.on j = true := fun j hj => by
    by_cases c : j = i
    · simp [c] at hj
    · exact ⟨c, by simpa [c] using hj⟩
  refine ⟨newQ q q.d (fun j => if j = i then false else q.on j) q.rg q.rv q.re q.lo, h.renew hi (by rw [hw]; simp [pC, qC, newQ]) (h.th.off i) (fun k hk ho => h.rf k hk (hon k ho).2) (fun _ _ h => h) (fun b hb => .inl hb) (fun b hb => ?_) (fun j hj c => by simp [pC, newQ, c]) (fun j hj c => by simp [qC, newQ, c]), fun k hk ho => he k hk (hon k ho).2⟩
  obtain ⟨k, hk, ho, hb2⟩ := hb
  have hp : q.prog b := ⟨k, hk, (hon k ho).2, hb2⟩
  exact ⟨.inl hp, (h.x2 b hp).1⟩
theorem _root_.Go.Proofs.Ytgjcffjicbmkhaa.XrM.XC.made (h : XC W wr gW q n) (he : XE q) {i : Nat} (hi : i < 3) {w1 w2 : World} {g gw gf r sz : Nat} (hA : ArAt w1 g gw gf sz []) (b0 : wr.heap.size ≤ g) (b1 : wr.heap.size ≤ gw) (b2 : wr.heap.size ≤ gf) (hb1 : Below wr.heap.size wr w1) (hb2 : Below w1.heap.size w1 w2) (hr : w1.heap.size ≤ r) (hR : ∀ lo' : Own, lo' r = some (i, 0) → RA i w2 lo' r sz (.slice none 0 0) [])
    (hw : w' = (w2.setCell ⟨gW, i, none⟩ (.pointer (some ⟨g, 0, none⟩))).setCell ⟨gW, 3 + i, none⟩ (.pointer (some ⟨r, 0, none⟩))) : ∃ q', XC W w' gW q' n ∧ XE q' := by
  have h2 := (h.below hb1).below hb2
  let lo' : Own := fun b => if b = r then some (i, 0) else q.lo b
  have hrn : q.lo r = none := Classical.byContradiction fun e => by have := h.lo_lt r e; have := hb1.size; omega
  have hlr : lo' r = some (i, 0) := if_pos rfl
  have hle : ∀ b t, q.lo b = some t → lo' b = some t := fun b t hb => by
    show (if b = r then _ else _) = _
    rw [if_neg (fun e => by subst e; rw [hrn] at hb; cases hb)]; exact hb
  have hRr := hR lo' hlr
  have hrl : r < w2.heap.size := cell_lt hRr.hd
  have hT1 : Three w1 (putD q.d i ⟨g, gw, gf, sz, []⟩) (fun j => if j = i then true else q.on j) := h.th.fresh hi hA b0 b1 b2 hb1
  have hon : ∀ j, j ≠ i → (if j = i then true else q.on j) = q.on j := fun j c => if_neg c
  refine ⟨newQ q (putD q.d i ⟨g, gw, gf, sz, []⟩) (fun j => if j = i then true else q.on j) (fun j => if j = i then r else q.rg j) (fun j => if j = i then .slice none 0 0 else q.rv j) (fun j => if j = i then [] else q.re j) lo',
    h2.renew hi (by rw [hw]; simp [pC, qC, newQ, putD_self]) (hT1.below hb2) (fun k hk ho => ?_) hle (fun b hb => ?_) (fun b hb => ?_) (fun j hj c => by simp [pC, newQ, c, putD_other]) (fun j hj c => by simp [qC, newQ, c]), fun k hk ho => ?_⟩
  · by_cases c : k = i
    · subst c
      simp only [if_true, putD_self]
      exact hRr
    · simp only [c, if_false, putD_other _ _ _ _ c] at ho ⊢
      exact (h2.rf k hk ho).upd (S := none_) (Upd.refl _ _) (fun _ _ _ h => h) (fun b t hb => hle b _ hb)
  · by_cases c : b = r
    · subst c
      exact .inr ⟨fun hm => by have := (h.old _ hm).2; have := hb1.size; omega, Nat.le_trans h.bel.size (Nat.le_trans hb1.size hr), hrl⟩
    · have e : lo' b = q.lo b := if_neg c
      rw [e] at hb
      exact .inl hb
  · obtain ⟨k, hk, ho, hb3⟩ := hb
    have hb4 : (putD q.d i ⟨g, gw, gf, sz, []⟩ k).blk b := hb3
    have hbl : b < w1.heap.size := ArD.lt (hT1.at_ k hk ho) b hb4
    have hlo : lo' b = q.lo b := if_neg (by omega)
    by_cases c : k = i
    · subst c
      rw [putD_self] at hb4
      have hge : wr.heap.size ≤ b := by
        rcases hb4 with e | e | e
        · rw [e]; exact b0
        · rw [e]; exact b1
        · rw [e]; exact b2
      refine ⟨.inr ⟨(h.fresh hge).1, (h.fresh hge).2, Nat.lt_of_lt_of_le hbl hb2.size⟩, ?_⟩
      rw [hlo]
      exact Classical.byContradiction fun e => by have := h.lo_lt b e; omega
    · rw [putD_other _ _ _ _ c] at hb4
      have ho' : (if k = i then true else q.on k) = true := ho
      rw [if_neg c] at ho'
      have hp : q.prog b := ⟨k, hk, ho', hb4⟩
      exact ⟨.inl hp, by rw [hlo]; exact (h.x2 b hp).1⟩
  · have ho' : (if k = i then true else q.on k) = true := ho
    show obs (if k = i then [] else q.re k) = (putD q.d i ⟨g, gw, gf, sz, []⟩ k).l
    by_cases c : k = i
    · subst c; rw [if_pos rfl, putD_self]; rfl
    · rw [if_neg c] at ho'
      rw [if_neg c, putD_other _ _ _ _ c]
      exact he k hk ho'
end Go.Proofs.Ytgjcffjicbmkhaa.XrY
end

section
namespace Go.Proofs.Ytgjcffjicbmkhaa.XrZ
open Go Go.RowKit Go.Proofs.YtgjcffjicbmkhaaW.PrintWords Go.Proofs.YtgjcffjicbmkhaaW.PrintLast Go.Proofs.YtgjcffjicbmkhaaW.PrintMore Go.Proofs.Ytgjcffjicbmkhaa.RowU Go.Proofs.Ytgjcffjicbmkhaa.ArS Go.Proofs.Ytgjcffjicbmkhaa.ArM Go.Proofs.Ytgjcffjicbmkhaa.BokA Go.Proofs.Ytgjcffjicbmkhaa.ArP Go.Proofs.Ytgjcffjicbmkhaa.ArQ Go.Proofs.Ytgjcffjicbmkhaa.XrM Go.Proofs.Ytgjcffjicbmkhaa.XrN Go.Proofs.Ytgjcffjicbmkhaa.XrP Go.Proofs.Ytgjcffjicbmkhaa.XrW Go.Proofs.Ytgjcffjicbmkhaa.XrX Go.Proofs.Ytgjcffjicbmkhaa.BegW
set_option linter.unusedVariables false
set_option maxRecDepth 100000
variable {W wr w' : World} {gW : Nat} {q : XQ} {n : Nat}
def SpR (W w' : World) (gW n : Nat) (e : Ending) : Prop := e = .returned (.bool true) ∧ ∃ q', XC W w' gW q' n ∧ XE q'
set_option maxHeartbeats 16000000 in
theorem step.calls (h : XC W wr gW q n) (hn9 : n ≤ 1000000) (he : XE q) (K Bk Sr x y z : Int) (V : Nat) (Ad : Option Addr) (nb cd : Nat) (bs : List Nat) (hop : OpK W x y z V Ad nb cd bs) :
    Calls Try.prog 32 #[.pointer (some ⟨gW, 0, none⟩), .agg #[.int .i64 K, .int .i64 Bk, .int .i64 Sr, .int .i64 x, .int .i64 y, .int .i64 z, .int .u64 (V : Int), .slice Ad nb cd]] wr fun e w' => SpR W w' gW (n + 1) e := by
  have H := Aside0.mk h
  obtain ⟨m, hm⟩ : ∃ m, m = mod3 Bk := ⟨_, rfl⟩
  have hm3 : m < 3 := by rw [hm]; exact mod3_lt Bk
  have HE := Aside0.mk he
  have HM := Aside0.mk hm
  have HOP := Aside0.mk hop
  have HT : Aside0 (∀ w, Calls Try.prog 30 #[.int .i64 Bk] w fun e w' => e = .returned (.int .i64 (m : Int)) ∧ Below w.heap.size w w') := ⟨fun w => by rw [hm]; exact (three_q Bk w).mono fun e w' ⟨he, hd⟩ => ⟨he, hd.below⟩⟩
  have hmi : (m : Int) < 3 := by omega
  have hm0 : (0 : Int) ≤ m := by omega
  clear h he hm hop
  go_enter Try.func32, Try.ntmps32
  go_upto_region 1 with ((with_reducible refine gate_dst (N := 3) rfl ?_); refine box_event ?hg (N := 3) ?hd (cs := #[.int .i64 K, .int .i64 Bk, .int .i64 Sr, .int .i64 x, .int .i64 y, .int .i64 z, .int .u64 (V : Int), .slice Ad nb cd]) (t := 80) ?hr ?_; (case hd => rfl); (case hg => rfl); (case hr => first | (go_simp; done) | (go_simp; rfl)); intro ga hga w1 hbox hb; have BA := Aside0.mk hbox; have HB := Aside0.mk hb; have GA := Aside0.mk hga; clear hbox hb hga)
  have b1 : w1.cell? ⟨ga, 1, none⟩ = some (.int .i64 Bk) := (blk_cell BA.out 1).trans rfl
  go_wp2_with fail
  refine (HT.out w1).mono ?_
  rintro e w2 ⟨rfl, hb⟩
  have H2 := Aside0.mk (H.out.below (below_next HB.out hb))
  have BA2 := Aside0.mk (blk_below BA.out hb)
  have HNM : Aside0 (¬ (q.mine gW ga ∨ w2.heap.size ≤ ga)) := ⟨by
    rintro (h1 | h1)
    · exact (H.out.fresh (b := ga) (by rw [GA.out]; exact Nat.le_refl _)).1 h1
    · have := cell_lt BA2.out; omega⟩
  clear hb b1 BA HB GA
  have b0 : w2.cell? ⟨ga, 0, none⟩ = some (.int .i64 K) := (blk_cell BA2.out 0).trans rfl
  by_cases k1 : K = 1
  · subst k1
    have b3 : w2.cell? ⟨ga, 3, none⟩ = some (.int .i64 x) := (blk_cell BA2.out 3).trans rfl
    by_cases hx : 1 ≤ x ∧ x ≤ 1048576
    · obtain ⟨sz, rfl⟩ := Int.eq_ofNat_of_zero_le (show 0 ≤ x by omega)
      have HNC := Aside0.mk (ArX.new.calls w2 sz (by omega) (by omega))
      have HSZ := Aside0.mk hx
      clear hx
      go_wp2_with fail
      refine HNC.out.mono ?_
      clear HNC
      rintro e w3 ⟨g, gw, gf, rfl, n1, n2, n3, n4, n5⟩
      have HN := Aside0.mk (And.intro n1 (And.intro n2 (And.intro n3 (And.intro n4 n5))))
      have b3 := pw_cell_below n5 b3
      clear n1 n2 n3 n4 n5
      go_wp2_with fail
      refine (RfG.new.calls w3 (sz : Int) m).mono ?_
      rintro e w4 hnr
      rcases hnr with ⟨h1, _, _⟩ | ⟨_, _, r, rfl, r1, r2, r3⟩
      · exact absurd HSZ.out h1
      rw [Int.toNat_natCast] at r3
      have HR := Aside0.mk (And.intro r1 (And.intro r2 r3))
      have H4 := Aside0.mk ((H2.out.below HN.out.2.2.2.2).below r2)
      clear r1 r2 r3
      have hpc := H4.out.pc m hm3
      obtain ⟨vp, hvp⟩ : ∃ vp, vp = pC q m := ⟨_, rfl⟩
      obtain ⟨vq, hvq⟩ : ∃ vq, vq = qC q m := ⟨_, rfl⟩
      have hqc := H4.out.qc m hm3
      rw [← hvp] at hpc
      rw [← hvq] at hqc
      obtain ⟨cur, T, hbk⟩ := H4.out.blk
      have hf1 := blk_frozen hbk m
      have hbk2 := blk_set hbk m (.pointer (some ⟨g, 0, none⟩))
      have hf2 := blk_frozen hbk2 (3 + m)
      have hqc2 := (set_keep (W := w4) (g := gW) (k := m) (i := 3 + m) (v := .pointer (some ⟨g, 0, none⟩)) ⟨cur, T, hbk⟩ (by omega)).trans hqc
      clear hbk hbk2 hvp hvq hqc
      go_wp2_with fail
      refine (ArY.num.calls _ _).mono ?_
      rintro e w5 ⟨rfl, hw5⟩
      have HW5 := Aside0.mk hw5
      clear hw5 hpc hqc2 hf1 hf2
      go_wp2_with fail
      go_ret
      obtain ⟨q', h1, h2⟩ := H2.out.made HE.out hm3 HN.out.1 HN.out.2.1 HN.out.2.2.1 HN.out.2.2.2.1 HN.out.2.2.2.2 HR.out.2.1 HR.out.1 HR.out.2.2 HW5.out
      exact ⟨by first | rfl | simp, q', h1.more (by omega), h2⟩
    · have HNC := Aside0.mk (ArX.new.bad w2 x (by omega))
      have HSZ := Aside0.mk hx
      clear hx
      go_wp2_with fail
      refine HNC.out.mono ?_
      clear HNC
      rintro e w3 ⟨rfl, n5⟩
      have HN := Aside0.mk n5
      have b3 := pw_cell_below n5 b3
      clear n5
      go_wp2_with fail
      refine (RfG.new.calls w3 x m).mono ?_
      rintro e w4 hnr
      have hnr' : e = .returned (.tuple #[.pointer none, .int .i64 20]) ∧ w4 = w3 := by
        rcases hnr with ⟨_, h1, h2⟩ | ⟨h1, h1', _⟩
        · exact ⟨h1, h2⟩
        · exact absurd ⟨h1, h1'⟩ HSZ.out
      clear hnr
      obtain ⟨rfl, hw4⟩ := hnr'
      have H4 := Aside0.mk (H2.out.below HN.out)
      rw [hw4]
      clear hw4
      have hpc := H4.out.pc m hm3
      obtain ⟨vp, hvp⟩ : ∃ vp, vp = pC q m := ⟨_, rfl⟩
      obtain ⟨vq, hvq⟩ : ∃ vq, vq = qC q m := ⟨_, rfl⟩
      have hqc := H4.out.qc m hm3
      rw [← hvp] at hpc
      rw [← hvq] at hqc
      obtain ⟨cur, T, hbk⟩ := H4.out.blk
      have hf1 := blk_frozen hbk m
      have hbk2 := blk_set hbk m (.pointer none)
      have hf2 := blk_frozen hbk2 (3 + m)
      have hqc2 := (set_keep (W := w3) (g := gW) (k := m) (i := 3 + m) (v := .pointer none) ⟨cur, T, hbk⟩ (by omega)).trans hqc
      clear hbk hbk2 hvp hvq hqc
      go_wp2_with fail
      refine (ArY.num.calls _ _).mono ?_
      rintro e w5 ⟨rfl, hw5⟩
      have HW5 := Aside0.mk hw5
      clear hw5 hpc hqc2 hf1 hf2
      go_wp2_with fail
      go_ret
      obtain ⟨q', h1, h2⟩ := H4.out.off HE.out hm3 HW5.out
      exact ⟨by first | rfl | simp, q', h1.more (by omega), h2⟩
  · have e1 : (K == 1) = false := by simp [k1]
    clear k1
    by_cases ho : q.on m = true
    · have hpc : w2.cell? ⟨gW, m, none⟩ = some (.pointer (some ⟨(q.d m).g, 0, none⟩)) := by rw [H2.out.pc m hm3]; unfold pC; rw [if_pos ho]
      have HO := Aside0.mk ho
      have HSZ2 := Aside0.mk (show (Try.prog.info? 80).map (·.size) = some (#[.int .i64 K, .int .i64 Bk, .int .i64 Sr, .int .i64 x, .int .i64 y, .int .i64 z, .int .u64 (V : Int), .slice Ad nb cd] : Array Value).size by kernel_rfl)
      clear ho
      go_wp2_with ((with_reducible refine gate_dst (N := 60) rfl ?_); refine wpList_load_row rfl 80 (.tmp 3) rfl ga rfl 80 #[.int .i64 K, .int .i64 Bk, .int .i64 Sr, .int .i64 x, .int .i64 y, .int .i64 z, .int .u64 (V : Int), .slice Ad nb cd] (0, 0) _ BA2.out Try.underlying80 rfl HSZ2.out ?_)
      refine (words.calls H2.out HE.out K Bk Sr x y z V HOP.out.hV Ad nb cd (by rw [← HM.out]; exact HO.out)).mono ?_
      rintro e w3 ⟨⟨rfl, q3, h3, he3, hon3⟩, hkp⟩
      have BA3 := Aside0.mk (blk_upd BA2.out hkp HNM.out)
      have HX3 := Aside0.mk (And.intro h3 (And.intro he3 hon3))
      clear h3 he3 hon3 hkp
      go_wp2_with ((with_reducible refine gate_dst (N := 65) rfl ?_); (try (refine gate_guard (by rfl) ?_; dsimp only)); refine wpList_load_row rfl 80 (.tmp 3) rfl ga rfl 80 #[.int .i64 K, .int .i64 Bk, .int .i64 Sr, .int .i64 x, .int .i64 y, .int .i64 z, .int .u64 (V : Int), .slice Ad nb cd] (0, 0) _ BA3.out Try.underlying80 rfl HSZ2.out ?_)
      refine (lists_all HX3.out.1 hn9 HX3.out.2.1 K Bk Sr x y z V Ad nb cd bs HOP.out (by rw [HX3.out.2.2, ← HM.out]; exact HO.out)).mono ?_
      rintro e w4 ⟨rfl, q4, h4, he4, -⟩
      have HX4 := Aside0.mk (And.intro h4 he4)
      clear h4 he4
      go_wp2_with fail
      go_ret
      exact ⟨rfl, q4, HX4.out.1, HX4.out.2⟩
    · have hpc : w2.cell? ⟨gW, m, none⟩ = some (.pointer none) := by rw [H2.out.pc m hm3]; unfold pC; rw [if_neg ho]
      clear ho
      go_wp2_with fail
      go_ret
      exact ⟨rfl, q, H2.out.more (by omega), HE.out⟩
end Go.Proofs.Ytgjcffjicbmkhaa.XrZ
end

section
namespace Go.Proofs.Ytgjcffjicbmkhaa.XrA
open Go Go.RowKit Go.Proofs.YtgjcffjicbmkhaaW.PrintWords Go.Proofs.YtgjcffjicbmkhaaW.PrintLast Go.Proofs.YtgjcffjicbmkhaaW.PrintMore Go.Proofs.Ytgjcffjicbmkhaa.RowU Go.Proofs.Ytgjcffjicbmkhaa.ArS Go.Proofs.Ytgjcffjicbmkhaa.ArM Go.Proofs.Ytgjcffjicbmkhaa.GenM Go.Proofs.Ytgjcffjicbmkhaa.BokA Go.Proofs.Ytgjcffjicbmkhaa.BokB Go.Proofs.Ytgjcffjicbmkhaa.ArP Go.Proofs.Ytgjcffjicbmkhaa.ArQ Go.Proofs.Ytgjcffjicbmkhaa.XrM Go.Proofs.Ytgjcffjicbmkhaa.XrX Go.Proofs.Ytgjcffjicbmkhaa.XrZ Go.Proofs.Ytgjcffjicbmkhaa.Open Go.Proofs.Ytgjcffjicbmkhaa.MemO Go.Proofs.Ytgjcffjicbmkhaa.BytO Go.Proofs.Ytgjcffjicbmkhaa.OpO Go.Proofs.Ytgjcffjicbmkhaa.OpP Go.Proofs.Ytgjcffjicbmkhaa.LoadA
set_option linter.unusedVariables false
set_option maxRecDepth 100000
theorem wf_i {x : Int} (h : gI x) : -9223372036854775808 ≤ x ∧ x < 9223372036854775808 := by
  unfold gI at h
  simp [Lit.wf, IntKind.min, IntKind.max, IntKind.signed, IntKind.bits] at h; omega
theorem op_open2 {W : World} {A : Option Addr} {n : Nat} {ls : List (Int × Int × Int × Int × Int × Int × Int × List Int)} (h : kOp.C W A n ls) (hg : ∀ y ∈ ls, gOp y) (i : Nat) (hi : i < ls.length) :
    ∃ (ad : Addr) (K Bk Sr x y z : Int) (V : Nat) (bs : List Nat) (Ad : Option Addr) (c : Nat), A = some ad ∧ OpK W x y z V Ad bs.length c bs ∧ ∀ j u, (opCells K Bk Sr x y z V Ad bs.length c)[j]? = some u → W.cell? ((ad.add (i * 8)).add j) = some u := by
  obtain ⟨ad, K, Bk, Sr, x, y, z, V, D, Ad, c, hA, hy, hl, hC, hc⟩ := op_cells h i hi
  obtain ⟨_, _, _, g3, g4, g5, gV, gD⟩ := hg _ (List.mem_of_getElem? hy)
  obtain ⟨v0, v1⟩ := wf_u64 gV
  obtain ⟨bs, hbs, hb⟩ := byte_nat D (fun q hq => wf_u8 (gD.2 q hq))
  have gl := gD.1
  simp only at v0 v1 gl g3 g4 g5
  obtain ⟨Vn, rfl⟩ := Int.eq_ofNat_of_zero_le v0
  subst hbs
  rw [List.length_map] at gl hl
  refine ⟨ad, K, Bk, Sr, x, y, z, Vn, bs, Ad, c, hA, ⟨wf_i g3, wf_i g4, wf_i g5, by omega, hb, by omega, rfl, hl, fun j q hq => byte_cell hC j q hq⟩, fun j u hu => hc j u ?_⟩
  rw [List.length_map]
  exact hu
def cells0 : Array Value := #[.pointer none, .pointer none, .pointer none, .pointer none, .pointer none, .pointer none, .slice none 0 0, .slice none 0 0, .int .i64 0, .slice none 0 0, .slice none 0 0, .int .i64 0, .slice none 0 0, .slice none 0 0, .int .i64 0, .slice none 0 0, .slice none 0 0, .int .i64 0, .slice none 0 0, .slice none 0 0, .int .i64 0, .slice none 0 0, .slice none 0 0, .int .i64 0, .slice none 0 0, .slice none 0 0, .int .i64 0, .slice none 0 0, .slice none 0 0, .int .i64 0, .slice none 0 0, .slice none 0 0, .int .i64 0, .slice none 0 0, .slice none 0 0, .int .i64 0, .int .i64 0, .int .i64 0, .int .i64 0, .slice none 0 0, .slice none 0 0, .slice none 0 0, .slice none 0 0, .slice none 0 0, .slice none 0 0, .slice none 0 0, .slice none 0 0, .slice none 0 0, .slice none 0 0, .slice none 0 0, .slice none 0 0, .slice none 0 0, .slice none 0 0, .slice none 0 0, .slice none 0 0, .slice none 0 0, .slice none 0 0, .slice none 0 0, .slice none 0 0, .slice none 0 0, .slice none 0 0, .slice none 0 0, .slice none 0 0, .slice none 0 0, .slice none 0 0, .slice none 0 0, .slice none 0 0, .slice none 0 0, .slice none 0 0, .slice none 0 0, .slice none 0 0, .slice none 0 0, .slice none 0 0, .slice none 0 0, .slice none 0 0, .slice none 0 0, .slice none 0 0, .slice none 0 0, .slice none 0 0, .slice none 0 0, .slice none 0 0, .slice none 0 0, .slice none 0 0, .slice none 0 0, .slice none 0 0, .slice none 0 0, .slice none 0 0, .slice none 0 0, .slice none 0 0, .slice none 0 0, .slice none 0 0, .slice none 0 0, .slice none 0 0, .slice none 0 0, .slice none 0 0, .slice none 0 0, .slice none 0 0, .slice none 0 0, .slice none 0 0, .slice none 0 0, .slice none 0 0, .slice none 0 0, .slice none 0 0]
theorem cells0_book (j : Nat) (hj : j < 33) : cells0[6 + j]? = some (bkC (.slice none 0 0) (.slice none 0 0) 0 (.slice none 0 0) (.slice none 0 0) 0 0 0 0 j) := by
  match j, hj with
  | 0, _ | 1, _ | 2, _ | 3, _ | 4, _ | 5, _ | 6, _ | 7, _ | 8, _ | 9, _ | 10, _ | 11, _ | 12, _ | 13, _ | 14, _ | 15, _ | 16, _ | 17, _ | 18, _ | 19, _ | 20, _ | 21, _ | 22, _ | 23, _ | 24, _ | 25, _ | 26, _ | 27, _ | 28, _ | 29, _ | 30, _ | 31, _ | 32, _ => rfl
  | n + 33, h => omega
theorem cells0_room (j : Nat) (hj : j < 64) : cells0[39 + j]? = some (.slice none 0 0) := by
  match j, hj with
  | 0, _ | 1, _ | 2, _ | 3, _ | 4, _ | 5, _ | 6, _ | 7, _ | 8, _ | 9, _ | 10, _ | 11, _ | 12, _ | 13, _ | 14, _ | 15, _ | 16, _ | 17, _ | 18, _ | 19, _ | 20, _ | 21, _ | 22, _ | 23, _ | 24, _ | 25, _ | 26, _ | 27, _ | 28, _ | 29, _ | 30, _ | 31, _ | 32, _ | 33, _ | 34, _ | 35, _ | 36, _ | 37, _ | 38, _ | 39, _ | 40, _ | 41, _ | 42, _ | 43, _ | 44, _ | 45, _ | 46, _ | 47, _ | 48, _ | 49, _ | 50, _ | 51, _ | 52, _ | 53, _ | 54, _ | 55, _ | 56, _ | 57, _ | 58, _ | 59, _ | 60, _ | 61, _ | 62, _ | 63, _ => rfl
  | n + 64, h => omega
theorem XC.start {W wr : World} {gW : Nat} (hb : Below W.heap.size W wr) (hg : W.heap.size ≤ gW) (h : wr.heap[gW]? = some (.cells cells0 102 (0, 0))) : ∃ q, XC W wr gW q 0 ∧ XE q := by
  have hc : ∀ j v, cells0[j]? = some v → wr.cell? ⟨gW, j, none⟩ = some v := fun j v hv => (blk_cell h j).trans hv
  refine ⟨⟨fun _ => ⟨0, 0, 0, 0, []⟩, fun _ => false, fun _ => 0, fun _ => .slice none 0 0, fun _ => [], Own.none_, fun _ => .slice none 0 0, Own.none_, .slice none 0 0, .slice none 0 0, [], 0, .slice none 0 0, .slice none 0 0, [], 0, 0, 0, 0⟩,
    ⟨⟨fun i _ ho => (by cases ho), fun i j _ _ _ ho _ => (by cases ho)⟩, fun k _ ho => (by cases ho), ?_, fun j hj => ?_, fun j hj => ?_, fun j hj => hc _ _ (cells0_room j hj), fun j hj => ⟨⟨[], GV.nil _ _⟩, fun b hb => (by cases hb)⟩, fun b e => absurd rfl e, fun b hp => ?_, fun b hm => ?_, hb, Nat.le_refl _⟩, fun k _ ho => (by cases ho)⟩
  · refine ⟨⟨⟨cells0, _, h⟩, fun j hj => hc _ _ (cells0_book j hj)⟩, ?_, ?_, fun b h => absurd rfl h, rfl, Nat.zero_le _⟩
    · exact ⟨GV.nil _ _, GV.nil _ _, fun b hb => (by cases hb), fun b hb => (by cases hb), fun e he => (by cases he), fun i e b hi => (by simp at hi), (by simp), (by simp), fun j e hj => (by simp at hj)⟩
    · exact ⟨GV.nil _ _, GV.nil _ _, fun b hb => (by cases hb), fun b hb => (by cases hb), fun e he => (by cases he), fun i e b hi => (by simp at hi), (by simp), (by simp), fun j e hj => (by simp at hj)⟩
  · match j, hj with
    | 0, _ | 1, _ | 2, _ => exact hc _ _ rfl
    | n + 3, h => omega
  · match j, hj with
    | 0, _ | 1, _ | 2, _ => exact hc _ _ rfl
    | n + 3, h => omega
  · obtain ⟨k, _, ho, _⟩ := hp
    cases ho
  · rcases hm with rfl | e | e | ⟨k, _, ho, _⟩
    · exact ⟨hg, cell_lt h⟩
    · exact absurd rfl e
    · exact absurd rfl e
    · cases ho
set_option maxHeartbeats 16000000 in
theorem walk (ls : List (Int × Int × Int × Int × Int × Int × Int × List Int)) (v : Value) (W : World) (hK : (Kd.slice 80 kOp).K W ls [v]) (hg : GoodL 80 gOp ls) :
    Calls Try.prog 8 #[v] W fun e w' => e = .returned (.bool true) ∧ Below W.heap.size W w' := by
  obtain ⟨A, c, hv, hl, hC⟩ := hK
  obtain rfl : v = .slice A ls.length c := by simpa using hv
  have HC := Aside0.mk hC
  have HG := Aside0.mk hg.2
  have hlen : ls.length ≤ 140737488351232 := by have := hg.1; omega
  clear hC hg hv
  go_enter Try.func8, Try.ntmps8
  go_wp2_with fail
  refine (BegW.begun.calls W).mono ?_
  rintro e w1 ⟨rfl, hb1⟩
  have HB1 := Aside0.mk hb1
  clear hb1
  go_upto_region 4 with ((with_reducible refine gate_dst (N := 9) rfl ?_); refine box_event ?hg (N := 9) ?hd (cs := #[.pointer none, .pointer none, .pointer none, .pointer none, .pointer none, .pointer none, .slice none 0 0, .slice none 0 0, .int .i64 0, .slice none 0 0, .slice none 0 0, .int .i64 0, .slice none 0 0, .slice none 0 0, .int .i64 0, .slice none 0 0, .slice none 0 0, .int .i64 0, .slice none 0 0, .slice none 0 0, .int .i64 0, .slice none 0 0, .slice none 0 0, .int .i64 0, .slice none 0 0, .slice none 0 0, .int .i64 0, .slice none 0 0, .slice none 0 0, .int .i64 0, .slice none 0 0, .slice none 0 0, .int .i64 0, .slice none 0 0, .slice none 0 0, .int .i64 0, .int .i64 0, .int .i64 0, .int .i64 0, .slice none 0 0, .slice none 0 0, .slice none 0 0, .slice none 0 0, .slice none 0 0, .slice none 0 0, .slice none 0 0, .slice none 0 0, .slice none 0 0, .slice none 0 0, .slice none 0 0, .slice none 0 0, .slice none 0 0, .slice none 0 0, .slice none 0 0, .slice none 0 0, .slice none 0 0, .slice none 0 0, .slice none 0 0, .slice none 0 0, .slice none 0 0, .slice none 0 0, .slice none 0 0, .slice none 0 0, .slice none 0 0, .slice none 0 0, .slice none 0 0, .slice none 0 0, .slice none 0 0, .slice none 0 0, .slice none 0 0, .slice none 0 0, .slice none 0 0, .slice none 0 0, .slice none 0 0, .slice none 0 0, .slice none 0 0, .slice none 0 0, .slice none 0 0, .slice none 0 0, .slice none 0 0, .slice none 0 0, .slice none 0 0, .slice none 0 0, .slice none 0 0, .slice none 0 0, .slice none 0 0, .slice none 0 0, .slice none 0 0, .slice none 0 0, .slice none 0 0, .slice none 0 0, .slice none 0 0, .slice none 0 0, .slice none 0 0, .slice none 0 0, .slice none 0 0, .slice none 0 0, .slice none 0 0, .slice none 0 0, .slice none 0 0, .slice none 0 0, .slice none 0 0, .slice none 0 0]) (t := 102) ?hr ?_; (case hd => rfl); (case hg => rfl); (case hr => first | (go_simp; done) | (go_simp; rfl)); intro gW hgW w2 hbox hb; have B1 := Aside0.mk hbox; have H1 := Aside0.mk hb; have G1 := Aside0.mk hgW; clear hbox hb hgW)
  obtain ⟨q0, hq0, he0⟩ := XC.start (below_next HB1.out H1.out) (by rw [G1.out]; exact HB1.out.size) B1.out
  have HQ0 := Aside0.mk (And.intro hq0 he0)
  clear hq0 he0 B1 H1 G1 HB1
  go_upto_region 5 with fail
  go_loopw [4] (fun i wr => ∃ (k : Nat) (q : XQ), k ≤ ls.length ∧ k ≤ 4096 ∧ i = .int .i64 k ∧ Aside0 (XC W wr gW q k ∧ XE q)) (fun i _ => ls.length - (intOf i).toNat)
  case atStart => exact ⟨0, q0, by omega, by omega, rfl, HQ0⟩
  case round =>
    obtain ⟨k, q, hk, hk4, rfl, HQ⟩ := hrel
    clear HQ0
    rename World => wr
    by_cases hlt : k < ls.length
    · have hlt' : (k : Int) < ls.length := by omega
      by_cases h4 : k < 4096
      · have h4' : (k : Int) < 4096 := by omega
        obtain ⟨ad, K, Bk, Sr, x, y, z, V, bs, Ad, cd, rfl, hop, cells⟩ := op_open2 HC.out HG.out k hlt
        have HKC : Aside0 (∀ j u, (opCells K Bk Sr x y z V Ad bs.length cd)[j]? = some u → wr.cell? ((ad.add (k * 8)).add j) = some u) := ⟨fun j u hu => (HQ.out.1.bel.cell (World.block_lt_of_cell? _ _ (cells j u hu))).trans (cells j u hu)⟩
        have HSZ := Aside0.mk (show (Try.prog.info? 80).map (·.size) = some 8 by kernel_rfl)
        have HST := Aside0.mk (step.calls HQ.out.1 (by omega) HQ.out.2 K Bk Sr x y z V Ad bs.length cd bs hop)
        clear hop cells
        go_wp2_with ((with_reducible refine gate_dst (N := 24) rfl ?_); refine wpList_load_at rfl 80 (.tmp 23) rfl (ad.add (k * 8)) rfl (opCells K Bk Sr x y z V Ad bs.length cd) _ HKC.out Try.underlying80 rfl HSZ.out ?_)
        refine HST.out.mono ?_
        clear HST HKC HSZ
        rintro e w4 ⟨rfl, q1, h1, he1⟩
        have HL := Aside0.mk (BokJ.look.calls h1.bk)
        have HX1 := Aside0.mk (And.intro h1 he1)
        clear h1 he1
        go_wp2_with fail
        refine HL.out.mono ?_
        clear HL
        rintro e w5 ⟨rfl, ow', vB', vBo', eB', aB', vW', vWo', eW', aW', done', hB, hS⟩
        have H5 := Aside0.mk (HX1.out.1.book (m := k + 1) hB hS (fun b hb => hb.elim) HX1.out.1.cnt)
        clear hB hS
        go_wp2_with fail
        exact ⟨⟨k + 1, _, by omega, by omega, by rw [Int.natCast_succ], ⟨H5.out, HX1.out.2⟩⟩, by simp only [intOf]; omega⟩
      · have h4' : ¬ (k : Int) < 4096 := by omega
        clear h4
        go_wp2_with fail
        go_ret
        exact ⟨rfl, HQ.out.1.bel⟩
    · have hlt' : ¬ (k : Int) < ls.length := by omega
      clear hlt
      go_wp2_with fail
      go_ret
      exact ⟨rfl, HQ.out.1.bel⟩
end Go.Proofs.Ytgjcffjicbmkhaa.XrA
end

section
namespace Go.Proofs.Ytgjcffjicbmkhaa.GreS
open Go Go.RowKit Go.Proofs.YtgjcffjicbmkhaaW.PrintWords Go.Proofs.YtgjcffjicbmkhaaW.PrintLast Go.Proofs.YtgjcffjicbmkhaaW.PrintMore Go.Proofs.Ytgjcffjicbmkhaa.RowU Go.Proofs.Ytgjcffjicbmkhaa.ArM Go.Proofs.Ytgjcffjicbmkhaa.Open Go.Proofs.Ytgjcffjicbmkhaa.MemO Go.Proofs.Ytgjcffjicbmkhaa.OpO
set_option linter.unusedVariables false
set_option maxRecDepth 100000
abbrev Tp : Type := Int × Int × Int × Int × Int × Int × Int × List Int
def dat : List Int := [48, 49, 50, 51, 52, 53, 54, 55, 56, 57, 97, 98, 99, 100, 101, 102]
def gl : List Tp := [(1, 0, 0, 300000, 0, 0, 0, []), (1, 1, 0, 200000, 0, 0, 0, []), (2, 0, 0, 3, 5000, 70000, 0, []), (3, 0, 0, 1, 0, 0, 0, []), (5, 0, 0, 1, 4999, 0, 7, []), (5, 0, 0, 1, 74999, 0, 9223372036854775808, []), (5, 0, 0, 1, 75000, 0, 1, []), (4, 0, 0, 1, 4999, 0, 0, []), (4, 0, 0, 1, 74999, 0, 0, []), (7, 0, 0, 1, 559984, 0, 0, dat), (7, 0, 0, 1, 559985, 0, 0, dat), (6, 0, 0, 1, 559976, 24, 0, []), (6, 0, 0, 1, 0, 560000, 0, []), (2, 0, 0, 2, 1, 100000, 0, []), (3, 0, 0, 75002, 0, 0, 0, []), (8, 1, 0, 1, 0, 0, 0, []), (9, 0, 0, 1, 0, 0, 0, []), (8, 1, 0, 75002, 0, 0, 0, []), (9, 0, 0, 75002, 0, 0, 0, []), (3, 1, 0, 1, 0, 0, 0, []), (4, 1, 0, 1, 74999, 0, 0, []), (6, 1, 0, 1, 559976, 24, 0, []), (11, 1, 0, 0, 0, 0, 0, []), (10, 0, 0, 0, 0, 0, 0, []), (2, 0, 0, 1, 0, 200000, 0, []), (10, 0, 0, 0, 0, 0, 0, []), (11, 0, 0, 0, 0, 0, 0, [])]
def opC (vD : Value) (t : Tp) : List Value := [.int .i64 t.1, .int .i64 t.2.1, .int .i64 t.2.2.1, .int .i64 t.2.2.2.1, .int .i64 t.2.2.2.2.1, .int .i64 t.2.2.2.2.2.1, .int .u64 t.2.2.2.2.2.2.1, match t.2.2.2.2.2.2.2 with | [] => .slice none 0 0 | _ :: _ => vD]
theorem flat_get {α : Type} (f : α → List Value) (hf : ∀ x, (f x).length = 8) : ∀ (l : List α) (j i : Nat) (x : α), l[j]? = some x → i < 8 → (l.flatMap f)[j * 8 + i]? = (f x)[i]? := by
  intro l
  induction l with
  | nil => intro j i x h; simp at h
  | cons y l ih =>
    intro j i x h hi
    rw [List.flatMap_cons]
    cases j with
    | zero =>
      obtain rfl : y = x := by simpa using h
      rw [List.getElem?_append_left (by rw [hf]; omega)]
      simp
    | succ j =>
      rw [List.getElem?_append_right (by rw [hf]; omega), hf, show (j + 1) * 8 + i - 8 = j * 8 + i by omega]
      exact ih j i x (by simpa using h) hi
theorem dat_C {w : World} {g : Nat} {fr : Nat × Nat} (h : w.heap[g]? = some (.cells (dat.map (Value.int .u8)).toArray 5 fr)) : (Kd.int .u8).C w (some ⟨g, 0, none⟩) 16 dat := by
  refine ⟨rfl, by decide, fun _ => ⟨_, rfl, fun j p hp => ⟨[.int .u8 p], rfl, rfl, fun i u hu => ?_⟩⟩⟩
  cases i with
  | zero =>
    simp at hu
    subst hu
    show w.cell? ((⟨g, 0, none⟩ : Addr).add (j * 1 + 0)) = _
    rw [Addr.add_lit, Nat.mul_one, Nat.add_zero, Nat.zero_add, cell_of_row _ _ _ _ _ _ h]
    simp [hp]
  | succ i => simp at hu
theorem gl_D : ∀ t ∈ gl, t.2.2.2.2.2.2.2 = [] ∨ t.2.2.2.2.2.2.2 = dat := by
  intro t ht
  simp only [gl, List.mem_cons, List.not_mem_nil, or_false] at ht
  rcases ht with rfl | rfl | rfl | rfl | rfl | rfl | rfl | rfl | rfl | rfl | rfl | rfl | rfl | rfl | rfl | rfl | rfl | rfl | rfl | rfl | rfl | rfl | rfl | rfl | rfl | rfl | rfl <;> first | exact .inl rfl | exact .inr rfl
theorem gl_C {w : World} {g2 g1 : Nat} {fr : Nat × Nat} (h1 : w.heap[g1]? = some (.cells (dat.map (Value.int .u8)).toArray 5 fr)) (h2 : w.heap[g2]? = some (.cells (gl.flatMap (opC (.slice (some ⟨g1, 0, none⟩) 16 16))).toArray 80 (0, 0))) : kOp.C w (some ⟨g2, 0, none⟩) 27 gl := by
  refine ⟨rfl, by decide, fun _ => ⟨_, rfl, fun j p hp => ⟨opC (.slice (some ⟨g1, 0, none⟩) 16 16) p, rfl, ?_, fun i u hu => ?_⟩⟩⟩
  · have hD := gl_D p (List.mem_of_getElem? hp)
    obtain ⟨a, b, c, d, e, f, k, D⟩ := p
    refine ⟨[_], [_, _, _, _, _, _, _], rfl, rfl, [_], [_, _, _, _, _, _], rfl, rfl, [_], [_, _, _, _, _], rfl, rfl, [_], [_, _, _, _], rfl, rfl, [_], [_, _, _], rfl, rfl, [_], [_, _], rfl, rfl, [_], [_], rfl, rfl, ?_⟩
    rcases hD with hD | hD
    · simp only at hD
      subst hD
      exact ⟨none, 0, rfl, Nat.le_refl _, rfl, Nat.zero_le _, fun h => absurd h (by simp)⟩
    · simp only at hD
      subst hD
      exact ⟨some ⟨g1, 0, none⟩, 16, rfl, Nat.le_refl _, dat_C h1⟩
  · have hi : i < 8 := by have := (List.getElem?_eq_some_iff.1 hu).1; simpa [opC] using this
    show w.cell? ((⟨g2, 0, none⟩ : Addr).add (j * 8 + i)) = _
    rw [Addr.add_lit, Nat.zero_add, blk_cell h2, List.getElem?_toArray, flat_get (opC (.slice (some ⟨g1, 0, none⟩) 16 16)) (fun _ => rfl) gl j i p hp hi]
    exact hu
theorem conv_at {w : World} (g : Nat) (hg : w.heap.size = g) (C : Array Value) (n c : Nat) :
    (convert 67 67 (.slice (some ⟨g, 0, none⟩) n c)).run Try.prog (w.alloc (.cells C 5)) = .ok (.slice (some ⟨g, 0, none⟩) n c) (w.alloc (.cells C 5 (C.size, C.size + 1))) := by
  subst hg
  exact Lib.run_convert_bytes_const (P := Try.prog) w 67 5 C n c Try.underlying67 Try.underlying5
theorem gl_good : GoodL 80 gOp gl := by
  refine ⟨by decide, fun y hy => ?_⟩
  simp only [gl, List.mem_cons, List.not_mem_nil, or_false] at hy
  rcases hy with rfl | rfl | rfl | rfl | rfl | rfl | rfl | rfl | rfl | rfl | rfl | rfl | rfl | rfl | rfl | rfl | rfl | rfl | rfl | rfl | rfl | rfl | rfl | rfl | rfl | rfl | rfl <;> exact ⟨rfl, rfl, rfl, rfl, rfl, rfl, rfl, by decide, by decide⟩
def glc (g : Nat) : Array Value := (gl.flatMap (opC (.slice (some ⟨g, 0, none⟩) 16 16))).toArray
theorem gl_K (W w : World) (hw : w = W.alloc (.cells (dat.map (Value.int .u8)).toArray 5 (16, 17))) : (Kd.slice 80 kOp).K (w.alloc (.cells (glc W.heap.size) 80)) gl [.slice (some ⟨w.heap.size, 0, none⟩) 27 27] := by
  have h2 : (w.alloc (.cells (glc W.heap.size) 80)).heap[w.heap.size]? = some (.cells (glc W.heap.size) 80 (0, 0)) := blk_new w _
  have h1 : (w.alloc (.cells (glc W.heap.size) 80)).heap[W.heap.size]? = some (.cells (dat.map (Value.int .u8)).toArray 5 (16, 17)) := by
    refine blk_below ?_ (below_alloc (Below.refl w.heap.size w) _)
    rw [hw]
    exact heap_alloc_new W _
  exact ⟨_, 27, rfl, Nat.le_refl _, gl_C h1 h2⟩
end Go.Proofs.Ytgjcffjicbmkhaa.GreS
end

section
namespace Go.Proofs.Ytgjcffjicbmkhaa.GreW
open Go Go.RowKit Go.Proofs.YtgjcffjicbmkhaaW.PrintWords Go.Proofs.YtgjcffjicbmkhaaW.PrintLast Go.Proofs.YtgjcffjicbmkhaaW.PrintMore Go.Proofs.Ytgjcffjicbmkhaa.RowU Go.Proofs.Ytgjcffjicbmkhaa.ArM Go.Proofs.Ytgjcffjicbmkhaa.Open Go.Proofs.Ytgjcffjicbmkhaa.MemO Go.Proofs.Ytgjcffjicbmkhaa.OpO Go.Proofs.Ytgjcffjicbmkhaa.GreS
set_option linter.unusedVariables false
set_option maxRecDepth 100000
theorem tail {ops : Array Oper} {Q : Exit → Act → World → Prop} {R : Ending → World → Prop} {K1 : Act → World → Prop} (w : World) (p1 p2 : String) (f1 f2 : Array Edge) (v0 v1 v2 v3 v4 v5 v6 v7 v8 v9 v10 v11 v12 v13 v14 v15 v16 v17 v18 v19 v20 v21 v22 v23 v24 v25 v26 v27 v28 v29 v30 v31 v32 v33 v34 v : Value)
    (hc : Calls Try.prog 8 #[v] w fun e w' => e = .returned (.bool true) ∧ R (.returned (.bool true)) w')
    (a1 : ∀ a w, Code.wp Try.prog Code.ret (bodyPost Try.prog Try.f9 R) a w → K1 a w) :
    wpList Try.prog ops (Exit.then K1 Q)
      [{ dst := some 34, op := Op.call { callee := Callee.value (Operand.func 8), args := #[Operand.tmp 33], argTypes := #[74] }, type := 4, pos := p1, after := f1, guard := none },
       { dst := some 0, op := Op.assign (Operand.tmp 34), type := 4, pos := p2, after := f2, guard := none }]
      (Act.put { tmps := #[v0, v1, v2, v3, v4, v5, v6, v7, v8, v9, v10, v11, v12, v13, v14, v15, v16, v17, v18, v19, v20, v21, v22, v23, v24, v25, v26, v27, v28, v29, v30, v31, v32, v33, v34], defers := [] } (some 33) v) w := by
  have HC := Aside0.mk hc
  clear hc
  show wpList Try.prog ops (Exit.then K1 Q) _ { tmps := #[v0, v1, v2, v3, v4, v5, v6, v7, v8, v9, v10, v11, v12, v13, v14, v15, v16, v17, v18, v19, v20, v21, v22, v23, v24, v25, v26, v27, v28, v29, v30, v31, v32, v, v34], defers := [] } w
  go_wp2_with fail
  refine HC.out.mono ?_
  rintro e w3 ⟨rfl, hb⟩
  have HB := Aside0.mk hb
  clear hb
  go_wp2_with fail
  exact HB.out
set_option maxHeartbeats 8000000 in
theorem walk (W : World) : Calls Try.prog 9 #[] W fun e w' => e = .returned (.bool true) ∧ Below W.heap.size W w' := by
  have HX : Aside0 (∀ w v, (Kd.slice 80 kOp).K w gl [v] → Calls Try.prog 8 #[v] w fun e w' => e = .returned (.bool true) ∧ Below w.heap.size w w') := ⟨fun w v h => XrA.walk gl v w h gl_good⟩
  go_enter Try.func9, Try.ntmps9
  have hc1 := conv_at (w := W) W.heap.size rfl (dat.map (Value.int .u8)).toArray 16 16
  simp only [dat, List.map_cons, List.map_nil] at hc1
  have hinfo : (Try.prog.info? 80).map (fun i => (i.zero, i.size)) = some (some (.agg #[.int .i64 0, .int .i64 0, .int .i64 0, .int .i64 0, .int .i64 0, .int .i64 0, .int .u64 0, .slice none 0 0]), 8) := by kernel_rfl
  obtain ⟨ie, hie, hz⟩ := Option.map_eq_some_iff.1 hinfo
  simp only [Prod.mk.injEq] at hz
  obtain ⟨hz0, hz1⟩ := hz
  have HIE := Aside0.mk (And.intro hie (And.intro hz0 hz1))
  clear hinfo hie hz0 hz1
  go_wp2_with fail
  refine Go.wp_buildSlice 74 80 27 _ rfl (glc W.heap.size) ie _ Try.underlying74 HIE.out.1 HIE.out.2.1 (by rw [HIE.out.2.2]; decide) (by rw [HIE.out.2.2]; decide) (by rw [HIE.out.2.2]; kernel_rfl) ?_
  rename_i Q1 K1 a1 K2 a2
  refine a2 _ _ ?_
  clear a2
  have HK := gl_K W _ rfl
  refine tail _ _ _ _ _ _ _ _ _ _ _ _ _ _ _ _ _ _ _ _ _ _ _ _ _ _ _ _ _ _ _ _ _ _ _ _ _ _ _ _ _ (R := fun e w' => e = .returned (.bool true) ∧ Below W.heap.size W w') ?_ a1
  refine (HX.out _ _ HK).mono ?_
  rintro e w3 ⟨rfl, hb⟩
  exact ⟨rfl, rfl, below_next (below_next (below_alloc (Below.refl W.heap.size W) _) (below_alloc (Below.refl _ _) _)) hb⟩
end Go.Proofs.Ytgjcffjicbmkhaa.GreW
end

section
namespace Go.Proofs.Ytgjcffjicbmkhaa.LawArenaGreat
open Go.ChangeShapes Go.WideShapes Go.ChangeAt Go.RowKit
open Go.ChangeMaps (open_string shut_string)
theorem own : ownKnob Try.prog.godebug = none := by kernel_rfl
theorem laidOut : laidOutB Try.prog = true := by kernel_rfl
set_option maxRecDepth 100000 in
theorem lifted (os : Os) (started : os.Started) (H : Type) (enc : TypeId × Value → H) :
    ReturnsInHanded {} Try.checked os 9 .any (Rows.arenaGreatSpec.pre6 enc Try.prog Try.f9 Rows.arenaGreatRow.domain false) (Rows.arenaGreatSpec.post enc Try.prog Try.f9 false true false false) := by
  refine returnsInHanded_of_change_sized (C := Try.checked) own started (by kernel_rfl) Try.func9
    (ChangeSpec.witness6 (enc := enc) (C := Try.checked) false ⟨#[], #[], []⟩ 9 (by kernel_rfl) (by kernel_rfl) (by kernel_rfl) (by kernel_rfl)) ?_
  intro W base args ds gs before hval0 hW _ hsz0 _
  have hsz : (DataW.weightsEach Try.prog (Try.f9.params.toList ++ Rows.arenaGreatSpec.plain.varTypes Try.prog) (ds ++ gs)).all (· ≤ reachBytes) = true := hsz0
  have hval : ∀ (j : Nat) t v, Try.f9.params[j]? = some t → args[j]? = some v → Value.okWide Try.prog W .any base t v := hval0
  have hW' := hW
  obtain ⟨p, q, hA0, hV, rfl, _, _⟩ := hW
  have hA : DataW.TrodAll enc Try.prog W 0 (fun _ => true) true Try.f9.params.toList args.toList ds p := hA0
  rw [Try.params9] at hA hval hsz
  obtain ⟨hn1, rfl, rfl⟩ := trodAll_nil hA
  obtain rfl : args = #[] := by cases args; simp_all
  obtain ⟨rfl, rfl⟩ := trodVars_none hV
  clear hA0 hval0 hsz0 hsz
  refine (GreW.walk W).mono fun e W' ⟨he, bel⟩ => ?_
  subst he
  exact ⟨_, rfl, _, _, _, [], _, [], hW', trodAll_mk1 (shut_bool Try.underlying4 _), trodAll_mk0, rfl, bel.frame _, fun h => by cases h⟩
theorem over : Rows.arenaGreatRow.holds Try.pinned (OpenSpec.ofChange Rows.arenaGreatSpec) :=
  OpenClaim.holds_of_wide 9 Try.f9 rfl rfl rfl rfl rfl rfl rfl ⟨rfl, rfl, rfl, rfl, rfl⟩ rfl rfl rfl rfl rfl (by kernel_rfl) Try.func9 (by kernel_rfl)
    (of_decide_eq_true (by kernel_rfl)) (by unfold Func.isWrapper; first | (rw [if_pos (by decide +kernel)]; kernel_rfl) | (rw [if_neg (by decide +kernel)]; exact ⟨rfl, rfl⟩))
    (fun os started H enc _ => lifted os started H enc)
theorem proved : Rows.ArenaGreatSaid := over
#print axioms proved
end Go.Proofs.Ytgjcffjicbmkhaa.LawArenaGreat
namespace Go.Proofs.Ytgjcffjicbmkhaa
theorem arenaGreat_holds : Rows.ArenaGreatSaid := LawArenaGreat.proved
end Go.Proofs.Ytgjcffjicbmkhaa
end
