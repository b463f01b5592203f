/- larderlaw1.packed of a Words, a Pack, an Unpack: the machine's call answers true. -/
import Derived.Test.YtgngpbcbnfmoiaaRefS
import Derived.Test.YtgngpbcbnfmoiaaIntactW
namespace Go.Proofs.Ytgngpbcbnfmoiaa.PL
open Go Go.RowKit Go.Proofs.YtgngpbcbnfmoiaaW.PrintWords Go.Proofs.YtgngpbcbnfmoiaaW.PrintLast Go.Proofs.YtgngpbcbnfmoiaaW.PrintMore Go.Proofs.Ytgngpbcbnfmoiaa.PA Go.Proofs.Ytgngpbcbnfmoiaa.WordS
set_option linter.unusedVariables false
set_option linter.unusedSimpArgs false

abbrev opV (a0 a1 a2 a3 a4 a5 a6 : Int) (A7 : Option Addr) (c7 : Nat) (l7 : List Int) (A8 : Option Addr) (c8 : Nat) (l8 : List Int) : Value :=
  .agg #[.int .i64 a0, .int .i64 a1, .int .i64 a2, .int .i64 a3, .int .i64 a4, .int .i64 a5, .int .u64 a6, .slice A7 l7.length c7, .slice A8 l8.length c8]

set_option maxHeartbeats 1600000 in
set_option maxRecDepth 100000 in
theorem packed3 (a1 a2 a3 a4 a5 a6 : Int) (A7 : Option Addr) (c7 : Nat) (l7 : List Int) (A8 : Option Addr) (c8 : Nat) (l8 : List Int) (w : World) (h1 : -9223372036854775808 ≤ a1 ∧ a1 < 9223372036854775808) :
    Calls Try.prog 68 #[opV 3 a1 a2 a3 a4 a5 a6 A7 c7 l7 A8 c8 l8] w fun e w' => e = .returned (.bool true) ∧ Below w.heap.size w w' := by
  have HW := Aside0.mk (words_some a1 h1)
  have HR := Aside0.mk ((RefS.Words a1 h1).trans (words_some a1 h1))
  generalize (if a1 < 1 then (0 : Int) else (a1 - 1) / 8 + 1) = r at HW HR
  have hrr : (r == r) = true := by simp
  go_enter Try.func68, Try.ntmps68
  have HB := Aside0.mk (Below.refl w.heap.size w)
  go_wp2_with (first | ((with_reducible refine gate_dst (N := 1) rfl ?_); refine box_event ?hg (N := 1) ?hd (cs := #[.int .i64 3, .int .i64 a1, .int .i64 a2, .int .i64 a3, .int .i64 a4, .int .i64 a5, .int .u64 a6, .slice A7 l7.length c7, .slice A8 l8.length c8]) (t := 71) ?hr ?_; (case hd => rfl); (case hg => rfl); (case hr => first | (go_simp; done) | (go_simp; rfl)); intro gb hg w5 hbox hb; have n0_ := Aside0.mk (below_step (by repeat (first | (with_reducible first | exact HB.out | apply below_alloc | apply pw_below_drewN | apply below_drew1) | exact HB.out)) hb); have n1_ := Aside0.mk (hbox); have GW := Aside0.mk ((by rw [hg]; exact (below_size (by repeat (first | (with_reducible first | exact HB.out | apply below_alloc | apply pw_below_drewN | apply below_drew1) | exact HB.out)))) : w.heap.size ≤ gb); clear HB; have HB := n0_; have BK := n1_; clear n0_ n1_; clear hb hbox hg; have hcz0 : w5.cell? ⟨gb, 0, none⟩ = some (.int .i64 3) := (blk_cell BK.out 0).trans rfl; have hcz1 : w5.cell? ⟨gb, 1, none⟩ = some (.int .i64 a1) := (blk_cell BK.out 1).trans rfl; have hcz4 : w5.cell? ⟨gb, 4, none⟩ = some (.int .i64 a4) := (blk_cell BK.out 4).trans rfl; have hcz5 : w5.cell? ⟨gb, 5, none⟩ = some (.int .i64 a5) := (blk_cell BK.out 5).trans rfl; have hcz6 : w5.cell? ⟨gb, 6, none⟩ = some (.int .u64 a6) := (blk_cell BK.out 6).trans rfl; have hcz7 : w5.cell? ⟨gb, 7, none⟩ = some (.slice A7 l7.length c7) := (blk_cell BK.out 7).trans rfl; have hcz8 : w5.cell? ⟨gb, 8, none⟩ = some (.slice A8 l8.length c8) := (blk_cell BK.out 8).trans rfl))
  go_quiet (first | (go_at_call 24; (with_reducible refine (word_Words.calls a1 r _ HW.out).mono ?_); rintro e w' ⟨rfl, ⟨nd, rfl⟩⟩; (try first | exact ⟨rfl, _, World.drewN_drewN _ _ _⟩ | exact ⟨rfl, _, Eq.trans (World.drewN_drewN _ _ _) (congrArg (World.drewN _) (Nat.add_assoc _ _ _))⟩)) | (go_at_call 59; (with_reducible refine (larderref1_Words.calls a1 r _ HR.out).mono ?_); rintro e w' ⟨rfl, ⟨nd, rfl⟩⟩; (try first | exact ⟨rfl, _, World.drewN_drewN _ _ _⟩ | exact ⟨rfl, _, Eq.trans (World.drewN_drewN _ _ _) (congrArg (World.drewN _) (Nat.add_assoc _ _ _))⟩)))
  go_wp2
  go_ret
  exact ⟨rfl, by repeat (first | (with_reducible first | exact HB.out | apply below_alloc | apply pw_below_drewN | apply below_drew1) | exact HB.out)⟩

theorem pack_bound (l : List Int) (h : l.length ≤ 140737488351232) : (pack l).length < 9223372036854775807 := by rw [pack_len]; omega

set_option maxHeartbeats 1600000 in
set_option maxRecDepth 100000 in
theorem packed4 (a1 a2 a3 a4 a5 a6 : Int) (A7 : Option Addr) (c7 : Nat) (l7 : List Int) (A8 : Option Addr) (c8 : Nat) (l8 : List Int) (w : World) (hr7 : Kd.C (Kd.int .u8) w A7 l7.length l7) (hc7 : l7.length ≤ c7) (hr8 : Kd.C (Kd.int .u64) w A8 l8.length l8) (hi7 : inB l7) (hl7 : l7.length ≤ 140737488351232) :
    Calls Try.prog 68 #[opV 4 a1 a2 a3 a4 a5 a6 A7 c7 l7 A8 c8 l8] w fun e w' => e = .returned (.bool true) ∧ Below w.heap.size w w' := by
  obtain ⟨k1, hk1⟩ := Ev.rounds (Pack l7 hi7 (by omega))
  obtain ⟨k2, hk2⟩ := Ev.rounds (RefS.Pack l7 hi7 hl7)
  obtain ⟨k3, hk3⟩ := Ev.rounds (RefS.sameWords (pack l7) (pack_bound l7 hl7))
  have K1 := Aside0.mk hk1
  have K2 := Aside0.mk hk2
  have K3 := Aside0.mk hk3
  have H7w := Aside0.mk hr7
  have H8w := Aside0.mk hr8
  have HB := Aside0.mk (Below.refl w.heap.size w)
  clear hk1 hk2 hk3 hr7 hr8
  go_enter Try.func68, Try.ntmps68
  go_wp2_with (first | ((with_reducible refine gate_dst (N := 1) rfl ?_); refine box_event ?hg (N := 1) ?hd (cs := #[.int .i64 4, .int .i64 a1, .int .i64 a2, .int .i64 a3, .int .i64 a4, .int .i64 a5, .int .u64 a6, .slice A7 l7.length c7, .slice A8 l8.length c8]) (t := 71) ?hr ?_; (case hd => rfl); (case hg => rfl); (case hr => first | (go_simp; done) | (go_simp; rfl)); intro gb hg w5 hbox hb; have n0_ := Aside0.mk (below_step (by repeat (first | (with_reducible first | exact HB.out | apply below_alloc | apply pw_below_drewN | apply below_drew1) | exact HB.out)) hb); have n1_ := Aside0.mk (hbox); have GW := Aside0.mk ((by rw [hg]; exact (below_size (by repeat (first | (with_reducible first | exact HB.out | apply below_alloc | apply pw_below_drewN | apply below_drew1) | exact HB.out)))) : w.heap.size ≤ gb); clear HB; have HB := n0_; have BK := n1_; clear n0_ n1_; clear hb hbox hg; have hcz0 : w5.cell? ⟨gb, 0, none⟩ = some (.int .i64 4) := (blk_cell BK.out 0).trans rfl; have hcz1 : w5.cell? ⟨gb, 1, none⟩ = some (.int .i64 a1) := (blk_cell BK.out 1).trans rfl; have hcz4 : w5.cell? ⟨gb, 4, none⟩ = some (.int .i64 a4) := (blk_cell BK.out 4).trans rfl; have hcz5 : w5.cell? ⟨gb, 5, none⟩ = some (.int .i64 a5) := (blk_cell BK.out 5).trans rfl; have hcz6 : w5.cell? ⟨gb, 6, none⟩ = some (.int .u64 a6) := (blk_cell BK.out 6).trans rfl; have hcz7 : w5.cell? ⟨gb, 7, none⟩ = some (.slice A7 l7.length c7) := (blk_cell BK.out 7).trans rfl; have hcz8 : w5.cell? ⟨gb, 8, none⟩ = some (.slice A8 l8.length c8) := (blk_cell BK.out 8).trans rfl))
  refine (lend.calls A7 c7 l7 _ (Kd.C_below H7w.out HB.out) hc7 (by omega)).mono ?_
  rintro e w6 ⟨v6, rfl, hL, hb⟩
  have hcz1' := pw_cell_below hb hcz1; have hcz7' := pw_cell_below hb hcz7; have hcz8' := pw_cell_below hb hcz8; clear hcz1 hcz7 hcz8; have hcz1 := hcz1'; have hcz7 := hcz7'; have hcz8 := hcz8'; clear hcz1' hcz7' hcz8'; have n2_ := Aside0.mk (below_step HB.out hb); clear HB; have HB := n2_; clear n2_
  have HL := Aside0.mk hL
  clear hL hb
  obtain ⟨A, c, rfl, hc3, hC3, hC⟩ := HL.out.reads
  have hcc : l7.length ≤ c := by omega
  have HC := Aside0.mk hC
  clear hC hC3
  go_wp2_with fail
  refine (word_Pack.calls k1 A c l7 (pack l7) _ HC.out hcc K1.out).mono ?_
  rintro e w7 ⟨v7, rfl, hR, hb⟩
  have hcz1' := pw_cell_below hb hcz1; have hcz7' := pw_cell_below hb hcz7; have hcz8' := pw_cell_below hb hcz8; clear hcz1 hcz7 hcz8; have hcz1 := hcz1'; have hcz7 := hcz7'; have hcz8 := hcz8'; clear hcz1' hcz7' hcz8'; have n2_ := Aside0.mk (below_step HB.out hb); clear HB; have HB := n2_; clear n2_
  have HL2 := Aside0.mk (HL.out.below hb)
  have HR := Aside0.mk hR
  clear hb hR HC HL
  obtain ⟨Ap, cp, rfl, hcp, hCp⟩ := Kd.R_reads HR.out
  have HCp := Aside0.mk hCp
  clear hCp
  go_wp2_with fail
  refine (larderref1_Pack.calls k2 A7 c7 l7 (pack l7) _ (Kd.C_below H7w.out HB.out) hc7 K2.out).mono ?_
  rintro e w8 ⟨v8, rfl, hR, hb⟩
  have hcz1' := pw_cell_below hb hcz1; have hcz7' := pw_cell_below hb hcz7; have hcz8' := pw_cell_below hb hcz8; clear hcz1 hcz7 hcz8; have hcz1 := hcz1'; have hcz7 := hcz7'; have hcz8 := hcz8'; clear hcz1' hcz7' hcz8'; have n2_ := Aside0.mk (below_step HB.out hb); clear HB; have HB := n2_; clear n2_
  have HL3 := Aside0.mk (HL2.out.below hb)
  have HCp2 := Aside0.mk (Kd.C_below HCp.out hb)
  have HR2 := Aside0.mk hR
  clear hb hR HL2 HCp
  obtain ⟨Aq, cq, rfl, hcq, hCq⟩ := Kd.R_reads HR2.out
  have HCq := Aside0.mk hCq
  clear hCq
  go_wp2_with fail
  refine (larderlaw1_sameWords.calls k3 Ap cp (pack l7) Aq cq (pack l7) true _ HCp2.out hcp HCq.out hcq K3.out).mono ?_
  rintro e w9 ⟨rfl, hd⟩
  have hb := hd.below
  have hcz1' := pw_cell_below hb hcz1; have hcz7' := pw_cell_below hb hcz7; have hcz8' := pw_cell_below hb hcz8; clear hcz1 hcz7 hcz8; have hcz1 := hcz1'; have hcz7 := hcz7'; have hcz8 := hcz8'; clear hcz1' hcz7' hcz8'; have n2_ := Aside0.mk (below_step HB.out hb); clear HB; have HB := n2_; clear n2_
  have HL4 := Aside0.mk (HL3.out.below hb)
  clear hb hd HL3
  go_wp2_with fail
  refine (intact.calls l7 _ _ A7 c7 _ HL4.out (Kd.C_below H7w.out HB.out) hc7).mono ?_
  rintro e w10 ⟨rfl, rfl⟩
  go_wp2
  go_ret
  exact ⟨rfl, HB.out⟩

theorem same_refl (l : List Int) : larderlaw1_sameBytes.f l l = some true := by
  unfold larderlaw1_sameBytes.f
  simp

theorem unpack_both (w : List Int) (hw : inW w) (hl : w.length ≤ 17592186043904) (n : Int) (hn : -9223372036854775808 ≤ n ∧ n < 9223372036854775808) :
    ∃ (r1 : List Int) (r2 : Int), Ev (fun k => word_Unpack.f k w n) (r1, r2) ∧ Ev (fun k => larderref1_Unpack.f k w n) (r1, r2) := by
  by_cases c : n < 0 ∨ 8 * (w.length : Int) < n
  · exact ⟨_, _, Unpack_bad w n hn c, RefS.Unpack_bad w n hn c⟩
  · obtain ⟨m, rfl⟩ := Int.eq_ofNat_of_zero_le (show 0 ≤ n by omega)
    exact ⟨_, _, Unpack_ok w m (by omega) (by omega), RefS.Unpack_ok w hw m (by omega) (by omega) (by omega)⟩

set_option maxHeartbeats 1600000 in
set_option maxRecDepth 100000 in
theorem packed5 (a1 a2 a3 a4 a5 a6 : Int) (A7 : Option Addr) (c7 : Nat) (l7 : List Int) (A8 : Option Addr) (c8 : Nat) (l8 : List Int) (w : World) (h1 : -9223372036854775808 ≤ a1 ∧ a1 < 9223372036854775808) (hr8 : Kd.C (Kd.int .u64) w A8 l8.length l8) (hc8 : l8.length ≤ c8) (hi8 : inW l8) (hl8 : l8.length ≤ 17592186043904) :
    Calls Try.prog 68 #[opV 5 a1 a2 a3 a4 a5 a6 A7 c7 l7 A8 c8 l8] w fun e w' => e = .returned (.bool true) ∧ Below w.heap.size w w' := by
  obtain ⟨r1, r2, hu1, hu2⟩ := unpack_both l8 hi8 hl8 a1 h1
  obtain ⟨k1, hk1⟩ := Ev.rounds hu1
  obtain ⟨k2, hk2⟩ := Ev.rounds hu2
  have K1 := Aside0.mk hk1
  have K2 := Aside0.mk hk2
  have H8w := Aside0.mk hr8
  have HB := Aside0.mk (Below.refl w.heap.size w)
  have hrr : (r2 == r2) = true := by simp
  clear hk1 hk2 hr8 hu1 hu2
  go_enter Try.func68, Try.ntmps68
  go_wp2_with (first | ((with_reducible refine gate_dst (N := 1) rfl ?_); refine box_event ?hg (N := 1) ?hd (cs := #[.int .i64 5, .int .i64 a1, .int .i64 a2, .int .i64 a3, .int .i64 a4, .int .i64 a5, .int .u64 a6, .slice A7 l7.length c7, .slice A8 l8.length c8]) (t := 71) ?hr ?_; (case hd => rfl); (case hg => rfl); (case hr => first | (go_simp; done) | (go_simp; rfl)); intro gb hg w5 hbox hb; have n0_ := Aside0.mk (below_step (by repeat (first | (with_reducible first | exact HB.out | apply below_alloc | apply pw_below_drewN | apply below_drew1) | exact HB.out)) hb); have n1_ := Aside0.mk (hbox); have GW := Aside0.mk ((by rw [hg]; exact (below_size (by repeat (first | (with_reducible first | exact HB.out | apply below_alloc | apply pw_below_drewN | apply below_drew1) | exact HB.out)))) : w.heap.size ≤ gb); clear HB; have HB := n0_; have BK := n1_; clear n0_ n1_; clear hb hbox hg; have hcz0 : w5.cell? ⟨gb, 0, none⟩ = some (.int .i64 5) := (blk_cell BK.out 0).trans rfl; have hcz1 : w5.cell? ⟨gb, 1, none⟩ = some (.int .i64 a1) := (blk_cell BK.out 1).trans rfl; have hcz4 : w5.cell? ⟨gb, 4, none⟩ = some (.int .i64 a4) := (blk_cell BK.out 4).trans rfl; have hcz5 : w5.cell? ⟨gb, 5, none⟩ = some (.int .i64 a5) := (blk_cell BK.out 5).trans rfl; have hcz6 : w5.cell? ⟨gb, 6, none⟩ = some (.int .u64 a6) := (blk_cell BK.out 6).trans rfl; have hcz7 : w5.cell? ⟨gb, 7, none⟩ = some (.slice A7 l7.length c7) := (blk_cell BK.out 7).trans rfl; have hcz8 : w5.cell? ⟨gb, 8, none⟩ = some (.slice A8 l8.length c8) := (blk_cell BK.out 8).trans rfl))
  refine (lendWords.calls A8 c8 l8 _ (Kd.C_below H8w.out HB.out) hc8 (by omega)).mono ?_
  rintro e w6 ⟨v6, rfl, hL, hb⟩
  have hcz1' := pw_cell_below hb hcz1; have hcz7' := pw_cell_below hb hcz7; have hcz8' := pw_cell_below hb hcz8; clear hcz1 hcz7 hcz8; have hcz1 := hcz1'; have hcz7 := hcz7'; have hcz8 := hcz8'; clear hcz1' hcz7' hcz8'; have n2_ := Aside0.mk (below_step HB.out hb); clear HB; have HB := n2_; clear n2_
  have HL := Aside0.mk hL
  clear hL hb
  obtain ⟨A, c, rfl, hc3, hC3, hC⟩ := HL.out.reads
  have hcc : l8.length ≤ c := by omega
  have HC := Aside0.mk hC
  clear hC hC3
  go_wp2_with fail
  refine (word_Unpack.calls k1 A c l8 a1 r1 r2 _ HC.out hcc K1.out).mono ?_
  rintro e w7 ⟨v7, rfl, hR, hb⟩
  have hcz1' := pw_cell_below hb hcz1; have hcz7' := pw_cell_below hb hcz7; have hcz8' := pw_cell_below hb hcz8; clear hcz1 hcz7 hcz8; have hcz1 := hcz1'; have hcz7 := hcz7'; have hcz8 := hcz8'; clear hcz1' hcz7' hcz8'; have n2_ := Aside0.mk (below_step HB.out hb); clear HB; have HB := n2_; clear n2_
  have HL2 := Aside0.mk (HL.out.below hb)
  have HR := Aside0.mk hR
  clear hb hR HC HL
  obtain ⟨Ap, cp, rfl, hcp, hCp⟩ := Kd.R_reads HR.out
  have HCp := Aside0.mk hCp
  clear hCp
  go_wp2_with fail
  refine (larderref1_Unpack.calls k2 A8 c8 l8 a1 r1 r2 _ (Kd.C_below H8w.out HB.out) hc8 K2.out).mono ?_
  rintro e w8 ⟨v8, rfl, hR, hb⟩
  have hcz1' := pw_cell_below hb hcz1; have hcz7' := pw_cell_below hb hcz7; have hcz8' := pw_cell_below hb hcz8; clear hcz1 hcz7 hcz8; have hcz1 := hcz1'; have hcz7 := hcz7'; have hcz8 := hcz8'; clear hcz1' hcz7' hcz8'; have n2_ := Aside0.mk (below_step HB.out hb); clear HB; have HB := n2_; clear n2_
  have HL3 := Aside0.mk (HL2.out.below hb)
  have HCp2 := Aside0.mk (Kd.C_below HCp.out hb)
  have HR2 := Aside0.mk hR
  clear hb hR HL2 HCp
  obtain ⟨Aq, cq, rfl, hcq, hCq⟩ := Kd.R_reads HR2.out
  have HCq := Aside0.mk hCq
  clear hCq
  go_wp2_with fail
  refine (larderlaw1_sameBytes.calls Ap cp r1 Aq cq r1 true _ HCp2.out hcp HCq.out hcq (same_refl r1)).mono ?_
  rintro e w9 ⟨rfl, hd⟩
  have hb := hd.below
  have hcz1' := pw_cell_below hb hcz1; have hcz7' := pw_cell_below hb hcz7; have hcz8' := pw_cell_below hb hcz8; clear hcz1 hcz7 hcz8; have hcz1 := hcz1'; have hcz7 := hcz7'; have hcz8 := hcz8'; clear hcz1' hcz7' hcz8'; have n2_ := Aside0.mk (below_step HB.out hb); clear HB; have HB := n2_; clear n2_
  have HL4 := Aside0.mk (HL3.out.below hb)
  clear hb hd HL3
  go_wp2_with fail
  refine (larderlaw1_num.calls r2 r2 _ rfl).mono ?_
  rintro e w10 ⟨rfl, hd⟩
  have hb := hd.below
  have hcz1' := pw_cell_below hb hcz1; have hcz7' := pw_cell_below hb hcz7; have hcz8' := pw_cell_below hb hcz8; clear hcz1 hcz7 hcz8; have hcz1 := hcz1'; have hcz7 := hcz7'; have hcz8 := hcz8'; clear hcz1' hcz7' hcz8'; have n2_ := Aside0.mk (below_step HB.out hb); clear HB; have HB := n2_; clear n2_
  have HL5 := Aside0.mk (HL4.out.below hb)
  clear hb hd HL4
  go_wp2_with fail
  refine (intactWords.calls l8 _ _ A8 c8 _ HL5.out (Kd.C_below H8w.out HB.out) hc8).mono ?_
  rintro e w11 ⟨rfl, hd⟩
  have hb := hd.below
  have n2_ := Aside0.mk (below_step HB.out hb)
  clear HB hb hd
  go_wp2
  go_ret
  exact ⟨rfl, n2_.out⟩
end Go.Proofs.Ytgngpbcbnfmoiaa.PL
