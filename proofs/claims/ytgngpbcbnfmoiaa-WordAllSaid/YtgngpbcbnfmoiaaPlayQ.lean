/- larderlaw1.plays of Words, Pack, Unpack, Hash, Sum: the machine's call answers true. -/
import Derived.Test.YtgngpbcbnfmoiaaPackW
import Derived.Test.YtgngpbcbnfmoiaaArgsW
namespace Go.Proofs.Ytgngpbcbnfmoiaa.PQ
open Go Go.RowKit Go.Proofs.YtgngpbcbnfmoiaaW.PrintWords Go.Proofs.YtgngpbcbnfmoiaaW.PrintLast Go.Proofs.YtgngpbcbnfmoiaaW.PrintMore Go.Proofs.Ytgngpbcbnfmoiaa.PA Go.Proofs.Ytgngpbcbnfmoiaa.PD Go.Proofs.Ytgngpbcbnfmoiaa.WordS Go.Proofs.Ytgngpbcbnfmoiaa.PL Go.Proofs.Ytgngpbcbnfmoiaa.ArgsW
set_option linter.unusedVariables false
set_option linter.unusedSimpArgs false

def goodOp (a1 a4 a5 a6 : Int) (l7 l8 : List Int) : Prop := gI a1 ∧ gI a4 ∧ gI a5 ∧ gU a6 ∧ gBytes l7 ∧ gWords l8
instance (a1 a4 a5 a6 : Int) (l7 l8 : List Int) : Decidable (goodOp a1 a4 a5 a6 l7 l8) := by unfold goodOp gI gU gBytes gWords Open.GoodL; infer_instance
/-- What is played here: true at a Words, Pack, Unpack, Hash, Sum. -/
def larderlaw1_plays.f (a0 a1 a2 a3 a4 a5 a6 : Int) (l7 l8 : List Int) : Option Bool :=
  if (a0 = 3 ∨ a0 = 4 ∨ a0 = 5 ∨ a0 = 11 ∨ a0 = 12) ∧ goodOp a1 a4 a5 a6 l7 l8 then some true else none
theorem gWords_in {l : List Int} (h : gWords l) : inW l := fun c hc => wf_u64 (h.2 c hc)
theorem gWords_len {l : List Int} (h : gWords l) : l.length ≤ 17592186043904 := by have := h.1; omega

section
variable (a1 a2 a3 a4 a5 a6 : Int) (A7 : Option Addr) (c7 : Nat) (l7 : List Int) (A8 : Option Addr) (c8 : Nat) (l8 : List Int) (w : World)

set_option maxHeartbeats 1600000 in
set_option maxRecDepth 100000 in
theorem plays3 (hg : goodOp a1 a4 a5 a6 l7 l8) (hr7 : Kd.C (Kd.int .u8) w A7 l7.length l7) (hc7 : l7.length ≤ c7) (hr8 : Kd.C (Kd.int .u64) w A8 l8.length l8) (hc8 : l8.length ≤ c8) :
    Calls Try.prog 58 #[opV 3 a1 a2 a3 a4 a5 a6 A7 c7 l7 A8 c8 l8] w fun e w' => e = .returned (.bool true) ∧ Below w.heap.size w w' := by
  have G := Aside0.mk hg
  have H7w := Aside0.mk hr7
  have H8w := Aside0.mk hr8
  have HB := Aside0.mk (Below.refl w.heap.size w)
  clear hg hr7 hr8
  go_enter Try.func58, Try.ntmps58
  go_wp2_with (first | ((with_reducible refine gate_dst (N := 1) rfl ?_); refine box_event ?hg (N := 1) ?hd (cs := #[.int .i64 3, .int .i64 a1, .int .i64 a2, .int .i64 a3, .int .i64 a4, .int .i64 a5, .int .u64 a6, .slice A7 l7.length c7, .slice A8 l8.length c8]) (t := 71) ?hr ?_; (case hd => rfl); (case hg => rfl); (case hr => first | (go_simp; done) | (go_simp; rfl)); intro gb hg w5 hbox hb; have n0_ := Aside0.mk (below_step (by repeat (first | (with_reducible first | exact HB.out | apply below_alloc | apply pw_below_drewN | apply below_drew1) | exact HB.out)) hb); have n1_ := Aside0.mk (hbox); have GW := Aside0.mk ((by rw [hg]; exact (below_size (by repeat (first | (with_reducible first | exact HB.out | apply below_alloc | apply pw_below_drewN | apply below_drew1) | exact HB.out)))) : w.heap.size ≤ gb); clear HB; have HB := n0_; have BK := n1_; clear n0_ n1_; clear hb hbox hg; have hcz0 : w5.cell? ⟨gb, 0, none⟩ = some (.int .i64 3) := (blk_cell BK.out 0).trans rfl; have hcz1 : w5.cell? ⟨gb, 1, none⟩ = some (.int .i64 a1) := (blk_cell BK.out 1).trans rfl; have hcz2 : w5.cell? ⟨gb, 2, none⟩ = some (.int .i64 a2) := (blk_cell BK.out 2).trans rfl; have hcz3 : w5.cell? ⟨gb, 3, none⟩ = some (.int .i64 a3) := (blk_cell BK.out 3).trans rfl; have hcz4 : w5.cell? ⟨gb, 4, none⟩ = some (.int .i64 a4) := (blk_cell BK.out 4).trans rfl; have hcz5 : w5.cell? ⟨gb, 5, none⟩ = some (.int .i64 a5) := (blk_cell BK.out 5).trans rfl; have hcz6 : w5.cell? ⟨gb, 6, none⟩ = some (.int .u64 a6) := (blk_cell BK.out 6).trans rfl; have hcz7 : w5.cell? ⟨gb, 7, none⟩ = some (.slice A7 l7.length c7) := (blk_cell BK.out 7).trans rfl; have hcz8 : w5.cell? ⟨gb, 8, none⟩ = some (.slice A8 l8.length c8) := (blk_cell BK.out 8).trans rfl))
  refine (packed3 a1 a2 a3 a4 a5 a6 _ _ l7 _ _ l8 _ (wf_i64 G.out.1)).mono ?_
  rintro e w6 ⟨rfl, hb⟩
  have n2_ := Aside0.mk (below_step HB.out hb)
  clear HB hb
  go_wp2
  go_ret
  exact ⟨rfl, n2_.out⟩

set_option maxHeartbeats 1600000 in
set_option maxRecDepth 100000 in
theorem plays4 (hg : goodOp a1 a4 a5 a6 l7 l8) (hr7 : Kd.C (Kd.int .u8) w A7 l7.length l7) (hc7 : l7.length ≤ c7) (hr8 : Kd.C (Kd.int .u64) w A8 l8.length l8) (hc8 : l8.length ≤ c8) :
    Calls Try.prog 58 #[opV 4 a1 a2 a3 a4 a5 a6 A7 c7 l7 A8 c8 l8] w fun e w' => e = .returned (.bool true) ∧ Below w.heap.size w w' := by
  have G := Aside0.mk hg
  have H7w := Aside0.mk hr7
  have H8w := Aside0.mk hr8
  have HB := Aside0.mk (Below.refl w.heap.size w)
  clear hg hr7 hr8
  go_enter Try.func58, Try.ntmps58
  go_wp2_with (first | ((with_reducible refine gate_dst (N := 1) rfl ?_); refine box_event ?hg (N := 1) ?hd (cs := #[.int .i64 4, .int .i64 a1, .int .i64 a2, .int .i64 a3, .int .i64 a4, .int .i64 a5, .int .u64 a6, .slice A7 l7.length c7, .slice A8 l8.length c8]) (t := 71) ?hr ?_; (case hd => rfl); (case hg => rfl); (case hr => first | (go_simp; done) | (go_simp; rfl)); intro gb hg w5 hbox hb; have n0_ := Aside0.mk (below_step (by repeat (first | (with_reducible first | exact HB.out | apply below_alloc | apply pw_below_drewN | apply below_drew1) | exact HB.out)) hb); have n1_ := Aside0.mk (hbox); have GW := Aside0.mk ((by rw [hg]; exact (below_size (by repeat (first | (with_reducible first | exact HB.out | apply below_alloc | apply pw_below_drewN | apply below_drew1) | exact HB.out)))) : w.heap.size ≤ gb); clear HB; have HB := n0_; have BK := n1_; clear n0_ n1_; clear hb hbox hg; have hcz0 : w5.cell? ⟨gb, 0, none⟩ = some (.int .i64 4) := (blk_cell BK.out 0).trans rfl; have hcz1 : w5.cell? ⟨gb, 1, none⟩ = some (.int .i64 a1) := (blk_cell BK.out 1).trans rfl; have hcz2 : w5.cell? ⟨gb, 2, none⟩ = some (.int .i64 a2) := (blk_cell BK.out 2).trans rfl; have hcz3 : w5.cell? ⟨gb, 3, none⟩ = some (.int .i64 a3) := (blk_cell BK.out 3).trans rfl; have hcz4 : w5.cell? ⟨gb, 4, none⟩ = some (.int .i64 a4) := (blk_cell BK.out 4).trans rfl; have hcz5 : w5.cell? ⟨gb, 5, none⟩ = some (.int .i64 a5) := (blk_cell BK.out 5).trans rfl; have hcz6 : w5.cell? ⟨gb, 6, none⟩ = some (.int .u64 a6) := (blk_cell BK.out 6).trans rfl; have hcz7 : w5.cell? ⟨gb, 7, none⟩ = some (.slice A7 l7.length c7) := (blk_cell BK.out 7).trans rfl; have hcz8 : w5.cell? ⟨gb, 8, none⟩ = some (.slice A8 l8.length c8) := (blk_cell BK.out 8).trans rfl))
  refine (packed4 a1 a2 a3 a4 a5 a6 _ _ l7 _ _ l8 _ (Kd.C_below H7w.out HB.out) hc7 (Kd.C_below H8w.out HB.out) (gBytes_in G.out.2.2.2.2.1) (gBytes_len G.out.2.2.2.2.1)).mono ?_
  rintro e w6 ⟨rfl, hb⟩
  have n2_ := Aside0.mk (below_step HB.out hb)
  clear HB hb
  go_wp2
  go_ret
  exact ⟨rfl, n2_.out⟩

set_option maxHeartbeats 1600000 in
set_option maxRecDepth 100000 in
theorem plays5 (hg : goodOp a1 a4 a5 a6 l7 l8) (hr7 : Kd.C (Kd.int .u8) w A7 l7.length l7) (hc7 : l7.length ≤ c7) (hr8 : Kd.C (Kd.int .u64) w A8 l8.length l8) (hc8 : l8.length ≤ c8) :
    Calls Try.prog 58 #[opV 5 a1 a2 a3 a4 a5 a6 A7 c7 l7 A8 c8 l8] w fun e w' => e = .returned (.bool true) ∧ Below w.heap.size w w' := by
  have G := Aside0.mk hg
  have H7w := Aside0.mk hr7
  have H8w := Aside0.mk hr8
  have HB := Aside0.mk (Below.refl w.heap.size w)
  clear hg hr7 hr8
  go_enter Try.func58, Try.ntmps58
  go_wp2_with (first | ((with_reducible refine gate_dst (N := 1) rfl ?_); refine box_event ?hg (N := 1) ?hd (cs := #[.int .i64 5, .int .i64 a1, .int .i64 a2, .int .i64 a3, .int .i64 a4, .int .i64 a5, .int .u64 a6, .slice A7 l7.length c7, .slice A8 l8.length c8]) (t := 71) ?hr ?_; (case hd => rfl); (case hg => rfl); (case hr => first | (go_simp; done) | (go_simp; rfl)); intro gb hg w5 hbox hb; have n0_ := Aside0.mk (below_step (by repeat (first | (with_reducible first | exact HB.out | apply below_alloc | apply pw_below_drewN | apply below_drew1) | exact HB.out)) hb); have n1_ := Aside0.mk (hbox); have GW := Aside0.mk ((by rw [hg]; exact (below_size (by repeat (first | (with_reducible first | exact HB.out | apply below_alloc | apply pw_below_drewN | apply below_drew1) | exact HB.out)))) : w.heap.size ≤ gb); clear HB; have HB := n0_; have BK := n1_; clear n0_ n1_; clear hb hbox hg; have hcz0 : w5.cell? ⟨gb, 0, none⟩ = some (.int .i64 5) := (blk_cell BK.out 0).trans rfl; have hcz1 : w5.cell? ⟨gb, 1, none⟩ = some (.int .i64 a1) := (blk_cell BK.out 1).trans rfl; have hcz2 : w5.cell? ⟨gb, 2, none⟩ = some (.int .i64 a2) := (blk_cell BK.out 2).trans rfl; have hcz3 : w5.cell? ⟨gb, 3, none⟩ = some (.int .i64 a3) := (blk_cell BK.out 3).trans rfl; have hcz4 : w5.cell? ⟨gb, 4, none⟩ = some (.int .i64 a4) := (blk_cell BK.out 4).trans rfl; have hcz5 : w5.cell? ⟨gb, 5, none⟩ = some (.int .i64 a5) := (blk_cell BK.out 5).trans rfl; have hcz6 : w5.cell? ⟨gb, 6, none⟩ = some (.int .u64 a6) := (blk_cell BK.out 6).trans rfl; have hcz7 : w5.cell? ⟨gb, 7, none⟩ = some (.slice A7 l7.length c7) := (blk_cell BK.out 7).trans rfl; have hcz8 : w5.cell? ⟨gb, 8, none⟩ = some (.slice A8 l8.length c8) := (blk_cell BK.out 8).trans rfl))
  refine (packed5 a1 a2 a3 a4 a5 a6 _ _ l7 _ _ l8 _ (wf_i64 G.out.1) (Kd.C_below H8w.out HB.out) hc8 (gWords_in G.out.2.2.2.2.2) (gWords_len G.out.2.2.2.2.2)).mono ?_
  rintro e w6 ⟨rfl, hb⟩
  have n2_ := Aside0.mk (below_step HB.out hb)
  clear HB hb
  go_wp2
  go_ret
  exact ⟨rfl, n2_.out⟩

set_option maxHeartbeats 1600000 in
set_option maxRecDepth 100000 in
theorem plays11 (hg : goodOp a1 a4 a5 a6 l7 l8) (hr7 : Kd.C (Kd.int .u8) w A7 l7.length l7) (hc7 : l7.length ≤ c7) (hr8 : Kd.C (Kd.int .u64) w A8 l8.length l8) (hc8 : l8.length ≤ c8) :
    Calls Try.prog 58 #[opV 11 a1 a2 a3 a4 a5 a6 A7 c7 l7 A8 c8 l8] w fun e w' => e = .returned (.bool true) ∧ Below w.heap.size w w' := by
  obtain ⟨s, hs⟩ := Int.eq_ofNat_of_zero_le (wf_u64 hg.2.2.2.1).1
  obtain ⟨k1, hk1⟩ := Ev.rounds (HashS.Hash s l7 (gBytes_in hg.2.2.2.2.1) (by have := gBytes_len hg.2.2.2.2.1; omega))
  obtain ⟨k2, hk2⟩ := Ev.rounds (RefS.Hash s l7 (gBytes_in hg.2.2.2.2.1) (gBytes_len hg.2.2.2.2.1))
  rw [← hs] at hk1 hk2
  generalize ((HashS.hash s l7 : Nat) : Int) = r at hk1 hk2
  clear hs s
  have K1 := Aside0.mk hk1
  have K2 := Aside0.mk hk2
  have hrr : (r == r) = true := by simp
  have hlb := gBytes_len hg.2.2.2.2.1
  have H7w := Aside0.mk hr7
  have H8w := Aside0.mk hr8
  have HB := Aside0.mk (Below.refl w.heap.size w)
  clear hk1 hk2 hg hr7 hr8
  go_enter Try.func58, Try.ntmps58
  go_wp2_with (first | ((with_reducible refine gate_dst (N := 1) rfl ?_); refine box_event ?hg (N := 1) ?hd (cs := #[.int .i64 11, .int .i64 a1, .int .i64 a2, .int .i64 a3, .int .i64 a4, .int .i64 a5, .int .u64 a6, .slice A7 l7.length c7, .slice A8 l8.length c8]) (t := 71) ?hr ?_; (case hd => rfl); (case hg => rfl); (case hr => first | (go_simp; done) | (go_simp; rfl)); intro gb hg w5 hbox hb; have n0_ := Aside0.mk (below_step (by repeat (first | (with_reducible first | exact HB.out | apply below_alloc | apply pw_below_drewN | apply below_drew1) | exact HB.out)) hb); have n1_ := Aside0.mk (hbox); have GW := Aside0.mk ((by rw [hg]; exact (below_size (by repeat (first | (with_reducible first | exact HB.out | apply below_alloc | apply pw_below_drewN | apply below_drew1) | exact HB.out)))) : w.heap.size ≤ gb); clear HB; have HB := n0_; have BK := n1_; clear n0_ n1_; clear hb hbox hg; have hcz0 : w5.cell? ⟨gb, 0, none⟩ = some (.int .i64 11) := (blk_cell BK.out 0).trans rfl; have hcz1 : w5.cell? ⟨gb, 1, none⟩ = some (.int .i64 a1) := (blk_cell BK.out 1).trans rfl; have hcz2 : w5.cell? ⟨gb, 2, none⟩ = some (.int .i64 a2) := (blk_cell BK.out 2).trans rfl; have hcz3 : w5.cell? ⟨gb, 3, none⟩ = some (.int .i64 a3) := (blk_cell BK.out 3).trans rfl; have hcz4 : w5.cell? ⟨gb, 4, none⟩ = some (.int .i64 a4) := (blk_cell BK.out 4).trans rfl; have hcz5 : w5.cell? ⟨gb, 5, none⟩ = some (.int .i64 a5) := (blk_cell BK.out 5).trans rfl; have hcz6 : w5.cell? ⟨gb, 6, none⟩ = some (.int .u64 a6) := (blk_cell BK.out 6).trans rfl; have hcz7 : w5.cell? ⟨gb, 7, none⟩ = some (.slice A7 l7.length c7) := (blk_cell BK.out 7).trans rfl; have hcz8 : w5.cell? ⟨gb, 8, none⟩ = some (.slice A8 l8.length c8) := (blk_cell BK.out 8).trans rfl))
  refine (lend.calls A7 c7 l7 _ (Kd.C_below H7w.out HB.out) hc7 (by omega)).mono ?_
  rintro e w6 ⟨v6, rfl, hL, hb⟩
  have hcz6' := pw_cell_below hb hcz6
  clear hcz6
  have hcz1' := pw_cell_below hb hcz1; have hcz7' := pw_cell_below hb hcz7; have hcz8' := pw_cell_below hb hcz8; clear hcz1 hcz7 hcz8; have hcz1 := hcz1'; have hcz7 := hcz7'; have hcz8 := hcz8'; clear hcz1' hcz7' hcz8'; have n2_ := Aside0.mk (below_step HB.out hb); clear HB; have HB := n2_; clear n2_
  have HL := Aside0.mk hL
  clear hL hb
  obtain ⟨A, c, rfl, hc3, hC3, hC⟩ := HL.out.reads
  have hcc : l7.length ≤ c := by omega
  have HC := Aside0.mk hC
  clear hC hC3
  go_wp2_with fail
  refine (word_Hash.calls k1 a6 A c l7 r _ HC.out hcc K1.out).mono ?_
  rintro e w7 ⟨rfl, hd⟩
  have hb := hd
  have hcz6'' := pw_cell_below hb hcz6'
  clear hcz6'
  have hcz1' := pw_cell_below hb hcz1; have hcz7' := pw_cell_below hb hcz7; have hcz8' := pw_cell_below hb hcz8; clear hcz1 hcz7 hcz8; have hcz1 := hcz1'; have hcz7 := hcz7'; have hcz8 := hcz8'; clear hcz1' hcz7' hcz8'; have n2_ := Aside0.mk (below_step HB.out hb); clear HB; have HB := n2_; clear n2_
  have HL2 := Aside0.mk (HL.out.below hb)
  clear hb hd HC HL
  go_wp2_with fail
  refine (larderref1_Hash.calls k2 a6 A7 c7 l7 r _ (Kd.C_below H7w.out HB.out) hc7 K2.out).mono ?_
  rintro e w8 ⟨rfl, hd⟩
  have hb := hd
  have hcz6' := pw_cell_below hb hcz6''
  clear hcz6''
  have hcz1' := pw_cell_below hb hcz1; have hcz7' := pw_cell_below hb hcz7; have hcz8' := pw_cell_below hb hcz8; clear hcz1 hcz7 hcz8; have hcz1 := hcz1'; have hcz7 := hcz7'; have hcz8 := hcz8'; clear hcz1' hcz7' hcz8'; have n2_ := Aside0.mk (below_step HB.out hb); clear HB; have HB := n2_; clear n2_
  have HL3 := Aside0.mk (HL2.out.below hb)
  clear hb hd HL2
  go_wp2_with fail
  refine (intact.calls l7 _ _ A7 c7 _ HL3.out (Kd.C_below H7w.out HB.out) hc7).mono ?_
  rintro e w10 ⟨rfl, rfl⟩
  go_wp2
  go_ret
  exact ⟨rfl, HB.out⟩

set_option maxHeartbeats 1600000 in
set_option maxRecDepth 100000 in
theorem plays12 (hg : goodOp a1 a4 a5 a6 l7 l8) (hr7 : Kd.C (Kd.int .u8) w A7 l7.length l7) (hc7 : l7.length ≤ c7) (hr8 : Kd.C (Kd.int .u64) w A8 l8.length l8) (hc8 : l8.length ≤ c8) :
    Calls Try.prog 58 #[opV 12 a1 a2 a3 a4 a5 a6 A7 c7 l7 A8 c8 l8] w fun e w' => e = .returned (.bool true) ∧ Below w.heap.size w w' := by
  have hk1 : word_Sum.f l7 = some ((crc l7 : Nat) : Int) := if_pos (gBytes_in hg.2.2.2.2.1)
  obtain ⟨k2, hk2⟩ := Ev.rounds (RefS.Sum l7 (gBytes_in hg.2.2.2.2.1) (by have := gBytes_len hg.2.2.2.2.1; omega))
  generalize ((crc l7 : Nat) : Int) = r at hk1 hk2
  have K1 := Aside0.mk hk1
  have K2 := Aside0.mk hk2
  have hrr : (r == r) = true := by simp
  have hlb := gBytes_len hg.2.2.2.2.1
  have H7w := Aside0.mk hr7
  have H8w := Aside0.mk hr8
  have HB := Aside0.mk (Below.refl w.heap.size w)
  clear hk1 hk2 hg hr7 hr8
  go_enter Try.func58, Try.ntmps58
  go_wp2_with (first | ((with_reducible refine gate_dst (N := 1) rfl ?_); refine box_event ?hg (N := 1) ?hd (cs := #[.int .i64 12, .int .i64 a1, .int .i64 a2, .int .i64 a3, .int .i64 a4, .int .i64 a5, .int .u64 a6, .slice A7 l7.length c7, .slice A8 l8.length c8]) (t := 71) ?hr ?_; (case hd => rfl); (case hg => rfl); (case hr => first | (go_simp; done) | (go_simp; rfl)); intro gb hg w5 hbox hb; have n0_ := Aside0.mk (below_step (by repeat (first | (with_reducible first | exact HB.out | apply below_alloc | apply pw_below_drewN | apply below_drew1) | exact HB.out)) hb); have n1_ := Aside0.mk (hbox); have GW := Aside0.mk ((by rw [hg]; exact (below_size (by repeat (first | (with_reducible first | exact HB.out | apply below_alloc | apply pw_below_drewN | apply below_drew1) | exact HB.out)))) : w.heap.size ≤ gb); clear HB; have HB := n0_; have BK := n1_; clear n0_ n1_; clear hb hbox hg; have hcz0 : w5.cell? ⟨gb, 0, none⟩ = some (.int .i64 12) := (blk_cell BK.out 0).trans rfl; have hcz1 : w5.cell? ⟨gb, 1, none⟩ = some (.int .i64 a1) := (blk_cell BK.out 1).trans rfl; have hcz2 : w5.cell? ⟨gb, 2, none⟩ = some (.int .i64 a2) := (blk_cell BK.out 2).trans rfl; have hcz3 : w5.cell? ⟨gb, 3, none⟩ = some (.int .i64 a3) := (blk_cell BK.out 3).trans rfl; have hcz4 : w5.cell? ⟨gb, 4, none⟩ = some (.int .i64 a4) := (blk_cell BK.out 4).trans rfl; have hcz5 : w5.cell? ⟨gb, 5, none⟩ = some (.int .i64 a5) := (blk_cell BK.out 5).trans rfl; have hcz6 : w5.cell? ⟨gb, 6, none⟩ = some (.int .u64 a6) := (blk_cell BK.out 6).trans rfl; have hcz7 : w5.cell? ⟨gb, 7, none⟩ = some (.slice A7 l7.length c7) := (blk_cell BK.out 7).trans rfl; have hcz8 : w5.cell? ⟨gb, 8, none⟩ = some (.slice A8 l8.length c8) := (blk_cell BK.out 8).trans rfl))
  refine (lend.calls A7 c7 l7 _ (Kd.C_below H7w.out HB.out) hc7 (by omega)).mono ?_
  rintro e w6 ⟨v6, rfl, hL, hb⟩
  have hcz6' := pw_cell_below hb hcz6
  clear hcz6
  have hcz1' := pw_cell_below hb hcz1; have hcz7' := pw_cell_below hb hcz7; have hcz8' := pw_cell_below hb hcz8; clear hcz1 hcz7 hcz8; have hcz1 := hcz1'; have hcz7 := hcz7'; have hcz8 := hcz8'; clear hcz1' hcz7' hcz8'; have n2_ := Aside0.mk (below_step HB.out hb); clear HB; have HB := n2_; clear n2_
  have HL := Aside0.mk hL
  clear hL hb
  obtain ⟨A, c, rfl, hc3, hC3, hC⟩ := HL.out.reads
  have hcc : l7.length ≤ c := by omega
  have HC := Aside0.mk hC
  clear hC hC3
  go_wp2_with fail
  refine (word_Sum.calls A c l7 r _ HC.out hcc K1.out).mono ?_
  rintro e w7 ⟨rfl, hd⟩
  have hb := hd
  have hcz6'' := pw_cell_below hb hcz6'
  clear hcz6'
  have hcz1' := pw_cell_below hb hcz1; have hcz7' := pw_cell_below hb hcz7; have hcz8' := pw_cell_below hb hcz8; clear hcz1 hcz7 hcz8; have hcz1 := hcz1'; have hcz7 := hcz7'; have hcz8 := hcz8'; clear hcz1' hcz7' hcz8'; have n2_ := Aside0.mk (below_step HB.out hb); clear HB; have HB := n2_; clear n2_
  have HL2 := Aside0.mk (HL.out.below hb)
  clear hb hd HC HL
  go_wp2_with fail
  refine (larderref1_Sum.calls k2 A7 c7 l7 r _ (Kd.C_below H7w.out HB.out) hc7 K2.out).mono ?_
  rintro e w8 ⟨rfl, hd⟩
  have hb := hd.below
  have hcz6' := pw_cell_below hb hcz6''
  clear hcz6''
  have hcz1' := pw_cell_below hb hcz1; have hcz7' := pw_cell_below hb hcz7; have hcz8' := pw_cell_below hb hcz8; clear hcz1 hcz7 hcz8; have hcz1 := hcz1'; have hcz7 := hcz7'; have hcz8 := hcz8'; clear hcz1' hcz7' hcz8'; have n2_ := Aside0.mk (below_step HB.out hb); clear HB; have HB := n2_; clear n2_
  have HL3 := Aside0.mk (HL2.out.below hb)
  clear hb hd HL2
  go_wp2_with fail
  refine (intact.calls l7 _ _ A7 c7 _ HL3.out (Kd.C_below H7w.out HB.out) hc7).mono ?_
  rintro e w10 ⟨rfl, rfl⟩
  go_wp2
  go_ret
  exact ⟨rfl, HB.out⟩
end

theorem larderlaw1_plays.calls (a0_0 : Int) (a0_1 : Int) (a0_2 : Int) (a0_3 : Int) (a0_4 : Int) (a0_5 : Int) (a0_6 : Int) (A0_7 : Option Addr) (c0_7 : Nat) (l0_7 : List Int) (A0_8 : Option Addr) (c0_8 : Nat) (l0_8 : List Int) (r : Bool) (w : World) (hr0_7 : Kd.C (Kd.int .u8) w A0_7 l0_7.length l0_7) (hc0_7 : l0_7.length ≤ c0_7) (hr0_8 : Kd.C (Kd.int .u64) w A0_8 l0_8.length l0_8) (hc0_8 : l0_8.length ≤ c0_8) (h : larderlaw1_plays.f a0_0 a0_1 a0_2 a0_3 a0_4 a0_5 a0_6 l0_7 l0_8 = some r) :
    Calls Try.prog 58 #[.agg #[.int .i64 a0_0, .int .i64 a0_1, .int .i64 a0_2, .int .i64 a0_3, .int .i64 a0_4, .int .i64 a0_5, .int .u64 a0_6, .slice A0_7 l0_7.length c0_7, .slice A0_8 l0_8.length c0_8]] w fun e w' => e = .returned (.bool r) ∧ Below w.heap.size w w' := by
  unfold larderlaw1_plays.f at h
  split at h
  case isFalse => cases h
  rename_i hk
  obtain rfl := Option.some.inj h
  obtain ⟨hk, hg⟩ := hk
  rcases hk with rfl | rfl | rfl | rfl | rfl
  · exact plays3 _ _ _ _ _ _ _ _ _ _ _ _ _ hg hr0_7 hc0_7 hr0_8 hc0_8
  · exact plays4 _ _ _ _ _ _ _ _ _ _ _ _ _ hg hr0_7 hc0_7 hr0_8 hc0_8
  · exact plays5 _ _ _ _ _ _ _ _ _ _ _ _ _ hg hr0_7 hc0_7 hr0_8 hc0_8
  · exact plays11 _ _ _ _ _ _ _ _ _ _ _ _ _ hg hr0_7 hc0_7 hr0_8 hc0_8
  · exact plays12 _ _ _ _ _ _ _ _ _ _ _ _ _ hg hr0_7 hc0_7 hr0_8 hc0_8
end Go.Proofs.Ytgngpbcbnfmoiaa.PQ
