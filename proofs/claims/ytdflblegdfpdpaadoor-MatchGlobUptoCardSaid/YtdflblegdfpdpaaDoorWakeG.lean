/- larderlaw9.wakes: the machine's call answers true. -/
import Derived.Test.YtdflblegdfpdpaaDoorGlobG
import Derived.Test.YtdflblegdfpdpaaDoorLexBad
namespace Go.Proofs.YtdflblegdfpdpaaDoor.PB
open Go Go.RowKit Go.Proofs.YtdflblegdfpdpaaDoorW.PrintWords Go.Proofs.YtdflblegdfpdpaaDoorW.PrintLast Go.Proofs.YtdflblegdfpdpaaDoorW.PrintMore Go.Proofs.YtdflblegdfpdpaaDoor.GlobS Go.Proofs.YtdflblegdfpdpaaDoor.GlobW Go.Proofs.YtdflblegdfpdpaaDoor.ScoreW Go.Proofs.YtdflblegdfpdpaaDoor.NumS
set_option linter.unusedVariables false
set_option maxRecDepth 100000
def larderlaw9_wakes.f : Option Bool := some true

theorem score_7 : scoreS [40, 45, 55] = (0, -7, true, 0) := by decide
theorem glob_star : globL [42] [97, 98, 99] = true := by
  unfold globL
  rw [piecesL, pieceL_cons, if_pos rfl, piecesL]
  decide
theorem below_next {w w5 wr : World} (h : Below w.heap.size w w5) (h2 : Below w5.heap.size w5 wr) : Below w.heap.size w wr := h.trans ⟨h2.os, h2.tape, h2.output, h2.size, fun k hk => h2.block k (Nat.lt_of_lt_of_le hk h.size)⟩

set_option maxHeartbeats 3200000 in
theorem wakes_walk (w : World) (hG : GL w) : Calls Tryd.prog 11 #[] w fun e w' => e = .returned (.bool true) ∧ Below w.heap.size w w' := by
  have HG := Aside0.mk hG
  clear hG
  have hc1 := conv_at (w := w) w.heap.size rfl #[.int .u8 40, .int .u8 45, .int .u8 55] 3 3
  go_enter Tryd.func11, Tryd.ntmps11
  go_wp2_with (first
    | (go_at_call 21; refine (score.calls _ 3 [40, 45, 55] _ (got_const w _ rfl [40, 45, 55] _ (by decide)) (by decide) (by unfold inB; decide)).mono ?_; rw [score_7]; rintro e w6 ⟨rfl, hb⟩; have HB := Aside0.mk (below_next (below_alloc (Below.refl w.heap.size w) _) hb); clear hb hc1; have hc2 := conv_at (w := w6.alloc (.cells #[.int .i64 0, .int .i64 (-7), .bool true] 41)) (w6.heap.size + 1) (size_alloc _ _) #[.int .u8 97] 1 1)
    | (go_at_call 24; refine (lexBad.calls _ 1 [97] _ (got_const _ _ (size_alloc _ _) [97] _ (by decide)) (by unfold inB; decide) (by decide) (by decide) (by decide) (by decide) (by decide)).mono ?_; rintro e w8 ⟨rfl, hb⟩; have HB8 := Aside0.mk (below_next (below_alloc (below_alloc (Below.refl _ _) _) _) hb); have HX := Aside0.mk (blk_below (blk_alloc (blk_new w6 _) _) hb); clear hb hc2; have hc3 := conv_at (w := w8.alloc (.cells #[.int .i64 0, .slice none 0 0, .bool false] 43)) (w8.heap.size + 1) (size_alloc _ _) #[.int .u8 42] 1 1; have hc4 := conv_at (w := (w8.alloc (.cells #[.int .i64 0, .slice none 0 0, .bool false] 43)).alloc (.cells #[.int .u8 42] 5 (1, 2))) (w8.heap.size + 1 + 1) (by rw [size_alloc, size_alloc]) #[.int .u8 97, .int .u8 98, .int .u8 99] 3 3)
    | (go_at_call 14; refine (glob.calls _ 1 [42] _ 3 [97, 98, 99] _ (Kd.C_alloc (got_const _ _ (size_alloc _ _) [42] _ (by decide)) _) (by decide) (by decide) (by decide) (got_const _ _ (by rw [size_alloc, size_alloc]) [97, 98, 99] _ (by decide)) (by decide) (by decide) (by decide) (HG.out.below (below_alloc (below_alloc (below_alloc (below_next HB.out HB8.out) _) _) _))).mono ?_; rw [glob_star]; rintro e w9 ⟨rfl, hb⟩; have HB9 := Aside0.mk (below_next (below_alloc (below_alloc (below_alloc (below_next HB.out HB8.out) _) _) _) hb); have HX9 := Aside0.mk (blk_below (blk_alloc (blk_alloc (blk_alloc HX.out _) _) _) hb); clear hb hc3 hc4; have x1 : w9.cell? ⟨w6.heap.size, 1, none⟩ = some (.int .i64 (-7)) := blk_cell HX9.out 1; have x2 : w9.cell? ⟨w6.heap.size, 2, none⟩ = some (.bool true) := blk_cell HX9.out 2)
    | go_in)
  go_ret
  exact ⟨rfl, HB9.out⟩
theorem larderlaw9_wakes.calls (r : Bool) (w : World) (hG : GL w) (h : larderlaw9_wakes.f = some r) : Calls Tryd.prog 11 #[] w fun e w' => e = .returned (.bool r) ∧ Below w.heap.size w w' := by
  obtain rfl := Option.some.inj h
  exact wakes_walk w hG
end Go.Proofs.YtdflblegdfpdpaaDoor.PB
