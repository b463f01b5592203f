/- match.Lex at what is no bound: the error. -/
import Derived.Test.YtdflblegdfpdpaaDoorScoreW
namespace Go.Proofs.YtdflblegdfpdpaaDoor.ScoreW
open Go Go.RowKit Go.Proofs.YtdflblegdfpdpaaDoorW.PrintWords Go.Proofs.YtdflblegdfpdpaaDoorW.PrintLast Go.Proofs.YtdflblegdfpdpaaDoorW.PrintMore Go.Proofs.YtdflblegdfpdpaaDoor.NumS
set_option linter.unusedVariables false
set_option maxRecDepth 100000

set_option maxHeartbeats 1600000 in
theorem lexBad.calls (A : Option Addr) (c : Nat) (l : List Int) (w : World) (hr : Kd.C (Kd.int .u8) w A l.length l) (hb : inB l) (h45 : ¬ l = [45]) (h43 : ¬ l = [43]) (hpos : 0 < l.length) (h91 : ¬ rd l 0 = 91) (h40 : ¬ rd l 0 = 40) :
    Calls Tryd.prog 24 #[.slice A l.length c] w fun e w' => e = .returned (.tuple #[.agg #[.int .i64 0, .slice none 0 0, .bool false], .int .i64 91]) ∧ Below w.heap.size w w' := by
  have e1 := str_is l hb [45] (by unfold inB; decide) [45] (by simp [strOfNums])
  have e2 := str_is l hb [43] (by unfold inB; decide) [43] (by simp [strOfNums])
  rw [decide_eq_false h45] at e1
  rw [decide_eq_false h43] at e2
  have hs := Kd.C_string (P := Tryd.prog) (w := w.alloc (.cells #[.int .i64 0, .slice none 0 0, .bool false] 43)) (A := A) (c := c) Tryd.underlying22 Tryd.underlying5 Tryd.underlying9 (Kd.C_alloc hr _)
  obtain ⟨ad, rfl, hc⟩ := Kd.at_int hr (0 : Int) (by omega) (by omega)
  have hcA : w.cell? ad = some (.int .u8 (rd l 0)) := by simpa [Addr.add] using hc
  have hcA2 := Lib.cell?_alloc_some (.cells #[.int .i64 0, .slice none 0 0, .bool false] 43) hcA
  have d0 : decide ((0 : Int) < l.length) = true := decide_eq_true (by omega)
  have d0' : decide (0 < l.length) = true := decide_eq_true hpos
  have d1 : (rd l 0 == 91) = false := by simp [h91]
  have d2 : (rd l 0 == 40) = false := by simp [h40]
  clear hc hcA h45 h43 h91 h40 hb hr
  go_enter Tryd.func24, Tryd.ntmps24
  go_wp2
  refine bodyPost_ret (GlobW.results_cell_row_tmp (P := Tryd.prog) rfl _ _ w.heap.size 43 _ (0, 0) _ rfl (blk_new w _) Tryd.underlying43 rfl (by kernel_rfl)) rfl ?_
  exact ⟨rfl, below_alloc (Below.refl _ _) _⟩
end Go.Proofs.YtdflblegdfpdpaaDoor.ScoreW
