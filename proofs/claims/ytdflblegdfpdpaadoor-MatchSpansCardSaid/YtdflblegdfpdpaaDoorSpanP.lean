/- MatchSpans: the machine's call answers true. -/
import Derived.Test.YtdflblegdfpdpaaDoorWinS
import Derived.Test.YtdflblegdfpdpaaDoorAskW
import Derived.Test.YtdflblegdfpdpaaDoorWakeG
namespace Go.Proofs.YtdflblegdfpdpaaDoor.SpanP
open Go Go.RowKit Go.Proofs.YtdflblegdfpdpaaDoorW.PrintWords Go.Proofs.YtdflblegdfpdpaaDoorW.PrintLast Go.Proofs.YtdflblegdfpdpaaDoorW.PrintMore Go.Proofs.YtdflblegdfpdpaaDoor.PE Go.Proofs.YtdflblegdfpdpaaDoor.WinS Go.Proofs.YtdflblegdfpdpaaDoor.AskW Go.Proofs.YtdflblegdfpdpaaDoor.GlobW
set_option linter.unusedVariables false
set_option maxRecDepth 100000
theorem tmod_300 (N : Int) : -300 < Int.tmod N 300 ∧ Int.tmod N 300 < 300 := by
  have h1 := Int.tmod_lt_of_pos N (show (0 : Int) < 300 by decide)
  have h2 : -(300 : Int) < Int.tmod N 300 := by
    rcases Int.le_total 0 N with h | h
    · have := Int.tmod_nonneg 300 h; omega
    · have h3 := Int.tmod_lt_of_pos (-N) (show (0 : Int) < 300 by decide)
      rw [Int.neg_tmod] at h3
      omega
  exact ⟨h2, h1⟩

section
variable (d I J N f1 s1 f2 s2 f3 f4 : Int) (o1 o2 o3 o4 : Bool) (Ap At A3 A4 : Option Addr) (lp lt l3 l4 : List Int) (cp ct c3 c4 : Nat) (w : World)
def askV : Array Value := #[.int .i64 d, .slice Ap lp.length cp, .slice At lt.length ct, .int .i64 I, .int .i64 J, .int .i64 N, .int .i64 f1, .int .i64 s1, .bool o1, .int .i64 f2, .int .i64 s2, .bool o2, .int .i64 f3, .slice A3 l3.length c3, .bool o3, .int .i64 f4, .slice A4 l4.length c4, .bool o4]

set_option maxHeartbeats 12000000 in
theorem spans (hG : GL w) (hI : i64 I) (hJ : i64 J) (hN : i64 N) :
    Calls Tryd.prog 6 #[.agg (askV d I J N f1 s1 f2 s2 f3 f4 o1 o2 o3 o4 Ap At A3 A4 lp lt l3 l4 cp ct c3 c4)] w fun e w' => e = .returned (.bool true) ∧ Below w.heap.size w w' := by
  obtain ⟨dn, hdn⟩ : ∃ dn, Int.tmod N 300 = dn := ⟨_, rfl⟩
  have hr := tmod_300 N
  rw [hdn] at hr
  obtain ⟨nn, hnn⟩ : ∃ nn : Nat, (nn : Int) = (if dn < 0 then 0 else dn) := ⟨(if dn < 0 then 0 else dn).toNat, by split <;> omega⟩
  have hnb : nn < 300 := by split at hnn <;> omega
  obtain ⟨f, c, hw, hf0, hc0, hcf, hfc, hin⟩ := win_in I J nn (by omega)
  have K1 := Aside0.mk ((win_some I J nn hI hJ (by unfold i64; omega)).trans (congrArg some hw))
  obtain ⟨ff, rfl⟩ := Int.eq_ofNat_of_zero_le hf0
  obtain ⟨cc, rfl⟩ := Int.eq_ofNat_of_zero_le hc0
  have HIN := Aside0.mk hin
  have HG := Aside0.mk hG
  have HB := Aside0.mk (Below.refl w.heap.size w)
  have hv1 : wrap64 ((ff : Int) + cc) = (ff : Int) + cc := w64 ⟨by omega, by omega⟩
  have q1 : decide ((ff : Int) < 0) = false := decide_eq_false (by omega)
  have q2 : decide ((cc : Int) < 0) = false := decide_eq_false (by omega)
  have q3 : decide ((nn : Int) < (ff : Int) + cc) = false := decide_eq_false (by omega)
  have q3' : decide (nn < ff + cc) = false := decide_eq_false (by omega)
  have HCF := Aside0.mk hcf
  clear hG hin hw hcf hf0 hc0
  unfold askV
  go_enter Tryd.func6, Tryd.ntmps6
  go_wp2_with (first
    | ((with_reducible refine gate_dst (N := 1) rfl ?_); refine box_event ?hg (N := 1) ?hd (cs := #[.int .i64 d, .slice Ap lp.length cp, .slice At lt.length ct, .int .i64 I, .int .i64 J, .int .i64 N, .int .i64 f1, .int .i64 s1, .bool o1, .int .i64 f2, .int .i64 s2, .bool o2, .int .i64 f3, .slice A3 l3.length c3, .bool o3, .int .i64 f4, .slice A4 l4.length c4, .bool o4]) (t := 45) ?hr ?_; (case hd => rfl); (case hg => rfl); (case hr => first | (go_simp; done) | (go_simp; rfl)); intro gb hg w5 hbox hb; have n0_ := Aside0.mk (below_step HB.out hb); have BK := Aside0.mk hbox; clear HB; have HB := n0_; clear n0_ hb hbox hg))
  refine (PB.wakes_walk w5 (HG.out.below HB.out)).mono ?_
  rintro e w6 ⟨rfl, hb⟩
  have BK6 := Aside0.mk (blk_below BK.out hb)
  have n0_ := Aside0.mk (PB.below_next HB.out hb)
  clear HB BK hb
  have HB := n0_
  clear n0_
  have z3 : w6.cell? ⟨gb, 3, none⟩ = some (.int .i64 I) := (blk_cell BK6.out 3).trans rfl
  have z4 : w6.cell? ⟨gb, 4, none⟩ = some (.int .i64 J) := (blk_cell BK6.out 4).trans rfl
  have z5 : w6.cell? ⟨gb, 5, none⟩ = some (.int .i64 N) := (blk_cell BK6.out 5).trans rfl
  have main : dn = dn := rfl
  by_cases hneg : dn < 0
  · have p1 : decide (dn < 0) = true := decide_eq_true hneg
    have hn0 : nn = 0 := by rw [if_pos hneg] at hnn; omega
    subst hn0
    go_wp2_with fail
    refine (match_Window.calls 1 I J 0 ff cc _ K1.out).mono ?_
    rintro e w7 ⟨rfl, hb⟩
    have z3' := pw_cell_below hb z3
    have z4' := pw_cell_below hb z4
    have n0_ := Aside0.mk (PB.below_next HB.out hb)
    clear z3 z4 z5 hb HB BK6 K1
    have HB := n0_
    clear n0_
    have hff : ff = 0 := by omega
    have hcc : cc = 0 := by omega
    subst hff hcc
    go_wp2_with fail
    go_loop [6, 7, 8, 9] (fun v6 v7 v8 v9 => v6 = .int .i64 0) (fun v6 v7 v8 v9 => 0)
    case atStart => rfl
    case round =>
      subst hrel
      go_wp2_with fail
      go_ret
      exact ⟨rfl, HB.out⟩
  · have p1 : decide (dn < 0) = false := decide_eq_false hneg
    rw [if_neg hneg] at hnn
    rw [← hnn] at hdn p1
    clear hr hneg hnn main
    go_wp2_with fail
    refine (match_Window.calls 1 I J nn ff cc _ K1.out).mono ?_
    rintro e w7 ⟨rfl, hb⟩
    have z3' := pw_cell_below hb z3
    have z4' := pw_cell_below hb z4
    have n0_ := Aside0.mk (PB.below_next HB.out hb)
    clear z3 z4 z5 hb HB BK6 K1
    have HB := n0_
    clear n0_
    by_cases hcc : cc = 0
    · have hff : ff = 0 := by have := HCF.out (by omega); omega
      subst hcc hff
      have r1 : ((0 : Int) == 0) = true := rfl
      go_wp2_with fail
      go_loop [6, 7, 8, 9] (fun v6 v7 v8 v9 => ∃ i : Nat, v6 = .int .i64 i ∧ i ≤ nn) (fun v6 v7 v8 v9 => nn - (intOf v6).toNat)
      case atStart => exact ⟨0, rfl, by omega⟩
      case round =>
        obtain ⟨i, rfl, hi⟩ := hrel
        by_cases hlt : i < nn
        · have a1 : decide ((i : Int) < (nn : Nat)) = true := decide_eq_true (by omega)
          have a1' : decide (i < nn) = true := decide_eq_true hlt
          have hv2 : wrap64 ((i : Int) - (nn : Nat)) = (i : Int) - (nn : Nat) := w64 ⟨by omega, by omega⟩
          have hx := HIN.out i (by omega) (by omega)
          by_cases hi0 : 0 ≤ I
          · have sI1 : decide (0 ≤ I) = true := decide_eq_true hi0
            have sI2 : decide (I < 0) = false := decide_eq_false (by omega)
            by_cases ha : (i : Int) < I
            · have da : decide ((i : Int) < I) = true := decide_eq_true ha
              by_cases hj0 : 0 ≤ J
              · have sJ1 : decide (0 ≤ J) = true := decide_eq_true hj0
                have sJ2 : decide (J < 0) = false := decide_eq_false (by omega)
                by_cases hb : J < (i : Int)
                · have db : decide (J < (i : Int)) = true := decide_eq_true hb
                  have hy : ¬ ((0 : Int) ≤ i ∧ (i : Int) < (0 : Int) + 0) := fun h => absurd (hx.1 h) (by omega)
                  by_cases hf : 0 ≤ i
                  · have e1 : decide ((0 : Int) ≤ i) = true := decide_eq_true (by omega)
                    have e1' : decide (0 ≤ i) = true := decide_eq_true hf
                    have e2 : decide ((i : Int) < (0 : Int) + 0) = false := decide_eq_false (by omega)
                    have e2' : decide (i < 0 + 0) = false := decide_eq_false (by omega)
                    clear hx ha hb hy hi0 hj0
                    go_wp2_with fail
                    go_round
                    case rel => exact ⟨i + 1, by go_num, by omega⟩
                    case measure => simp [intOf]; omega
                  · exfalso; omega
                · have db : decide (J < (i : Int)) = false := decide_eq_false hb
                  have hy : ¬ ((0 : Int) ≤ i ∧ (i : Int) < (0 : Int) + 0) := fun h => absurd (hx.1 h) (by omega)
                  by_cases hf : 0 ≤ i
                  · have e1 : decide ((0 : Int) ≤ i) = true := decide_eq_true (by omega)
                    have e1' : decide (0 ≤ i) = true := decide_eq_true hf
                    have e2 : decide ((i : Int) < (0 : Int) + 0) = false := decide_eq_false (by omega)
                    have e2' : decide (i < 0 + 0) = false := decide_eq_false (by omega)
                    clear hx ha hb hy hi0 hj0
                    go_wp2_with fail
                    go_round
                    case rel => exact ⟨i + 1, by go_num, by omega⟩
                    case measure => simp [intOf]; omega
                  · exfalso; omega
              · have sJ1 : decide (0 ≤ J) = false := decide_eq_false hj0
                have sJ2 : decide (J < 0) = true := decide_eq_true (by omega)
                by_cases hb : J < (i : Int) - (nn : Nat)
                · have db : decide (J < (i : Int) - (nn : Nat)) = true := decide_eq_true hb
                  have hy : ¬ ((0 : Int) ≤ i ∧ (i : Int) < (0 : Int) + 0) := fun h => absurd (hx.1 h) (by omega)
                  by_cases hf : 0 ≤ i
                  · have e1 : decide ((0 : Int) ≤ i) = true := decide_eq_true (by omega)
                    have e1' : decide (0 ≤ i) = true := decide_eq_true hf
                    have e2 : decide ((i : Int) < (0 : Int) + 0) = false := decide_eq_false (by omega)
                    have e2' : decide (i < 0 + 0) = false := decide_eq_false (by omega)
                    clear hx ha hb hy hi0 hj0
                    go_wp2_with fail
                    go_round
                    case rel => exact ⟨i + 1, by go_num, by omega⟩
                    case measure => simp [intOf]; omega
                  · exfalso; omega
                · have db : decide (J < (i : Int) - (nn : Nat)) = false := decide_eq_false hb
                  have hy : ¬ ((0 : Int) ≤ i ∧ (i : Int) < (0 : Int) + 0) := fun h => absurd (hx.1 h) (by omega)
                  by_cases hf : 0 ≤ i
                  · have e1 : decide ((0 : Int) ≤ i) = true := decide_eq_true (by omega)
                    have e1' : decide (0 ≤ i) = true := decide_eq_true hf
                    have e2 : decide ((i : Int) < (0 : Int) + 0) = false := decide_eq_false (by omega)
                    have e2' : decide (i < 0 + 0) = false := decide_eq_false (by omega)
                    clear hx ha hb hy hi0 hj0
                    go_wp2_with fail
                    go_round
                    case rel => exact ⟨i + 1, by go_num, by omega⟩
                    case measure => simp [intOf]; omega
                  · exfalso; omega
            · have da : decide ((i : Int) < I) = false := decide_eq_false ha
              by_cases hj0 : 0 ≤ J
              · have sJ1 : decide (0 ≤ J) = true := decide_eq_true hj0
                have sJ2 : decide (J < 0) = false := decide_eq_false (by omega)
                by_cases hb : J < (i : Int)
                · have db : decide (J < (i : Int)) = true := decide_eq_true hb
                  have hy : ¬ ((0 : Int) ≤ i ∧ (i : Int) < (0 : Int) + 0) := fun h => absurd (hx.1 h) (by omega)
                  by_cases hf : 0 ≤ i
                  · have e1 : decide ((0 : Int) ≤ i) = true := decide_eq_true (by omega)
                    have e1' : decide (0 ≤ i) = true := decide_eq_true hf
                    have e2 : decide ((i : Int) < (0 : Int) + 0) = false := decide_eq_false (by omega)
                    have e2' : decide (i < 0 + 0) = false := decide_eq_false (by omega)
                    clear hx ha hb hy hi0 hj0
                    go_wp2_with fail
                    go_round
                    case rel => exact ⟨i + 1, by go_num, by omega⟩
                    case measure => simp [intOf]; omega
                  · exfalso; omega
                · have db : decide (J < (i : Int)) = false := decide_eq_false hb
                  have hy : (0 : Int) ≤ i ∧ (i : Int) < (0 : Int) + 0 := hx.2 ⟨by omega, by omega⟩
                  exfalso; omega
              · have sJ1 : decide (0 ≤ J) = false := decide_eq_false hj0
                have sJ2 : decide (J < 0) = true := decide_eq_true (by omega)
                by_cases hb : J < (i : Int) - (nn : Nat)
                · have db : decide (J < (i : Int) - (nn : Nat)) = true := decide_eq_true hb
                  have hy : ¬ ((0 : Int) ≤ i ∧ (i : Int) < (0 : Int) + 0) := fun h => absurd (hx.1 h) (by omega)
                  by_cases hf : 0 ≤ i
                  · have e1 : decide ((0 : Int) ≤ i) = true := decide_eq_true (by omega)
                    have e1' : decide (0 ≤ i) = true := decide_eq_true hf
                    have e2 : decide ((i : Int) < (0 : Int) + 0) = false := decide_eq_false (by omega)
                    have e2' : decide (i < 0 + 0) = false := decide_eq_false (by omega)
                    clear hx ha hb hy hi0 hj0
                    go_wp2_with fail
                    go_round
                    case rel => exact ⟨i + 1, by go_num, by omega⟩
                    case measure => simp [intOf]; omega
                  · exfalso; omega
                · have db : decide (J < (i : Int) - (nn : Nat)) = false := decide_eq_false hb
                  have hy : (0 : Int) ≤ i ∧ (i : Int) < (0 : Int) + 0 := hx.2 ⟨by omega, by omega⟩
                  exfalso; omega
          · have sI1 : decide (0 ≤ I) = false := decide_eq_false hi0
            have sI2 : decide (I < 0) = true := decide_eq_true (by omega)
            by_cases ha : (i : Int) - (nn : Nat) < I
            · have da : decide ((i : Int) - (nn : Nat) < I) = true := decide_eq_true ha
              by_cases hj0 : 0 ≤ J
              · have sJ1 : decide (0 ≤ J) = true := decide_eq_true hj0
                have sJ2 : decide (J < 0) = false := decide_eq_false (by omega)
                by_cases hb : J < (i : Int)
                · have db : decide (J < (i : Int)) = true := decide_eq_true hb
                  have hy : ¬ ((0 : Int) ≤ i ∧ (i : Int) < (0 : Int) + 0) := fun h => absurd (hx.1 h) (by omega)
                  by_cases hf : 0 ≤ i
                  · have e1 : decide ((0 : Int) ≤ i) = true := decide_eq_true (by omega)
                    have e1' : decide (0 ≤ i) = true := decide_eq_true hf
                    have e2 : decide ((i : Int) < (0 : Int) + 0) = false := decide_eq_false (by omega)
                    have e2' : decide (i < 0 + 0) = false := decide_eq_false (by omega)
                    clear hx ha hb hy hi0 hj0
                    go_wp2_with fail
                    go_round
                    case rel => exact ⟨i + 1, by go_num, by omega⟩
                    case measure => simp [intOf]; omega
                  · exfalso; omega
                · have db : decide (J < (i : Int)) = false := decide_eq_false hb
                  have hy : ¬ ((0 : Int) ≤ i ∧ (i : Int) < (0 : Int) + 0) := fun h => absurd (hx.1 h) (by omega)
                  by_cases hf : 0 ≤ i
                  · have e1 : decide ((0 : Int) ≤ i) = true := decide_eq_true (by omega)
                    have e1' : decide (0 ≤ i) = true := decide_eq_true hf
                    have e2 : decide ((i : Int) < (0 : Int) + 0) = false := decide_eq_false (by omega)
                    have e2' : decide (i < 0 + 0) = false := decide_eq_false (by omega)
                    clear hx ha hb hy hi0 hj0
                    go_wp2_with fail
                    go_round
                    case rel => exact ⟨i + 1, by go_num, by omega⟩
                    case measure => simp [intOf]; omega
                  · exfalso; omega
              · have sJ1 : decide (0 ≤ J) = false := decide_eq_false hj0
                have sJ2 : decide (J < 0) = true := decide_eq_true (by omega)
                by_cases hb : J < (i : Int) - (nn : Nat)
                · have db : decide (J < (i : Int) - (nn : Nat)) = true := decide_eq_true hb
                  have hy : ¬ ((0 : Int) ≤ i ∧ (i : Int) < (0 : Int) + 0) := fun h => absurd (hx.1 h) (by omega)
                  by_cases hf : 0 ≤ i
                  · have e1 : decide ((0 : Int) ≤ i) = true := decide_eq_true (by omega)
                    have e1' : decide (0 ≤ i) = true := decide_eq_true hf
                    have e2 : decide ((i : Int) < (0 : Int) + 0) = false := decide_eq_false (by omega)
                    have e2' : decide (i < 0 + 0) = false := decide_eq_false (by omega)
                    clear hx ha hb hy hi0 hj0
                    go_wp2_with fail
                    go_round
                    case rel => exact ⟨i + 1, by go_num, by omega⟩
                    case measure => simp [intOf]; omega
                  · exfalso; omega
                · have db : decide (J < (i : Int) - (nn : Nat)) = false := decide_eq_false hb
                  have hy : ¬ ((0 : Int) ≤ i ∧ (i : Int) < (0 : Int) + 0) := fun h => absurd (hx.1 h) (by omega)
                  by_cases hf : 0 ≤ i
                  · have e1 : decide ((0 : Int) ≤ i) = true := decide_eq_true (by omega)
                    have e1' : decide (0 ≤ i) = true := decide_eq_true hf
                    have e2 : decide ((i : Int) < (0 : Int) + 0) = false := decide_eq_false (by omega)
                    have e2' : decide (i < 0 + 0) = false := decide_eq_false (by omega)
                    clear hx ha hb hy hi0 hj0
                    go_wp2_with fail
                    go_round
                    case rel => exact ⟨i + 1, by go_num, by omega⟩
                    case measure => simp [intOf]; omega
                  · exfalso; omega
            · have da : decide ((i : Int) - (nn : Nat) < I) = false := decide_eq_false ha
              by_cases hj0 : 0 ≤ J
              · have sJ1 : decide (0 ≤ J) = true := decide_eq_true hj0
                have sJ2 : decide (J < 0) = false := decide_eq_false (by omega)
                by_cases hb : J < (i : Int)
                · have db : decide (J < (i : Int)) = true := decide_eq_true hb
                  have hy : ¬ ((0 : Int) ≤ i ∧ (i : Int) < (0 : Int) + 0) := fun h => absurd (hx.1 h) (by omega)
                  by_cases hf : 0 ≤ i
                  · have e1 : decide ((0 : Int) ≤ i) = true := decide_eq_true (by omega)
                    have e1' : decide (0 ≤ i) = true := decide_eq_true hf
                    have e2 : decide ((i : Int) < (0 : Int) + 0) = false := decide_eq_false (by omega)
                    have e2' : decide (i < 0 + 0) = false := decide_eq_false (by omega)
                    clear hx ha hb hy hi0 hj0
                    go_wp2_with fail
                    go_round
                    case rel => exact ⟨i + 1, by go_num, by omega⟩
                    case measure => simp [intOf]; omega
                  · exfalso; omega
                · have db : decide (J < (i : Int)) = false := decide_eq_false hb
                  have hy : (0 : Int) ≤ i ∧ (i : Int) < (0 : Int) + 0 := hx.2 ⟨by omega, by omega⟩
                  exfalso; omega
              · have sJ1 : decide (0 ≤ J) = false := decide_eq_false hj0
                have sJ2 : decide (J < 0) = true := decide_eq_true (by omega)
                by_cases hb : J < (i : Int) - (nn : Nat)
                · have db : decide (J < (i : Int) - (nn : Nat)) = true := decide_eq_true hb
                  have hy : ¬ ((0 : Int) ≤ i ∧ (i : Int) < (0 : Int) + 0) := fun h => absurd (hx.1 h) (by omega)
                  by_cases hf : 0 ≤ i
                  · have e1 : decide ((0 : Int) ≤ i) = true := decide_eq_true (by omega)
                    have e1' : decide (0 ≤ i) = true := decide_eq_true hf
                    have e2 : decide ((i : Int) < (0 : Int) + 0) = false := decide_eq_false (by omega)
                    have e2' : decide (i < 0 + 0) = false := decide_eq_false (by omega)
                    clear hx ha hb hy hi0 hj0
                    go_wp2_with fail
                    go_round
                    case rel => exact ⟨i + 1, by go_num, by omega⟩
                    case measure => simp [intOf]; omega
                  · exfalso; omega
                · have db : decide (J < (i : Int) - (nn : Nat)) = false := decide_eq_false hb
                  have hy : (0 : Int) ≤ i ∧ (i : Int) < (0 : Int) + 0 := hx.2 ⟨by omega, by omega⟩
                  exfalso; omega
        · have a1 : decide ((i : Int) < (nn : Nat)) = false := decide_eq_false (by omega)
          have a1' : decide (i < nn) = false := decide_eq_false hlt
          go_wp2_with fail
          go_ret
          exact ⟨rfl, HB.out⟩
    · have r1 : ((cc : Int) == 0) = false := by simp; omega
      have r1' : (cc == 0) = false := by simp; omega
      go_wp2_with fail
      go_loop [6, 7, 8, 9] (fun v6 v7 v8 v9 => ∃ i : Nat, v6 = .int .i64 i ∧ i ≤ nn) (fun v6 v7 v8 v9 => nn - (intOf v6).toNat)
      case atStart => exact ⟨0, rfl, by omega⟩
      case round =>
        obtain ⟨i, rfl, hi⟩ := hrel
        by_cases hlt : i < nn
        · have a1 : decide ((i : Int) < (nn : Nat)) = true := decide_eq_true (by omega)
          have a1' : decide (i < nn) = true := decide_eq_true hlt
          have hv2 : wrap64 ((i : Int) - (nn : Nat)) = (i : Int) - (nn : Nat) := w64 ⟨by omega, by omega⟩
          have hx := HIN.out i (by omega) (by omega)
          by_cases hi0 : 0 ≤ I
          · have sI1 : decide (0 ≤ I) = true := decide_eq_true hi0
            have sI2 : decide (I < 0) = false := decide_eq_false (by omega)
            by_cases ha : (i : Int) < I
            · have da : decide ((i : Int) < I) = true := decide_eq_true ha
              by_cases hj0 : 0 ≤ J
              · have sJ1 : decide (0 ≤ J) = true := decide_eq_true hj0
                have sJ2 : decide (J < 0) = false := decide_eq_false (by omega)
                by_cases hb : J < (i : Int)
                · have db : decide (J < (i : Int)) = true := decide_eq_true hb
                  have hy : ¬ ((ff : Int) ≤ i ∧ (i : Int) < (ff : Int) + cc) := fun h => absurd (hx.1 h) (by omega)
                  by_cases hf : ff ≤ i
                  · have e1 : decide ((ff : Int) ≤ i) = true := decide_eq_true (by omega)
                    have e1' : decide (ff ≤ i) = true := decide_eq_true hf
                    have e2 : decide ((i : Int) < (ff : Int) + cc) = false := decide_eq_false (by omega)
                    have e2' : decide (i < ff + cc) = false := decide_eq_false (by omega)
                    clear hx ha hb hy hi0 hj0
                    go_wp2_with fail
                    go_round
                    case rel => exact ⟨i + 1, by go_num, by omega⟩
                    case measure => simp [intOf]; omega
                  · have e1 : decide ((ff : Int) ≤ i) = false := decide_eq_false (by omega)
                    have e1' : decide (ff ≤ i) = false := decide_eq_false hf
                    clear hx ha hb hy hi0 hj0
                    go_wp2_with fail
                    go_round
                    case rel => exact ⟨i + 1, by go_num, by omega⟩
                    case measure => simp [intOf]; omega
                · have db : decide (J < (i : Int)) = false := decide_eq_false hb
                  have hy : ¬ ((ff : Int) ≤ i ∧ (i : Int) < (ff : Int) + cc) := fun h => absurd (hx.1 h) (by omega)
                  by_cases hf : ff ≤ i
                  · have e1 : decide ((ff : Int) ≤ i) = true := decide_eq_true (by omega)
                    have e1' : decide (ff ≤ i) = true := decide_eq_true hf
                    have e2 : decide ((i : Int) < (ff : Int) + cc) = false := decide_eq_false (by omega)
                    have e2' : decide (i < ff + cc) = false := decide_eq_false (by omega)
                    clear hx ha hb hy hi0 hj0
                    go_wp2_with fail
                    go_round
                    case rel => exact ⟨i + 1, by go_num, by omega⟩
                    case measure => simp [intOf]; omega
                  · have e1 : decide ((ff : Int) ≤ i) = false := decide_eq_false (by omega)
                    have e1' : decide (ff ≤ i) = false := decide_eq_false hf
                    clear hx ha hb hy hi0 hj0
                    go_wp2_with fail
                    go_round
                    case rel => exact ⟨i + 1, by go_num, by omega⟩
                    case measure => simp [intOf]; omega
              · have sJ1 : decide (0 ≤ J) = false := decide_eq_false hj0
                have sJ2 : decide (J < 0) = true := decide_eq_true (by omega)
                by_cases hb : J < (i : Int) - (nn : Nat)
                · have db : decide (J < (i : Int) - (nn : Nat)) = true := decide_eq_true hb
                  have hy : ¬ ((ff : Int) ≤ i ∧ (i : Int) < (ff : Int) + cc) := fun h => absurd (hx.1 h) (by omega)
                  by_cases hf : ff ≤ i
                  · have e1 : decide ((ff : Int) ≤ i) = true := decide_eq_true (by omega)
                    have e1' : decide (ff ≤ i) = true := decide_eq_true hf
                    have e2 : decide ((i : Int) < (ff : Int) + cc) = false := decide_eq_false (by omega)
                    have e2' : decide (i < ff + cc) = false := decide_eq_false (by omega)
                    clear hx ha hb hy hi0 hj0
                    go_wp2_with fail
                    go_round
                    case rel => exact ⟨i + 1, by go_num, by omega⟩
                    case measure => simp [intOf]; omega
                  · have e1 : decide ((ff : Int) ≤ i) = false := decide_eq_false (by omega)
                    have e1' : decide (ff ≤ i) = false := decide_eq_false hf
                    clear hx ha hb hy hi0 hj0
                    go_wp2_with fail
                    go_round
                    case rel => exact ⟨i + 1, by go_num, by omega⟩
                    case measure => simp [intOf]; omega
                · have db : decide (J < (i : Int) - (nn : Nat)) = false := decide_eq_false hb
                  have hy : ¬ ((ff : Int) ≤ i ∧ (i : Int) < (ff : Int) + cc) := fun h => absurd (hx.1 h) (by omega)
                  by_cases hf : ff ≤ i
                  · have e1 : decide ((ff : Int) ≤ i) = true := decide_eq_true (by omega)
                    have e1' : decide (ff ≤ i) = true := decide_eq_true hf
                    have e2 : decide ((i : Int) < (ff : Int) + cc) = false := decide_eq_false (by omega)
                    have e2' : decide (i < ff + cc) = false := decide_eq_false (by omega)
                    clear hx ha hb hy hi0 hj0
                    go_wp2_with fail
                    go_round
                    case rel => exact ⟨i + 1, by go_num, by omega⟩
                    case measure => simp [intOf]; omega
                  · have e1 : decide ((ff : Int) ≤ i) = false := decide_eq_false (by omega)
                    have e1' : decide (ff ≤ i) = false := decide_eq_false hf
                    clear hx ha hb hy hi0 hj0
                    go_wp2_with fail
                    go_round
                    case rel => exact ⟨i + 1, by go_num, by omega⟩
                    case measure => simp [intOf]; omega
            · have da : decide ((i : Int) < I) = false := decide_eq_false ha
              by_cases hj0 : 0 ≤ J
              · have sJ1 : decide (0 ≤ J) = true := decide_eq_true hj0
                have sJ2 : decide (J < 0) = false := decide_eq_false (by omega)
                by_cases hb : J < (i : Int)
                · have db : decide (J < (i : Int)) = true := decide_eq_true hb
                  have hy : ¬ ((ff : Int) ≤ i ∧ (i : Int) < (ff : Int) + cc) := fun h => absurd (hx.1 h) (by omega)
                  by_cases hf : ff ≤ i
                  · have e1 : decide ((ff : Int) ≤ i) = true := decide_eq_true (by omega)
                    have e1' : decide (ff ≤ i) = true := decide_eq_true hf
                    have e2 : decide ((i : Int) < (ff : Int) + cc) = false := decide_eq_false (by omega)
                    have e2' : decide (i < ff + cc) = false := decide_eq_false (by omega)
                    clear hx ha hb hy hi0 hj0
                    go_wp2_with fail
                    go_round
                    case rel => exact ⟨i + 1, by go_num, by omega⟩
                    case measure => simp [intOf]; omega
                  · have e1 : decide ((ff : Int) ≤ i) = false := decide_eq_false (by omega)
                    have e1' : decide (ff ≤ i) = false := decide_eq_false hf
                    clear hx ha hb hy hi0 hj0
                    go_wp2_with fail
                    go_round
                    case rel => exact ⟨i + 1, by go_num, by omega⟩
                    case measure => simp [intOf]; omega
                · have db : decide (J < (i : Int)) = false := decide_eq_false hb
                  have hy : (ff : Int) ≤ i ∧ (i : Int) < (ff : Int) + cc := hx.2 ⟨by omega, by omega⟩
                  have e1 : decide ((ff : Int) ≤ i) = true := decide_eq_true hy.1
                  have e1' : decide (ff ≤ i) = true := decide_eq_true (by omega)
                  have e2 : decide ((i : Int) < (ff : Int) + cc) = true := decide_eq_true hy.2
                  have e2' : decide (i < ff + cc) = true := decide_eq_true (by omega)
                  clear hx ha hb hy hi0 hj0
                  go_wp2_with fail
                  go_round
                  case rel => exact ⟨i + 1, by go_num, by omega⟩
                  case measure => simp [intOf]; omega
              · have sJ1 : decide (0 ≤ J) = false := decide_eq_false hj0
                have sJ2 : decide (J < 0) = true := decide_eq_true (by omega)
                by_cases hb : J < (i : Int) - (nn : Nat)
                · have db : decide (J < (i : Int) - (nn : Nat)) = true := decide_eq_true hb
                  have hy : ¬ ((ff : Int) ≤ i ∧ (i : Int) < (ff : Int) + cc) := fun h => absurd (hx.1 h) (by omega)
                  by_cases hf : ff ≤ i
                  · have e1 : decide ((ff : Int) ≤ i) = true := decide_eq_true (by omega)
                    have e1' : decide (ff ≤ i) = true := decide_eq_true hf
                    have e2 : decide ((i : Int) < (ff : Int) + cc) = false := decide_eq_false (by omega)
                    have e2' : decide (i < ff + cc) = false := decide_eq_false (by omega)
                    clear hx ha hb hy hi0 hj0
                    go_wp2_with fail
                    go_round
                    case rel => exact ⟨i + 1, by go_num, by omega⟩
                    case measure => simp [intOf]; omega
                  · have e1 : decide ((ff : Int) ≤ i) = false := decide_eq_false (by omega)
                    have e1' : decide (ff ≤ i) = false := decide_eq_false hf
                    clear hx ha hb hy hi0 hj0
                    go_wp2_with fail
                    go_round
                    case rel => exact ⟨i + 1, by go_num, by omega⟩
                    case measure => simp [intOf]; omega
                · have db : decide (J < (i : Int) - (nn : Nat)) = false := decide_eq_false hb
                  have hy : (ff : Int) ≤ i ∧ (i : Int) < (ff : Int) + cc := hx.2 ⟨by omega, by omega⟩
                  have e1 : decide ((ff : Int) ≤ i) = true := decide_eq_true hy.1
                  have e1' : decide (ff ≤ i) = true := decide_eq_true (by omega)
                  have e2 : decide ((i : Int) < (ff : Int) + cc) = true := decide_eq_true hy.2
                  have e2' : decide (i < ff + cc) = true := decide_eq_true (by omega)
                  clear hx ha hb hy hi0 hj0
                  go_wp2_with fail
                  go_round
                  case rel => exact ⟨i + 1, by go_num, by omega⟩
                  case measure => simp [intOf]; omega
          · have sI1 : decide (0 ≤ I) = false := decide_eq_false hi0
            have sI2 : decide (I < 0) = true := decide_eq_true (by omega)
            by_cases ha : (i : Int) - (nn : Nat) < I
            · have da : decide ((i : Int) - (nn : Nat) < I) = true := decide_eq_true ha
              by_cases hj0 : 0 ≤ J
              · have sJ1 : decide (0 ≤ J) = true := decide_eq_true hj0
                have sJ2 : decide (J < 0) = false := decide_eq_false (by omega)
                by_cases hb : J < (i : Int)
                · have db : decide (J < (i : Int)) = true := decide_eq_true hb
                  have hy : ¬ ((ff : Int) ≤ i ∧ (i : Int) < (ff : Int) + cc) := fun h => absurd (hx.1 h) (by omega)
                  by_cases hf : ff ≤ i
                  · have e1 : decide ((ff : Int) ≤ i) = true := decide_eq_true (by omega)
                    have e1' : decide (ff ≤ i) = true := decide_eq_true hf
                    have e2 : decide ((i : Int) < (ff : Int) + cc) = false := decide_eq_false (by omega)
                    have e2' : decide (i < ff + cc) = false := decide_eq_false (by omega)
                    clear hx ha hb hy hi0 hj0
                    go_wp2_with fail
                    go_round
                    case rel => exact ⟨i + 1, by go_num, by omega⟩
                    case measure => simp [intOf]; omega
                  · have e1 : decide ((ff : Int) ≤ i) = false := decide_eq_false (by omega)
                    have e1' : decide (ff ≤ i) = false := decide_eq_false hf
                    clear hx ha hb hy hi0 hj0
                    go_wp2_with fail
                    go_round
                    case rel => exact ⟨i + 1, by go_num, by omega⟩
                    case measure => simp [intOf]; omega
                · have db : decide (J < (i : Int)) = false := decide_eq_false hb
                  have hy : ¬ ((ff : Int) ≤ i ∧ (i : Int) < (ff : Int) + cc) := fun h => absurd (hx.1 h) (by omega)
                  by_cases hf : ff ≤ i
                  · have e1 : decide ((ff : Int) ≤ i) = true := decide_eq_true (by omega)
                    have e1' : decide (ff ≤ i) = true := decide_eq_true hf
                    have e2 : decide ((i : Int) < (ff : Int) + cc) = false := decide_eq_false (by omega)
                    have e2' : decide (i < ff + cc) = false := decide_eq_false (by omega)
                    clear hx ha hb hy hi0 hj0
                    go_wp2_with fail
                    go_round
                    case rel => exact ⟨i + 1, by go_num, by omega⟩
                    case measure => simp [intOf]; omega
                  · have e1 : decide ((ff : Int) ≤ i) = false := decide_eq_false (by omega)
                    have e1' : decide (ff ≤ i) = false := decide_eq_false hf
                    clear hx ha hb hy hi0 hj0
                    go_wp2_with fail
                    go_round
                    case rel => exact ⟨i + 1, by go_num, by omega⟩
                    case measure => simp [intOf]; omega
              · have sJ1 : decide (0 ≤ J) = false := decide_eq_false hj0
                have sJ2 : decide (J < 0) = true := decide_eq_true (by omega)
                by_cases hb : J < (i : Int) - (nn : Nat)
                · have db : decide (J < (i : Int) - (nn : Nat)) = true := decide_eq_true hb
                  have hy : ¬ ((ff : Int) ≤ i ∧ (i : Int) < (ff : Int) + cc) := fun h => absurd (hx.1 h) (by omega)
                  by_cases hf : ff ≤ i
                  · have e1 : decide ((ff : Int) ≤ i) = true := decide_eq_true (by omega)
                    have e1' : decide (ff ≤ i) = true := decide_eq_true hf
                    have e2 : decide ((i : Int) < (ff : Int) + cc) = false := decide_eq_false (by omega)
                    have e2' : decide (i < ff + cc) = false := decide_eq_false (by omega)
                    clear hx ha hb hy hi0 hj0
                    go_wp2_with fail
                    go_round
                    case rel => exact ⟨i + 1, by go_num, by omega⟩
                    case measure => simp [intOf]; omega
                  · have e1 : decide ((ff : Int) ≤ i) = false := decide_eq_false (by omega)
                    have e1' : decide (ff ≤ i) = false := decide_eq_false hf
                    clear hx ha hb hy hi0 hj0
                    go_wp2_with fail
                    go_round
                    case rel => exact ⟨i + 1, by go_num, by omega⟩
                    case measure => simp [intOf]; omega
                · have db : decide (J < (i : Int) - (nn : Nat)) = false := decide_eq_false hb
                  have hy : ¬ ((ff : Int) ≤ i ∧ (i : Int) < (ff : Int) + cc) := fun h => absurd (hx.1 h) (by omega)
                  by_cases hf : ff ≤ i
                  · have e1 : decide ((ff : Int) ≤ i) = true := decide_eq_true (by omega)
                    have e1' : decide (ff ≤ i) = true := decide_eq_true hf
                    have e2 : decide ((i : Int) < (ff : Int) + cc) = false := decide_eq_false (by omega)
                    have e2' : decide (i < ff + cc) = false := decide_eq_false (by omega)
                    clear hx ha hb hy hi0 hj0
                    go_wp2_with fail
                    go_round
                    case rel => exact ⟨i + 1, by go_num, by omega⟩
                    case measure => simp [intOf]; omega
                  · have e1 : decide ((ff : Int) ≤ i) = false := decide_eq_false (by omega)
                    have e1' : decide (ff ≤ i) = false := decide_eq_false hf
                    clear hx ha hb hy hi0 hj0
                    go_wp2_with fail
                    go_round
                    case rel => exact ⟨i + 1, by go_num, by omega⟩
                    case measure => simp [intOf]; omega
            · have da : decide ((i : Int) - (nn : Nat) < I) = false := decide_eq_false ha
              by_cases hj0 : 0 ≤ J
              · have sJ1 : decide (0 ≤ J) = true := decide_eq_true hj0
                have sJ2 : decide (J < 0) = false := decide_eq_false (by omega)
                by_cases hb : J < (i : Int)
                · have db : decide (J < (i : Int)) = true := decide_eq_true hb
                  have hy : ¬ ((ff : Int) ≤ i ∧ (i : Int) < (ff : Int) + cc) := fun h => absurd (hx.1 h) (by omega)
                  by_cases hf : ff ≤ i
                  · have e1 : decide ((ff : Int) ≤ i) = true := decide_eq_true (by omega)
                    have e1' : decide (ff ≤ i) = true := decide_eq_true hf
                    have e2 : decide ((i : Int) < (ff : Int) + cc) = false := decide_eq_false (by omega)
                    have e2' : decide (i < ff + cc) = false := decide_eq_false (by omega)
                    clear hx ha hb hy hi0 hj0
                    go_wp2_with fail
                    go_round
                    case rel => exact ⟨i + 1, by go_num, by omega⟩
                    case measure => simp [intOf]; omega
                  · have e1 : decide ((ff : Int) ≤ i) = false := decide_eq_false (by omega)
                    have e1' : decide (ff ≤ i) = false := decide_eq_false hf
                    clear hx ha hb hy hi0 hj0
                    go_wp2_with fail
                    go_round
                    case rel => exact ⟨i + 1, by go_num, by omega⟩
                    case measure => simp [intOf]; omega
                · have db : decide (J < (i : Int)) = false := decide_eq_false hb
                  have hy : (ff : Int) ≤ i ∧ (i : Int) < (ff : Int) + cc := hx.2 ⟨by omega, by omega⟩
                  have e1 : decide ((ff : Int) ≤ i) = true := decide_eq_true hy.1
                  have e1' : decide (ff ≤ i) = true := decide_eq_true (by omega)
                  have e2 : decide ((i : Int) < (ff : Int) + cc) = true := decide_eq_true hy.2
                  have e2' : decide (i < ff + cc) = true := decide_eq_true (by omega)
                  clear hx ha hb hy hi0 hj0
                  go_wp2_with fail
                  go_round
                  case rel => exact ⟨i + 1, by go_num, by omega⟩
                  case measure => simp [intOf]; omega
              · have sJ1 : decide (0 ≤ J) = false := decide_eq_false hj0
                have sJ2 : decide (J < 0) = true := decide_eq_true (by omega)
                by_cases hb : J < (i : Int) - (nn : Nat)
                · have db : decide (J < (i : Int) - (nn : Nat)) = true := decide_eq_true hb
                  have hy : ¬ ((ff : Int) ≤ i ∧ (i : Int) < (ff : Int) + cc) := fun h => absurd (hx.1 h) (by omega)
                  by_cases hf : ff ≤ i
                  · have e1 : decide ((ff : Int) ≤ i) = true := decide_eq_true (by omega)
                    have e1' : decide (ff ≤ i) = true := decide_eq_true hf
                    have e2 : decide ((i : Int) < (ff : Int) + cc) = false := decide_eq_false (by omega)
                    have e2' : decide (i < ff + cc) = false := decide_eq_false (by omega)
                    clear hx ha hb hy hi0 hj0
                    go_wp2_with fail
                    go_round
                    case rel => exact ⟨i + 1, by go_num, by omega⟩
                    case measure => simp [intOf]; omega
                  · have e1 : decide ((ff : Int) ≤ i) = false := decide_eq_false (by omega)
                    have e1' : decide (ff ≤ i) = false := decide_eq_false hf
                    clear hx ha hb hy hi0 hj0
                    go_wp2_with fail
                    go_round
                    case rel => exact ⟨i + 1, by go_num, by omega⟩
                    case measure => simp [intOf]; omega
                · have db : decide (J < (i : Int) - (nn : Nat)) = false := decide_eq_false hb
                  have hy : (ff : Int) ≤ i ∧ (i : Int) < (ff : Int) + cc := hx.2 ⟨by omega, by omega⟩
                  have e1 : decide ((ff : Int) ≤ i) = true := decide_eq_true hy.1
                  have e1' : decide (ff ≤ i) = true := decide_eq_true (by omega)
                  have e2 : decide ((i : Int) < (ff : Int) + cc) = true := decide_eq_true hy.2
                  have e2' : decide (i < ff + cc) = true := decide_eq_true (by omega)
                  clear hx ha hb hy hi0 hj0
                  go_wp2_with fail
                  go_round
                  case rel => exact ⟨i + 1, by go_num, by omega⟩
                  case measure => simp [intOf]; omega
        · have a1 : decide ((i : Int) < (nn : Nat)) = false := decide_eq_false (by omega)
          have a1' : decide (i < nn) = false := decide_eq_false hlt
          go_wp2_with fail
          go_ret
          exact ⟨rfl, HB.out⟩
end
open Go.Proofs.YtdflblegdfpdpaaDoor.Open in
theorem walk (y : AskT) (ca : Array Value) (W : World) (hK : kAsk.K W y ca.toList) (hg : gAsk y) (hG : GL W) :
    Calls Tryd.prog 6 #[.agg ca] W fun e w' => e = .returned (.bool true) ∧ Below W.heap.size W w' := by
  obtain ⟨Ap, cp, At, ct, A3, c3, A4, c4, he, _⟩ := ask_cells hK
  obtain ⟨d, lp, lt, I, J, N, ⟨f1, s1, o1⟩, ⟨f2, s2, o2⟩, ⟨f3, l3, o3⟩, ⟨f4, l4, o4⟩⟩ := y
  obtain ⟨_, _, _, hI, hJ, hN, _⟩ := hg
  obtain rfl : ca = askV d I J N f1 s1 f2 s2 f3 f4 o1 o2 o3 o4 Ap At A3 A4 lp lt l3 l4 cp ct c3 c4 := by cases ca; simp_all [askV]
  exact spans d I J N f1 s1 f2 s2 f3 f4 o1 o2 o3 o4 Ap At A3 A4 lp lt l3 l4 cp ct c3 c4 W hG (wf_i64 hI) (wf_i64 hJ) (wf_i64 hN)
end Go.Proofs.YtdflblegdfpdpaaDoor.SpanP
