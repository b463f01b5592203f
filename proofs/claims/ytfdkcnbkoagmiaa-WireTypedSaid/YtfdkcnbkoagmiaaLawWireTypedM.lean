-- JOINED by tailmerge3.py: PAx4 LinQ GenL LinW ParD ParF FedW Open TydW LawWireTyped
import Derived.Test.YtfdkcnbkoagmiaaLawWireTypedM1
import Derived.Test.YtfdkcnbkoagmiaaPAx0
import Derived.Test.YtfdkcnbkoagmiaaLinS
import Derived.Test.YtfdkcnbkoagmiaaGenN
import Derived.Test.YtfdkcnbkoagmiaaOwnL
import Derived.Deep.DeepMust
import Derived.WalkMore
import Derived.StillTailTactics
import Derived.Test.YtfdkcnbkoagmiaaChkS
import Derived.Test.YtfdkcnbkoagmiaaCopL
import Derived.Test.YtfdkcnbkoagmiaaWWords
import Derived.OpenShut
import Derived.SizedLaws
import Derived.ChangeSlices
import Derived.DataElems
import Derived.Test.YtfdkcnbkoagmiaaIsG
import Derived.Test.YtfdkcnbkoagmiaaRows
import Derived.WalkKit
import Derived.ProofKit
import Derived.ShutString
import Derived.ChangeOld
import Derived.Below

section
namespace Go.Proofs.Ytfdkcnbkoagmiaa.PA
open Go.RowKit Go.Proofs.YtfdkcnbkoagmiaaW.PrintWords Go.Proofs.YtfdkcnbkoagmiaaW.PrintLast Go.Proofs.YtfdkcnbkoagmiaaW.PrintMore
attribute [local go_sem] max2_int min2_int max_two min_two max_three min_three max_four min_four   -- for this text's walks alone
set_option linter.unusedVariables false
set_option linter.unusedSimpArgs false
def wire_quoted.l0 : Nat → List Int → Int → List Int → Int → Option (List Int × Int)
  | 0, _, _, _, _ => none
  | k + 1, x0, x4, x5, x6 => if x6 < (x0.length : Int) then (if 0 ≤ x6 then (if (rd x0 x6) = x4 then (some (x5, wrap64 (x6 + 1))) else (if (rd x0 x6) = 92 then (if x4 = 39 then (if (wrap64 (x6 + 1)) < (x0.length : Int) then (if 0 ≤ (wrap64 (x6 + 1)) then (if (rd x0 (wrap64 (x6 + 1))) = 39 then (if x5.length < 140737488355328 then (wire_quoted.l0 k x0 x4 (x5 ++ [39]) (wrap64 ((wrap64 (x6 + 1)) + 1))) else (none)) else (if x5.length < 140737488355328 then (wire_quoted.l0 k x0 x4 (x5 ++ [rd x0 x6]) (wrap64 (x6 + 1))) else (none))) else (none)) else (if x5.length < 140737488355328 then (wire_quoted.l0 k x0 x4 (x5 ++ [rd x0 x6]) (wrap64 (x6 + 1))) else (none))) else (if (wrap64 (x6 + 1)) = (x0.length : Int) then (some (([] : List Int), 0)) else (if 0 ≤ (wrap64 (x6 + 1)) then (if (wrap64 (x6 + 1)) ≤ (x0.length : Int) then ((wire_escape.f k (x0.drop ((wrap64 (x6 + 1)) : Int).toNat)).bind fun bt123 => (if x5.length < 140737488355328 then (wire_quoted.l0 k x0 x4 (x5 ++ [bt123.1]) (wrap64 ((wrap64 (x6 + bt123.2)) + 1))) else (none))) else (none)) else (none)))) else (if x5.length < 140737488355328 then (wire_quoted.l0 k x0 x4 (x5 ++ [rd x0 x6]) (wrap64 (x6 + 1))) else (none)))) else (none)) else (some (([] : List Int), 0))
def wire_quoted.f (k : Nat) (l0 : List Int) : Option (List Int × Int) := if 0 < (l0.length : Int) then (wire_quoted.l0 k l0 (rd l0 0) ([] : List Int) 1) else (none)
theorem wire_quoted.mono_l : ∀ k, (∀ y0 y1 y2 y3, LeO (wire_quoted.l0 k y0 y1 y2 y3) (wire_quoted.l0 (k + 1) y0 y1 y2 y3))
  | 0 => fun _ _ _ _ r h => by simp [wire_quoted.l0] at h
  | k + 1 => by
    have ih0 := wire_quoted.mono_l k
    · intro y0 y1 y2 y3
      unfold wire_quoted.l0
      repeat' first
      | (with_reducible exact ih0 _ _ _ _)
      | (with_reducible exact wire_escape.mono _ _)
      | (with_reducible exact LeO.refl _)
      | (with_reducible exact LeO.none _)
      | (with_reducible refine LeO.ite ?_ ?_)
      | (with_reducible refine LeO.bind ?_ (fun _ => ?_))
      | exact ih0 _ _ _ _
      | exact wire_escape.mono _ _
      | exact LeO.none _
      | refine LeO.ite ?_ ?_
      | refine LeO.bind ?_ (fun _ => ?_)
theorem wire_quoted.mono : ∀ a0 k, LeO (wire_quoted.f k a0) (wire_quoted.f (k + 1) a0) := by
  intro a0 k
  have ih0 := wire_quoted.mono_l k
  unfold wire_quoted.f
  repeat' first
      | (with_reducible exact ih0 _ _ _ _)
      | (with_reducible exact wire_escape.mono _ _)
      | (with_reducible exact LeO.refl _)
      | (with_reducible exact LeO.none _)
      | (with_reducible refine LeO.ite ?_ ?_)
      | (with_reducible refine LeO.bind ?_ (fun _ => ?_))
      | exact ih0 _ _ _ _
      | exact wire_escape.mono _ _
      | exact LeO.none _
      | refine LeO.ite ?_ ?_
      | refine LeO.bind ?_ (fun _ => ?_)
set_option maxHeartbeats 8000000 in
set_option maxRecDepth 100000 in
theorem wire_quoted.calls (k : Nat) (A0 : Option Addr) (c0 : Nat) (l0 : List Int) (r1 : List Int) (r2 : Int) (w : World) (hr0 : Kd.C (Kd.int .u8) w A0 l0.length l0) (hc0 : l0.length ≤ c0) (h : wire_quoted.f k l0 = some (r1, r2)) :
    Calls Try.prog 30 #[.slice A0 l0.length c0] w fun e w' => ∃ v0_ : Value, e = .returned (.tuple #[v0_, .int .i64 r2]) ∧ Kd.R (Kd.int .u8) 5 w' w.heap.size (fun _ => True) v0_ r1 ∧ Below w.heap.size w w' := by
  have HR0 := Aside0.mk hr0
  have HC0 := Aside0.mk hc0
  clear hr0 hc0
  have HB := Aside0.mk (Below.refl w.heap.size w)
  have H : (if 0 < (l0.length : Int) then (wire_quoted.l0 k l0 (rd l0 0) ([] : List Int) 1) else (none)) = some (r1, r2) := h
  clear h
  by_cases c2 : 0 < (l0.length : Int)
  · rw [if_pos c2] at H
    have c2b0 : decide (0 < (l0.length : Int)) = true := decide_eq_true c2
    have c2b1 : decide (0 < l0.length) = true := decide_eq_true (by omega)
    clear c2
    have H' := Aside0.mk H
    clear H
    have p110 : 0 ≤ (0 : Int) := (by omega)
    have q110 : 0 < (l0.length : Int) := of_decide_eq_true (by first | (with_reducible assumption) | assumption)
    obtain ⟨ad110, e110, hx110_0⟩ := Kd.at_int HR0.out 0 p110 q110
    cases e110
    have qi110 : (0 < l0.length) = True := eq_true (by omega)
    (try rw [show ((0 : Int)).toNat = 0 from rfl] at hx110_0)
    (try rw [Addr.add_zero'] at hx110_0)
    replace p110 := eq_true p110
    replace q110 := eq_true q110
    go_enter Try.func30, Try.ntmps30
    go_wp2
    go_loopg [5, 6] k (fun kq v5 v6 w' => ∃ (x5_1 : List Int) (x6_1 : Int), v6 = .int .i64 x6_1 ∧ Aside0 (wire_quoted.l0 kq l0 (rd l0 0) x5_1 x6_1 = some (r1, r2)) ∧ Aside0 (kq ≤ k) ∧ Aside0 (Kd.R (Kd.int .u8) 5 w' w.heap.size (fun _ => True) v5 x5_1) ∧ Aside0 (Below w.heap.size w w'))
    case atStart => exact ⟨(([] : List Int)), (1), (by first | rfl | (simp; done) | (simp [*]; done)), H', ⟨Nat.le_refl _⟩, ⟨by first | exact Kd.R_nil _ _ _ _ _ | exact Kd.N_nil _ _ _ _ _ | exact Kd.V_nil _ _ _ _ _ | exact Kd.Q_nil _ _ _ _ _ | exact Kd.S_nil _ _ _ _ _⟩, ⟨by repeat (first | (with_reducible first | exact HB.out | apply below_alloc | apply pw_below_drewN | apply below_drew1) | exact HB.out)⟩⟩
    case round =>
      clear H'
      try clear p1
      try clear q1
      try clear hx1
      try clear qi1
      try clear c2
      try clear c2b0
      try clear c2b1
      try clear p2
      try clear hx110_0
      try clear p110
      try clear q110
      obtain ⟨x5_1, x6_1, rfl, HA, HK1, HO_5, HB⟩ := hrel
      cases gk with
      | zero => exact absurd HA.out (by simp [wire_quoted.l0])
      | succ k1 =>
        have H := HA.out
        clear HA
        simp only [wire_quoted.l0] at H
        by_cases c3 : x6_1 < (l0.length : Int)
        · rw [if_pos c3] at H
          have c3b0 : decide (x6_1 < (l0.length : Int)) = true := decide_eq_true c3
          clear c3
          by_cases c4 : 0 ≤ x6_1
          · rw [if_pos c4] at H
            have c4b0 : decide (0 ≤ x6_1) = true := decide_eq_true c4
            clear c4
            by_cases c5 : (rd l0 x6_1) = (rd l0 0)
            · rw [if_pos c5] at H
              have c5b0 : ((rd l0 x6_1) == (rd l0 0)) = true := beq_iff_eq.mpr c5
              have c5b1 : ((rd l0 x6_1) != (rd l0 0)) = false := bne_eq_false_iff_eq.mpr c5
              clear c5
              simp only [Option.some.injEq, Prod.mk.injEq] at H
              obtain ⟨rfl, rfl⟩ := H
              have p111 : 0 ≤ (x6_1 : Int) := of_decide_eq_true (by first | (with_reducible assumption) | assumption)
              have q111 : x6_1 < (l0.length : Int) := of_decide_eq_true (by first | (with_reducible assumption) | assumption)
              obtain ⟨ad111, e111, hx111_0⟩ := Kd.at_int HR0.out x6_1 p111 q111
              obtain rfl : ad110 = ad111 := (by injection e111)
              replace hx111_0 := (HB.out.cell (World.block_lt_of_cell? w _ hx111_0)).trans hx111_0
              replace p111 := eq_true p111
              replace q111 := eq_true q111
              go_wp2
              go_ret2
              exact ⟨_, by first | rfl | (simp [errW_none, errW_some] <;> rfl) | (simp [*, errW_none, errW_some] <;> rfl), by (with_reducible repeat (first | apply Kd.R_alloc | apply Kd.R_drewN | apply Kd.R_drew)); exact HO_5.out, by repeat (first | (with_reducible first | exact HB.out | apply below_alloc | apply pw_below_drewN | apply below_drew1) | exact HB.out)⟩
            · rw [if_neg c5] at H
              have c5b0 : ((rd l0 x6_1) == (rd l0 0)) = false := beq_eq_false_iff_ne.mpr c5
              have c5b1 : ((rd l0 x6_1) != (rd l0 0)) = true := bne_iff_ne.mpr c5
              by_cases c6 : (rd l0 x6_1) = 92
              · rw [if_pos c6] at H
                have c6b0 : ((rd l0 x6_1) == 92) = true := beq_iff_eq.mpr c6
                have c6b1 : ((rd l0 x6_1) != 92) = false := bne_eq_false_iff_eq.mpr c6
                clear c6
                by_cases c7 : (rd l0 0) = 39
                · rw [if_pos c7] at H
                  have c7b0 : ((rd l0 0) == 39) = true := beq_iff_eq.mpr c7
                  have c7b1 : ((rd l0 0) != 39) = false := bne_eq_false_iff_eq.mpr c7
                  clear c7
                  by_cases c8 : (wrap64 (x6_1 + 1)) < (l0.length : Int)
                  · rw [if_pos c8] at H
                    have c8b0 : decide ((wrap64 (x6_1 + 1)) < (l0.length : Int)) = true := decide_eq_true c8
                    clear c8
                    obtain ⟨ji9, hji9⟩ : ∃ j_ : Int, (wrap64 (x6_1 + 1)) = j_ := ⟨_, rfl⟩
                    replace H : (if 0 ≤ (ji9) then (if (rd l0 (ji9)) = 39 then (if x5_1.length < 140737488355328 then (wire_quoted.l0 k1 l0 (rd l0 0) (x5_1 ++ [39]) (wrap64 ((ji9) + 1))) else (none)) else (if x5_1.length < 140737488355328 then (wire_quoted.l0 k1 l0 (rd l0 0) (x5_1 ++ [rd l0 x6_1]) ji9) else (none))) else (none)) = some (r1, r2) := by first | (rw [hji9] at H; exact H) | (simp only [hji9] at H ⊢; exact H)
                    (try rw [hji9] at c8b0)
                    have hji9w : (IntKind.i64.wrap (x6_1 + 1)) = ji9 := (i64_w _).trans hji9
                    by_cases c10 : 0 ≤ (ji9)
                    · rw [if_pos c10] at H
                      have c10b0 : decide (0 ≤ (ji9)) = true := decide_eq_true c10
                      clear c10
                      by_cases c11 : (rd l0 (ji9)) = 39
                      · rw [if_pos c11] at H
                        have c11b0 : ((rd l0 (ji9)) == 39) = true := beq_iff_eq.mpr c11
                        have c11b1 : ((rd l0 (ji9)) != 39) = false := bne_eq_false_iff_eq.mpr c11
                        clear c11
                        by_cases c12 : x5_1.length < 140737488355328
                        · rw [if_pos c12] at H
                          have LMc12 := Aside0.mk c12
                          clear c12
                          obtain ⟨y113, hy113⟩ : ∃ y_ : List Int, y_ = (x5_1 ++ [39]) := ⟨_, rfl⟩
                          replace H : (wire_quoted.l0 k1 l0 (rd l0 0) y113 (wrap64 ((ji9) + 1))) = some (r1, r2) := by first | (rw [hy113]; with_reducible exact H) | (have H2_ := (Option.bind_some _ _).symm.trans H; rw [hy113]; with_reducible exact H2_) | (have H2_ := (Option.bind_some _ _).symm.trans H; with_reducible exact H2_) | with_reducible exact H | (rw [hy113]; exact H) | exact H
                          have Ny113 := Aside0.mk hy113
                          clear hy113
                          have H' := Aside0.mk H
                          clear H
                          have p111 : 0 ≤ (x6_1 : Int) := of_decide_eq_true (by first | (with_reducible assumption) | assumption)
                          have q111 : x6_1 < (l0.length : Int) := of_decide_eq_true (by first | (with_reducible assumption) | assumption)
                          obtain ⟨ad111, e111, hx111_0⟩ := Kd.at_int HR0.out x6_1 p111 q111
                          obtain rfl : ad110 = ad111 := (by injection e111)
                          replace hx111_0 := (HB.out.cell (World.block_lt_of_cell? w _ hx111_0)).trans hx111_0
                          replace p111 := eq_true p111
                          replace q111 := eq_true q111
                          have p112 : 0 ≤ ((ji9) : Int) := of_decide_eq_true (by first | (with_reducible assumption) | assumption)
                          have q112 : (ji9) < (l0.length : Int) := of_decide_eq_true (by first | (with_reducible assumption) | assumption)
                          obtain ⟨ad112, e112, hx112_0⟩ := Kd.at_int HR0.out (ji9) p112 q112
                          obtain rfl : ad110 = ad112 := (by injection e112)
                          replace hx112_0 := (HB.out.cell (World.block_lt_of_cell? w _ hx112_0)).trans hx112_0
                          replace p112 := eq_true p112
                          replace q112 := eq_true q112
                          go_wp2_with (first | ((with_reducible refine gate_builtin (b := .append) (xs := #[.tmp 70, .tmp 72]) rfl ?_); at_builtin; refine Kd.R_append (Kd.int .u8) (w0 := w) w.heap.size rfl (.tmp 70) (.tmp 72) 26 5 (.int .u8 0) 1 rfl Try.underlying26 info5 rfl (by decide) (by omega) u5 x5_1 39 [.int .u8 39] (fun _ => True) (fun _ => False) rfl rfl ?aP (fun _ hk => hk.elim) ?aF ?aO ?aB ?aS ?aL ?_; (case aP => exact rfl); (case aB => exact (by repeat (first | (with_reducible first | exact HB.out | apply below_alloc | apply pw_below_drewN | apply below_drew1) | exact HB.out))); (case aF => exact (fun _ _ => trivial)); (case aO => exact (by (with_reducible repeat (first | apply Kd.R_alloc | apply Kd.R_drewN | apply Kd.R_drew)); exact HO_5.out)); (case aS => exact (below_size (by repeat (first | (with_reducible first | exact HB.out | apply below_alloc | apply pw_below_drewN | apply below_drew1) | exact HB.out)))); (case aL => have := LMc12.out; omega); intro v114 w13 ho hb hg hat; rw [← Ny113.out] at ho; have n0_ := Aside0.mk (hb); have n1_ := Aside0.mk (ho); clear HB; clear HO_5; have HB := n0_; have HO115 := n1_; clear n0_ n1_; clear ho hb hg hat))
                          go_roundg k1
                          case measure => have := HK1.out; omega
                          case rel => exact ⟨(y113), (wrap64 ((ji9) + 1)), (by first | rfl | (simp; done) | (simp only [← hji9] <;> (first | rfl | simp)) | (simp [*]; done)), H', ⟨by have := HK1.out; omega⟩, ⟨by (with_reducible repeat (first | apply Kd.R_alloc | apply Kd.R_drewN | apply Kd.R_drew)); exact HO115.out⟩, ⟨by repeat (first | (with_reducible first | exact HB.out | apply below_alloc | apply pw_below_drewN | apply below_drew1) | exact HB.out)⟩⟩
                        · rw [if_neg c12] at H
                          exact absurd H (by simp)
                      · rw [if_neg c11] at H
                        have c11b0 : ((rd l0 (ji9)) == 39) = false := beq_eq_false_iff_ne.mpr c11
                        have c11b1 : ((rd l0 (ji9)) != 39) = true := bne_iff_ne.mpr c11
                        by_cases c14 : x5_1.length < 140737488355328
                        · rw [if_pos c14] at H
                          have LMc14 := Aside0.mk c14
                          clear c14
                          obtain ⟨y116, hy116⟩ : ∃ y_ : List Int, y_ = (x5_1 ++ [rd l0 x6_1]) := ⟨_, rfl⟩
                          replace H : (wire_quoted.l0 k1 l0 (rd l0 0) y116 ji9) = some (r1, r2) := by first | (rw [hy116]; with_reducible exact H) | (have H2_ := (Option.bind_some _ _).symm.trans H; rw [hy116]; with_reducible exact H2_) | (have H2_ := (Option.bind_some _ _).symm.trans H; with_reducible exact H2_) | with_reducible exact H | (rw [hy116]; exact H) | exact H
                          have Ny116 := Aside0.mk hy116
                          clear hy116
                          have H' := Aside0.mk H
                          clear H
                          have p111 : 0 ≤ (x6_1 : Int) := of_decide_eq_true (by first | (with_reducible assumption) | assumption)
                          have q111 : x6_1 < (l0.length : Int) := of_decide_eq_true (by first | (with_reducible assumption) | assumption)
                          obtain ⟨ad111, e111, hx111_0⟩ := Kd.at_int HR0.out x6_1 p111 q111
                          obtain rfl : ad110 = ad111 := (by injection e111)
                          replace hx111_0 := (HB.out.cell (World.block_lt_of_cell? w _ hx111_0)).trans hx111_0
                          replace p111 := eq_true p111
                          replace q111 := eq_true q111
                          have p112 : 0 ≤ ((ji9) : Int) := of_decide_eq_true (by first | (with_reducible assumption) | assumption)
                          have q112 : (ji9) < (l0.length : Int) := of_decide_eq_true (by first | (with_reducible assumption) | assumption)
                          obtain ⟨ad112, e112, hx112_0⟩ := Kd.at_int HR0.out (ji9) p112 q112
                          obtain rfl : ad110 = ad112 := (by injection e112)
                          replace hx112_0 := (HB.out.cell (World.block_lt_of_cell? w _ hx112_0)).trans hx112_0
                          replace p112 := eq_true p112
                          replace q112 := eq_true q112
                          go_wp2_with (first | ((with_reducible refine gate_builtin (b := .append) (xs := #[.tmp 70, .tmp 72]) rfl ?_); at_builtin; refine Kd.R_append (Kd.int .u8) (w0 := w) w.heap.size rfl (.tmp 70) (.tmp 72) 26 5 (.int .u8 0) 1 rfl Try.underlying26 info5 rfl (by decide) (by omega) u5 x5_1 (rd l0 x6_1) [.int .u8 (rd l0 x6_1)] (fun _ => True) (fun _ => False) rfl rfl ?aP (fun _ hk => hk.elim) ?aF ?aO ?aB ?aS ?aL ?_; (case aP => exact rfl); (case aB => exact (by repeat (first | (with_reducible first | exact HB.out | apply below_alloc | apply pw_below_drewN | apply below_drew1) | exact HB.out))); (case aF => exact (fun _ _ => trivial)); (case aO => exact (by (with_reducible repeat (first | apply Kd.R_alloc | apply Kd.R_drewN | apply Kd.R_drew)); exact HO_5.out)); (case aS => exact (below_size (by repeat (first | (with_reducible first | exact HB.out | apply below_alloc | apply pw_below_drewN | apply below_drew1) | exact HB.out)))); (case aL => have := LMc14.out; omega); intro v117 w15 ho hb hg hat; rw [← Ny116.out] at ho; have n0_ := Aside0.mk (hb); have n1_ := Aside0.mk (ho); clear HB; clear HO_5; have HB := n0_; have HO118 := n1_; clear n0_ n1_; clear ho hb hg hat))
                          go_roundg k1
                          case measure => have := HK1.out; omega
                          case rel => exact ⟨(y116), (ji9), (by first | rfl | (simp; done) | (simp only [← hji9] <;> (first | rfl | simp)) | (simp [*]; done)), H', ⟨by have := HK1.out; omega⟩, ⟨by (with_reducible repeat (first | apply Kd.R_alloc | apply Kd.R_drewN | apply Kd.R_drew)); exact HO118.out⟩, ⟨by repeat (first | (with_reducible first | exact HB.out | apply below_alloc | apply pw_below_drewN | apply below_drew1) | exact HB.out)⟩⟩
                        · rw [if_neg c14] at H
                          exact absurd H (by simp)
                    · rw [if_neg c10] at H
                      exact absurd H (by simp)
                  · rw [if_neg c8] at H
                    have c8b0 : decide ((wrap64 (x6_1 + 1)) < (l0.length : Int)) = false := decide_eq_false c8
                    clear c8
                    by_cases c16 : x5_1.length < 140737488355328
                    · rw [if_pos c16] at H
                      have LMc16 := Aside0.mk c16
                      clear c16
                      obtain ⟨y119, hy119⟩ : ∃ y_ : List Int, y_ = (x5_1 ++ [rd l0 x6_1]) := ⟨_, rfl⟩
                      replace H : (wire_quoted.l0 k1 l0 (rd l0 0) y119 (wrap64 (x6_1 + 1))) = some (r1, r2) := by first | (rw [hy119]; with_reducible exact H) | (have H2_ := (Option.bind_some _ _).symm.trans H; rw [hy119]; with_reducible exact H2_) | (have H2_ := (Option.bind_some _ _).symm.trans H; with_reducible exact H2_) | with_reducible exact H | (rw [hy119]; exact H) | exact H
                      have Ny119 := Aside0.mk hy119
                      clear hy119
                      have H' := Aside0.mk H
                      clear H
                      have p111 : 0 ≤ (x6_1 : Int) := of_decide_eq_true (by first | (with_reducible assumption) | assumption)
                      have q111 : x6_1 < (l0.length : Int) := of_decide_eq_true (by first | (with_reducible assumption) | assumption)
                      obtain ⟨ad111, e111, hx111_0⟩ := Kd.at_int HR0.out x6_1 p111 q111
                      obtain rfl : ad110 = ad111 := (by injection e111)
                      replace hx111_0 := (HB.out.cell (World.block_lt_of_cell? w _ hx111_0)).trans hx111_0
                      replace p111 := eq_true p111
                      replace q111 := eq_true q111
                      go_wp2_with (first | ((with_reducible refine gate_builtin (b := .append) (xs := #[.tmp 70, .tmp 72]) rfl ?_); at_builtin; refine Kd.R_append (Kd.int .u8) (w0 := w) w.heap.size rfl (.tmp 70) (.tmp 72) 26 5 (.int .u8 0) 1 rfl Try.underlying26 info5 rfl (by decide) (by omega) u5 x5_1 (rd l0 x6_1) [.int .u8 (rd l0 x6_1)] (fun _ => True) (fun _ => False) rfl rfl ?aP (fun _ hk => hk.elim) ?aF ?aO ?aB ?aS ?aL ?_; (case aP => exact rfl); (case aB => exact (by repeat (first | (with_reducible first | exact HB.out | apply below_alloc | apply pw_below_drewN | apply below_drew1) | exact HB.out))); (case aF => exact (fun _ _ => trivial)); (case aO => exact (by (with_reducible repeat (first | apply Kd.R_alloc | apply Kd.R_drewN | apply Kd.R_drew)); exact HO_5.out)); (case aS => exact (below_size (by repeat (first | (with_reducible first | exact HB.out | apply below_alloc | apply pw_below_drewN | apply below_drew1) | exact HB.out)))); (case aL => have := LMc16.out; omega); intro v120 w17 ho hb hg hat; rw [← Ny119.out] at ho; have n0_ := Aside0.mk (hb); have n1_ := Aside0.mk (ho); clear HB; clear HO_5; have HB := n0_; have HO121 := n1_; clear n0_ n1_; clear ho hb hg hat))
                      go_roundg k1
                      case measure => have := HK1.out; omega
                      case rel => exact ⟨(y119), (wrap64 (x6_1 + 1)), (by first | rfl | (simp; done) | (simp [*]; done)), H', ⟨by have := HK1.out; omega⟩, ⟨by (with_reducible repeat (first | apply Kd.R_alloc | apply Kd.R_drewN | apply Kd.R_drew)); exact HO121.out⟩, ⟨by repeat (first | (with_reducible first | exact HB.out | apply below_alloc | apply pw_below_drewN | apply below_drew1) | exact HB.out)⟩⟩
                    · rw [if_neg c16] at H
                      exact absurd H (by simp)
                · rw [if_neg c7] at H
                  have c7b0 : ((rd l0 0) == 39) = false := beq_eq_false_iff_ne.mpr c7
                  have c7b1 : ((rd l0 0) != 39) = true := bne_iff_ne.mpr c7
                  by_cases c18 : (wrap64 (x6_1 + 1)) = (l0.length : Int)
                  · rw [if_pos c18] at H
                    have c18b0 : ((wrap64 (x6_1 + 1)) == (l0.length : Int)) = true := beq_iff_eq.mpr c18
                    have c18b1 : ((wrap64 (x6_1 + 1)) != (l0.length : Int)) = false := bne_eq_false_iff_eq.mpr c18
                    clear c18
                    simp only [Option.some.injEq, Prod.mk.injEq] at H
                    obtain ⟨rfl, rfl⟩ := H
                    have p111 : 0 ≤ (x6_1 : Int) := of_decide_eq_true (by first | (with_reducible assumption) | assumption)
                    have q111 : x6_1 < (l0.length : Int) := of_decide_eq_true (by first | (with_reducible assumption) | assumption)
                    obtain ⟨ad111, e111, hx111_0⟩ := Kd.at_int HR0.out x6_1 p111 q111
                    obtain rfl : ad110 = ad111 := (by injection e111)
                    replace hx111_0 := (HB.out.cell (World.block_lt_of_cell? w _ hx111_0)).trans hx111_0
                    replace p111 := eq_true p111
                    replace q111 := eq_true q111
                    go_wp2
                    go_ret2
                    exact ⟨_, by first | rfl | (simp [errW_none, errW_some] <;> rfl) | (simp [*, errW_none, errW_some] <;> rfl), by first | exact Kd.R_nil _ _ _ _ _ | exact Kd.N_nil _ _ _ _ _ | exact Kd.V_nil _ _ _ _ _ | exact Kd.Q_nil _ _ _ _ _ | exact Kd.S_nil _ _ _ _ _, by repeat (first | (with_reducible first | exact HB.out | apply below_alloc | apply pw_below_drewN | apply below_drew1) | exact HB.out)⟩
                  · rw [if_neg c18] at H
                    have c18b0 : ((wrap64 (x6_1 + 1)) == (l0.length : Int)) = false := beq_eq_false_iff_ne.mpr c18
                    have c18b1 : ((wrap64 (x6_1 + 1)) != (l0.length : Int)) = true := bne_iff_ne.mpr c18
                    obtain ⟨ji19, hji19⟩ : ∃ j_ : Int, (wrap64 (x6_1 + 1)) = j_ := ⟨_, rfl⟩
                    replace H : (if 0 ≤ (ji19) then (if (ji19) ≤ (l0.length : Int) then ((wire_escape.f k1 (l0.drop ((ji19) : Int).toNat)).bind fun bt123 => (if x5_1.length < 140737488355328 then (wire_quoted.l0 k1 l0 (rd l0 0) (x5_1 ++ [bt123.1]) (wrap64 ((wrap64 (x6_1 + bt123.2)) + 1))) else (none))) else (none)) else (none)) = some (r1, r2) := by first | (rw [hji19] at H; exact H) | (simp only [hji19] at H ⊢; exact H)
                    (try rw [hji19] at c18b0)
                    (try rw [hji19] at c18b1)
                    have hji19w : (IntKind.i64.wrap (x6_1 + 1)) = ji19 := (i64_w _).trans hji19
                    by_cases c20 : 0 ≤ (ji19)
                    · rw [if_pos c20] at H
                      have c20b0 := eq_true c20
                      have c20b1 : decide (0 ≤ (ji19)) = true := decide_eq_true c20
                      clear c20
                      by_cases c21 : (ji19) ≤ (l0.length : Int)
                      · rw [if_pos c21] at H
                        have c21b0 := eq_true c21
                        have c21b1 : decide ((ji19) ≤ (l0.length : Int)) = true := decide_eq_true c21
                        clear c21
                        replace H := Option.bind_eq_some_iff.mp H
                        obtain ⟨⟨t123, t124⟩, A220, H⟩ := H
                        replace H : (if x5_1.length < 140737488355328 then (wire_quoted.l0 k1 l0 (rd l0 0) (x5_1 ++ [t123]) (wrap64 ((wrap64 (x6_1 + t124)) + 1))) else (none)) = some (r1, r2) := H
                        have A22 := Aside0.mk A220
                        clear A220
                        by_cases c23 : x5_1.length < 140737488355328
                        · rw [if_pos c23] at H
                          have LMc23 := Aside0.mk c23
                          clear c23
                          obtain ⟨y125, hy125⟩ : ∃ y_ : List Int, y_ = (x5_1 ++ [t123]) := ⟨_, rfl⟩
                          replace H : (wire_quoted.l0 k1 l0 (rd l0 0) y125 (wrap64 ((wrap64 (x6_1 + t124)) + 1))) = some (r1, r2) := by first | (rw [hy125]; with_reducible exact H) | (have H2_ := (Option.bind_some _ _).symm.trans H; rw [hy125]; with_reducible exact H2_) | (have H2_ := (Option.bind_some _ _).symm.trans H; with_reducible exact H2_) | with_reducible exact H | (rw [hy125]; exact H) | exact H
                          have Ny125 := Aside0.mk hy125
                          clear hy125
                          have H' := Aside0.mk H
                          clear H
                          have p111 : 0 ≤ (x6_1 : Int) := of_decide_eq_true (by first | (with_reducible assumption) | assumption)
                          have q111 : x6_1 < (l0.length : Int) := of_decide_eq_true (by first | (with_reducible assumption) | assumption)
                          obtain ⟨ad111, e111, hx111_0⟩ := Kd.at_int HR0.out x6_1 p111 q111
                          obtain rfl : ad110 = ad111 := (by injection e111)
                          replace hx111_0 := (HB.out.cell (World.block_lt_of_cell? w _ hx111_0)).trans hx111_0
                          replace p111 := eq_true p111
                          replace q111 := eq_true q111
                          obtain ⟨i024, hi024, _, hsz24, _⟩ := info_parts info5
                          obtain ⟨A24, hcut24, hA24, hC24⟩ := print_drop_of (P := Try.prog) (Value.int .u8) 0 26 5 .i64 Try.underlying26 hi024 hsz24 (some ad110) c0 l0 (ji19) (of_decide_eq_true (by first | (with_reducible assumption) | assumption)) (of_decide_eq_true (by first | (with_reducible assumption) | assumption)) HC0.out
                          have HR122 := Aside0.mk (Kd.C_of_reads (h1 := fun _ => rfl) (hA24 _ (Kd.reads_of_C HR0.out)))
                          have HC122 := Aside0.mk hC24
                          clear hA24 hC24 hi024 hsz24
                          go_wp2_with (first | ((with_reducible refine gate_callee (f := 41) rfl ?_); refine goesL_ (some 28) rfl rfl Try.func41 (by kernel_rfl) rfl #[.slice A24 (l0.drop ((ji19) : Int).toNat).length (c0 - (ji19).toNat)] rfl (by (try simp only [List.map_toArray, List.map_cons, List.map_nil]); first | done | (rw [show (l0.drop ((ji19) : Int).toNat).length = (l0.length - (ji19).toNat) from List.length_drop] <;> rfl) | (simp only [hji19]; rfl) | rfl | (simp only [List.length_drop, List.length_take]; rfl)) ?_; (with_reducible refine (wire_escape.calls k1 _ _ (l0.drop ((ji19) : Int).toNat) t123 t124 _ ?side1 ?side2 A22.out).mono ?_); (case side1 => repeat (first | exact (Kd.C_below HR122.out HB.out) | (with_reducible refine Kd.C_alloc ?_ _) | (with_reducible refine Kd.C_drewN ?_ _) | (with_reducible refine Kd.C_drew ?_))); (case side2 => exact HC122.out); rintro e w' ⟨rfl, ⟨nd, rfl⟩⟩; refine ⟨_, rfl, ?_⟩) | ((with_reducible refine gate_builtin (b := .append) (xs := #[.tmp 31, .tmp 33]) rfl ?_); at_builtin; refine Kd.R_append (Kd.int .u8) (w0 := w) w.heap.size rfl (.tmp 31) (.tmp 33) 26 5 (.int .u8 0) 1 rfl Try.underlying26 info5 rfl (by decide) (by omega) u5 x5_1 t123 [.int .u8 t123] (fun _ => True) (fun _ => False) rfl rfl ?aP (fun _ hk => hk.elim) ?aF ?aO ?aB ?aS ?aL ?_; (case aP => exact rfl); (case aB => exact (by repeat (first | (with_reducible first | exact HB.out | apply below_alloc | apply pw_below_drewN | apply below_drew1) | exact HB.out))); (case aF => exact (fun _ _ => trivial)); (case aO => exact (by (with_reducible repeat (first | apply Kd.R_alloc | apply Kd.R_drewN | apply Kd.R_drew)); exact HO_5.out)); (case aS => exact (below_size (by repeat (first | (with_reducible first | exact HB.out | apply below_alloc | apply pw_below_drewN | apply below_drew1) | exact HB.out)))); (case aL => have := LMc23.out; omega); intro v126 w25 ho hb hg hat; rw [← Ny125.out] at ho; have n0_ := Aside0.mk (hb); have n1_ := Aside0.mk (ho); clear HB; clear HO_5; have HB := n0_; have HO127 := n1_; clear n0_ n1_; clear ho hb hg hat))
                          go_roundg k1
                          case measure => have := HK1.out; omega
                          case rel => exact ⟨(y125), (wrap64 ((wrap64 (x6_1 + t124)) + 1)), (by first | rfl | (simp; done) | (simp [*]; done)), H', ⟨by have := HK1.out; omega⟩, ⟨by (with_reducible repeat (first | apply Kd.R_alloc | apply Kd.R_drewN | apply Kd.R_drew)); exact HO127.out⟩, ⟨by repeat (first | (with_reducible first | exact HB.out | apply below_alloc | apply pw_below_drewN | apply below_drew1) | exact HB.out)⟩⟩
                        · rw [if_neg c23] at H
                          exact absurd H (by simp)
                      · rw [if_neg c21] at H
                        exact absurd H (by simp)
                    · rw [if_neg c20] at H
                      exact absurd H (by simp)
              · rw [if_neg c6] at H
                have c6b0 : ((rd l0 x6_1) == 92) = false := beq_eq_false_iff_ne.mpr c6
                have c6b1 : ((rd l0 x6_1) != 92) = true := bne_iff_ne.mpr c6
                by_cases c26 : x5_1.length < 140737488355328
                · rw [if_pos c26] at H
                  have LMc26 := Aside0.mk c26
                  clear c26
                  obtain ⟨y128, hy128⟩ : ∃ y_ : List Int, y_ = (x5_1 ++ [rd l0 x6_1]) := ⟨_, rfl⟩
                  replace H : (wire_quoted.l0 k1 l0 (rd l0 0) y128 (wrap64 (x6_1 + 1))) = some (r1, r2) := by first | (rw [hy128]; with_reducible exact H) | (have H2_ := (Option.bind_some _ _).symm.trans H; rw [hy128]; with_reducible exact H2_) | (have H2_ := (Option.bind_some _ _).symm.trans H; with_reducible exact H2_) | with_reducible exact H | (rw [hy128]; exact H) | exact H
                  have Ny128 := Aside0.mk hy128
                  clear hy128
                  have H' := Aside0.mk H
                  clear H
                  have p111 : 0 ≤ (x6_1 : Int) := of_decide_eq_true (by first | (with_reducible assumption) | assumption)
                  have q111 : x6_1 < (l0.length : Int) := of_decide_eq_true (by first | (with_reducible assumption) | assumption)
                  obtain ⟨ad111, e111, hx111_0⟩ := Kd.at_int HR0.out x6_1 p111 q111
                  obtain rfl : ad110 = ad111 := (by injection e111)
                  replace hx111_0 := (HB.out.cell (World.block_lt_of_cell? w _ hx111_0)).trans hx111_0
                  replace p111 := eq_true p111
                  replace q111 := eq_true q111
                  go_wp2_with (first | ((with_reducible refine gate_builtin (b := .append) (xs := #[.tmp 48, .tmp 50]) rfl ?_); at_builtin; refine Kd.R_append (Kd.int .u8) (w0 := w) w.heap.size rfl (.tmp 48) (.tmp 50) 26 5 (.int .u8 0) 1 rfl Try.underlying26 info5 rfl (by decide) (by omega) u5 x5_1 (rd l0 x6_1) [.int .u8 (rd l0 x6_1)] (fun _ => True) (fun _ => False) rfl rfl ?aP (fun _ hk => hk.elim) ?aF ?aO ?aB ?aS ?aL ?_; (case aP => exact rfl); (case aB => exact (by repeat (first | (with_reducible first | exact HB.out | apply below_alloc | apply pw_below_drewN | apply below_drew1) | exact HB.out))); (case aF => exact (fun _ _ => trivial)); (case aO => exact (by (with_reducible repeat (first | apply Kd.R_alloc | apply Kd.R_drewN | apply Kd.R_drew)); exact HO_5.out)); (case aS => exact (below_size (by repeat (first | (with_reducible first | exact HB.out | apply below_alloc | apply pw_below_drewN | apply below_drew1) | exact HB.out)))); (case aL => have := LMc26.out; omega); intro v129 w27 ho hb hg hat; rw [← Ny128.out] at ho; have n0_ := Aside0.mk (hb); have n1_ := Aside0.mk (ho); clear HB; clear HO_5; have HB := n0_; have HO130 := n1_; clear n0_ n1_; clear ho hb hg hat))
                  go_roundg k1
                  case measure => have := HK1.out; omega
                  case rel => exact ⟨(y128), (wrap64 (x6_1 + 1)), (by first | rfl | (simp; done) | (simp [*]; done)), H', ⟨by have := HK1.out; omega⟩, ⟨by (with_reducible repeat (first | apply Kd.R_alloc | apply Kd.R_drewN | apply Kd.R_drew)); exact HO130.out⟩, ⟨by repeat (first | (with_reducible first | exact HB.out | apply below_alloc | apply pw_below_drewN | apply below_drew1) | exact HB.out)⟩⟩
                · rw [if_neg c26] at H
                  exact absurd H (by simp)
          · rw [if_neg c4] at H
            exact absurd H (by simp)
        · rw [if_neg c3] at H
          have c3b0 : decide (x6_1 < (l0.length : Int)) = false := decide_eq_false c3
          clear c3
          simp only [Option.some.injEq, Prod.mk.injEq] at H
          obtain ⟨rfl, rfl⟩ := H
          go_wp2
          go_ret2
          exact ⟨_, by first | rfl | (simp [errW_none, errW_some] <;> rfl) | (simp [*, errW_none, errW_some] <;> rfl), by first | exact Kd.R_nil _ _ _ _ _ | exact Kd.N_nil _ _ _ _ _ | exact Kd.V_nil _ _ _ _ _ | exact Kd.Q_nil _ _ _ _ _ | exact Kd.S_nil _ _ _ _ _, by repeat (first | (with_reducible first | exact HB.out | apply below_alloc | apply pw_below_drewN | apply below_drew1) | exact HB.out)⟩
  · rw [if_neg c2] at H
    exact absurd H (by simp)
end Go.Proofs.Ytfdkcnbkoagmiaa.PA
end

section
namespace Go.Proofs.Ytfdkcnbkoagmiaa.LinQ
open Go Go.RowKit Go.Proofs.YtfdkcnbkoagmiaaW.PrintWords Go.Proofs.YtfdkcnbkoagmiaaW.PrintLast Go.Proofs.YtfdkcnbkoagmiaaW.PrintMore Go.Proofs.Ytfdkcnbkoagmiaa.PA Go.Proofs.Ytfdkcnbkoagmiaa.LinS
set_option linter.unusedVariables false
set_option maxRecDepth 100000
theorem blank_f (c : Int) : wire_blank.f c = some (LinS.blank c) := by
  unfold wire_blank.f LinS.blank
  by_cases h1 : c ≥ 9
  · by_cases h2 : c ≤ 13
    · rw [if_pos h1, if_pos h2, decide_eq_true (by omega)]
    · rw [if_pos h1, if_neg h2]
      congr 1
      by_cases h3 : c = 32
      · subst h3; rfl
      · rw [decide_eq_false (by omega)]
        simpa using h3
  · rw [if_neg h1]
    congr 1
    by_cases h3 : c = 32
    · subst h3; rfl
    · rw [decide_eq_false (by omega)]
      simpa using h3
theorem hex_f (c : Int) (h : 0 ≤ c ∧ c < 256) (k : Nat) : wire_hex.f (k + 2) c = some (hexv c) := by
  have j1 : ∀ b : Bool, wire_hex.j1 (k + 1) c b = if b = true then some ((c - 97) % 256 + 10) else if c ≥ 65 then (if c ≤ 70 then some ((c - 65) % 256 + 10) else some (-1)) else some (-1) := fun b => by rw [wire_hex.j1]
  unfold wire_hex.f hexv
  have j0 : ∀ b : Bool, wire_hex.j0 (k + 2) c b = if b = true then some ((c - 48) % 256) else if c ≥ 97 then wire_hex.j1 (k + 1) c (decide (c ≤ 102)) else wire_hex.j1 (k + 1) c false := fun b => by rw [wire_hex.j0]
  simp only [j0, j1]
  by_cases a1 : c ≥ 48
  · by_cases a2 : c ≤ 57
    · simp only [if_pos a1, decide_eq_true a2, if_true]
      rw [if_pos ⟨by omega, a2⟩]
      congr 1; omega
    · rw [if_neg (show ¬ (48 ≤ c ∧ c ≤ 57) by omega)]
      simp only [if_pos a1, decide_eq_false a2, Bool.false_eq_true, if_false]
      by_cases b1 : c ≥ 97
      · by_cases b2 : c ≤ 102
        · simp only [if_pos b1, decide_eq_true b2, if_true]
          rw [if_pos ⟨by omega, b2⟩]
          congr 1; omega
        · simp only [if_pos b1, decide_eq_false b2, Bool.false_eq_true, if_false]
          rw [if_neg (show ¬ (97 ≤ c ∧ c ≤ 102) by omega), if_neg (show ¬ (65 ≤ c ∧ c ≤ 70) by omega), if_pos (show c ≥ 65 by omega), if_neg (show ¬ c ≤ 70 by omega)]
      · simp only [if_neg b1]
        rw [if_neg (show ¬ (97 ≤ c ∧ c ≤ 102) by omega)]
        by_cases c1 : c ≥ 65
        · by_cases c2 : c ≤ 70
          · rw [if_pos c1, if_pos c2, if_pos ⟨by omega, c2⟩]
            congr 1; omega
          · rw [if_pos c1, if_neg c2, if_neg (by omega)]
        · rw [if_neg c1, if_neg (by omega)]
  · simp only [if_neg a1, Bool.false_eq_true, if_false, if_neg (show ¬ c ≥ 97 by omega)]
    rw [if_neg (by omega), if_neg (by omega), if_neg (by omega), if_neg (by omega)]
theorem hexv_le (c : Int) : hexv c < 16 := by unfold hexv; repeat' split
                                              all_goals omega
theorem esc_f (d : Int) (r : List Int) (hd : 0 ≤ d ∧ d < 256) (hr : inB r) (k : Nat) : wire_escape.f (k + 2) (d :: r) = some ((esc d r).1, ((esc d r).2 : Int)) := by
  unfold wire_escape.f
  rw [if_pos (by simp only [List.length_cons]; omega), show rd (d :: r) 0 = d from rfl]
  unfold esc
  by_cases h1 : d = 110
  · rw [if_pos h1, if_pos h1]; rfl
  rw [if_neg h1, if_neg h1]
  by_cases h2 : d = 114
  · rw [if_pos h2, if_pos h2]; rfl
  rw [if_neg h2, if_neg h2]
  by_cases h3 : d = 116
  · rw [if_pos h3, if_pos h3]; rfl
  rw [if_neg h3, if_neg h3]
  by_cases h4 : d = 98
  · rw [if_pos h4, if_pos h4]; rfl
  rw [if_neg h4, if_neg h4]
  by_cases h5 : d = 97
  · rw [if_pos h5, if_pos h5]; rfl
  rw [if_neg h5, if_neg h5]
  by_cases h6 : d = 120
  · rw [if_pos h6, if_pos h6]
    match r, hr with
    | [], _ => rfl
    | [x], _ => rfl
    | h :: l :: r, hr =>
      have hh := hr h (by simp)
      have hl := hr l (by simp)
      have e3 : ((d :: h :: l :: r).length : Int) > 2 := by simp only [List.length_cons]; omega
      rw [if_pos e3, if_pos (by omega), show rd (d :: h :: l :: r) 1 = h from rfl, show rd (d :: h :: l :: r) 2 = l from rfl, hex_f h hh, hex_f l hl]
      simp only [Option.bind_some]
      rw [if_pos (show (2 : Int) < _ from e3)]
      have := hexv_le h
      have := hexv_le l
      by_cases g1 : hexv h ≥ 0
      · by_cases g2 : hexv l ≥ 0
        · rw [if_pos g1, if_pos g2, if_pos ⟨g1, g2⟩]
          unfold wrap64
          simp only [Option.some.injEq, Prod.mk.injEq]
          exact ⟨by omega, rfl⟩
        · rw [if_pos g1, if_neg g2, if_neg (fun h => g2 h.2)]
          rfl
      · rw [if_neg g1, if_neg (fun h => g1 h.1)]
        rfl
  · rw [if_neg h6, if_neg h6]; rfl
def qans (o : Option (List Int × Nat)) : List Int × Int := match o with | none => ([], 0) | some (p, n) => (p, n)
theorem esc_byte (d : Int) (r : List Int) (hd : 0 ≤ d ∧ d < 256) : 0 ≤ (esc d r).1 ∧ (esc d r).1 < 256 := by
  unfold esc
  repeat' split
  all_goals first | omega | (simp only; omega) | skip
  all_goals (next h l _ g => have := hexv_le h; have := hexv_le l; constructor <;> (simp only; omega))
theorem wr1 (n : Nat) (h : n ≤ 2000000000) : wrap64 ((n : Int) + 1) = ((n + 1 : Nat) : Int) := by unfold wrap64; omega
theorem wr2 (i n : Nat) (h : i ≤ 1000000000) (h2 : n ≤ 3) : wrap64 (wrap64 ((i : Int) + (n : Int)) + 1) = ((i + 1 + n : Nat) : Int) := by unfold wrap64; omega
theorem quoted_l (x : List Int) (hx : inB x) (hlen : x.length ≤ 1000000000) (q : Int) (hq : q = 34 ∨ q = 39) : ∀ (m : Nat) (i : Nat) (w : List Int) (k : Nat), x.length - i ≤ m → i ≤ x.length → w.length ≤ i → m + 3 ≤ k → wire_quoted.l0 k x q w (i : Int) = some (qans (qd q (x.drop i) w i)) := by
  intro m
  induction m with
  | zero =>
    intro i w k hm hi hw hk
    obtain ⟨k, rfl⟩ : ∃ k', k = k' + 1 := ⟨k - 1, by omega⟩
    rw [wire_quoted.l0, if_neg (by omega), List.drop_of_length_le (by omega), qd.eq_def]
    rfl
  | succ m ih =>
    intro i w k hm hi hw hk
    obtain ⟨k, rfl⟩ : ∃ k', k = k' + 1 := ⟨k - 1, by omega⟩
    rw [wire_quoted.l0]
    by_cases h : i < x.length
    · have hc := hx x[i] (List.getElem_mem h)
      have hrd : rd x (i : Int) = x[i] := by
        show x.getD (i : Int).toNat 0 = _
        rw [Int.toNat_natCast, List.getD_eq_getElem?_getD, List.getElem?_eq_getElem h]; rfl
      rw [if_pos (by omega), if_pos (by omega), hrd, List.drop_eq_getElem_cons h, qd.eq_def, wr1 i (by omega)]
      dsimp only
      by_cases h1 : x[i] = q
      · rw [if_pos h1, if_pos h1]; rfl
      rw [if_neg h1, if_neg h1]
      have hw1 : (w ++ [x[i]]).length ≤ i + 1 := by rw [List.length_append, List.length_singleton]; omega
      by_cases h2 : x[i] = 92
      · rw [if_pos h2, if_neg (Decidable.not_not.2 h2)]
        by_cases h3 : i + 1 < x.length
        · have hd := hx x[i + 1] (List.getElem_mem h3)
          have hrd1 : rd x ((i + 1 : Nat) : Int) = x[i + 1] := by
            show x.getD ((i + 1 : Nat) : Int).toNat 0 = _
            rw [Int.toNat_natCast, List.getD_eq_getElem?_getD, List.getElem?_eq_getElem h3]; rfl
          rw [List.drop_eq_getElem_cons h3]
          dsimp only
          by_cases h4 : q = 39
          · have p1 : ((i + 1 : Nat) : Int) < (x.length : Int) := by omega
            have p2 : (0 : Int) ≤ ((i + 1 : Nat) : Int) := by omega
            have p3 : w.length < 140737488355328 := by omega
            rw [if_pos h4, if_pos h4, if_pos p1, if_pos p2, hrd1, wr1 (i + 1) (by omega)]
            by_cases h5 : x[i + 1] = 39
            · rw [if_pos h5, if_pos h5, if_pos p3]
              exact ih (i + 2) _ k (by omega) (by omega) (by rw [List.length_append, List.length_singleton]; omega) (by omega)
            · rw [if_neg h5, if_neg h5, if_pos p3, ← List.drop_eq_getElem_cons h3, h2]
              exact ih (i + 1) _ k (by omega) (by omega) (by rw [List.length_append, List.length_singleton]; omega) (by omega)
          · have p1 : ¬ ((i + 1 : Nat) : Int) = (x.length : Int) := by omega
            have p2 : (0 : Int) ≤ ((i + 1 : Nat) : Int) := by omega
            have p4 : ((i + 1 : Nat) : Int) ≤ (x.length : Int) := by omega
            have p3 : w.length < 140737488355328 := by omega
            rw [if_neg h4, if_neg h4, if_neg p1, if_pos p2, if_pos p4, Int.toNat_natCast, List.drop_eq_getElem_cons h3]
            obtain ⟨k2, rfl⟩ : ∃ k', k = k' + 2 := ⟨k - 2, by omega⟩
            rw [esc_f _ _ hd (fun y hy => hx y (List.mem_of_mem_drop hy))]
            have hp := esc_pos x[i + 1] (x.drop (i + 1 + 1))
            have hl := esc_len x[i + 1] (x.drop (i + 1 + 1))
            rw [List.length_drop] at hl
            generalize esc x[i + 1] (x.drop (i + 1 + 1)) = E at hp hl ⊢
            obtain ⟨v, n⟩ := E
            simp only [Option.bind_some] at hp hl ⊢
            have e4 : (x.drop (i + 1 + 1)).drop (n - 1) = x.drop (i + 1 + n) := by rw [List.drop_drop]; congr 1; omega
            rw [if_pos p3, wr2 i n (by omega) (by omega), e4]
            exact ih _ _ (k2 + 2) (by omega) (by omega) (by rw [List.length_append, List.length_singleton]; omega) (by omega)
        · have e0 : x.drop (i + 1) = [] := List.drop_of_length_le (by omega)
          rw [e0]
          dsimp only
          by_cases h4 : q = 39
          · have p1 : ¬ ((i + 1 : Nat) : Int) < (x.length : Int) := by omega
            have p3 : w.length < 140737488355328 := by omega
            rw [if_pos h4, if_neg p1, if_pos p3]
            obtain ⟨k2, rfl⟩ : ∃ k', k = k' + 1 := ⟨k - 1, by omega⟩
            rw [wire_quoted.l0, if_neg (by omega)]
            rfl
          · have p1 : ((i + 1 : Nat) : Int) = (x.length : Int) := by omega
            rw [if_neg h4, if_pos p1]
            rfl
      · have p3 : w.length < 140737488355328 := by omega
        rw [if_neg h2, if_pos h2, if_pos p3]
        exact ih (i + 1) _ k (by omega) (by omega) hw1 (by omega)
    · rw [if_neg (by omega), List.drop_of_length_le (by omega), qd.eq_def]
      rfl
theorem quoted_f (q : Int) (r : List Int) (hq : q = 34 ∨ q = 39) (hr : inB r) (hlen : r.length ≤ 900000000) : wire_quoted.f (r.length + 5) (q :: r) = some (qans (qd q r [] 1)) := by
  unfold wire_quoted.f
  rw [if_pos (by simp only [List.length_cons]; omega), show rd (q :: r) 0 = q from rfl]
  exact quoted_l (q :: r) (fun y hy => by rcases List.mem_cons.1 hy with rfl | hy; omega; exact hr y hy) (by simp only [List.length_cons]; omega) q hq (r.length + 1) 1 [] _ (by simp) (by simp) (by simp) (by omega)
end Go.Proofs.Ytfdkcnbkoagmiaa.LinQ
end

section
namespace Go.Proofs.Ytfdkcnbkoagmiaa.GenL
open Go Go.RowKit Go.Proofs.YtfdkcnbkoagmiaaW.PrintWords Go.Proofs.YtfdkcnbkoagmiaaW.PrintLast Go.Proofs.YtfdkcnbkoagmiaaW.PrintMore Go.Proofs.Ytfdkcnbkoagmiaa.RowU Go.Proofs.Ytfdkcnbkoagmiaa.ArS Go.Proofs.Ytfdkcnbkoagmiaa.ArM Go.Proofs.Ytfdkcnbkoagmiaa.GenM Go.Proofs.Ytfdkcnbkoagmiaa.GenN
set_option linter.unusedVariables false
set_option maxRecDepth 100000
def GrewL (T : TypeId) (w w' : World) (v v' : Value) (l ys : List Value) : Prop :=
  GV T w' v' (l ++ ys) ∧ (∀ k, v'.ownBlock = some k → v.ownBlock = some k ∨ w.heap.size ≤ k) ∧ Upd (fun k => v.ownBlock = some k) w w'
theorem oper_genl {o : Oper} {a : Act} {K : Act → World → Prop} {Q : Exit → Act → World → Prop} (w : World) (s x : Operand) (t T : TypeId)
    (hop : o.op = Op.call { callee := Callee.builtin Builtin.append, args := #[s, x], argTypes := #[t, t] })
    (ht : Try.prog.underlying t = some (.slice T)) (z : Value) (by_ : Nat) (hi : (Try.prog.info? T).map (fun i => (i.zero, i.size, i.bytes)) = some (some z, 1, by_)) (hz : z.cells.size = 1) (hby : by_ ≤ 100)
    (v : Value) (l : List Value) (hs : a.eval s = v) (hv : GV T w v l) (ad : Addr) (c : Nat) (ys : List Value) (hx : a.eval x = .slice (some ad) ys.length c) (hc : ∀ j u, ys[j]? = some u → w.cell? (ad.add j) = some u) (h1 : ∀ u ∈ ys, u.oneCell' = true) (h0 : 0 < ys.length) (hb : l.length + ys.length ≤ 1000000000)
    (hK : ∀ v' w', GrewL T w w' v v' l ys → K (a.put o.dst v') w') :
    Oper.wp Try.prog o a w K Q := by
  obtain ⟨i, hi', hz'⟩ := Option.map_eq_some_iff.1 hi
  simp only [Prod.mk.injEq] at hz'
  obtain ⟨z0, z1, z2⟩ := hz'
  have hm := Nat.mul_le_mul_left (l.length + ys.length) hby
  have hm2 := Nat.mul_le_mul_left ys.length hby
  rcases hv with ⟨rfl, rfl⟩ | ⟨g, cap, rfl, hg'⟩
  · obtain ⟨v', w', hrun, ho, hgr, _⟩ := run_append_own (P := Try.prog) w w.heap.size t o.type T i z 1 by_ ht hi' z0 z1 z2 hz (by decide) (.slice none 0 0) 0 [] (World.ownsRow_nil w _ T 1) ad ys.length c ys (by simp) hc h1 (by unfold maxLen; simp only [List.length_nil] at hb; omega) (by simp only [List.length_nil] at hm hb ⊢; omega) (Nat.le_refl _)
    obtain ⟨r1, r2⟩ := GV.of_own ho (by simp)
    unfold Oper.wp
    simp [execOp, hop, resolve, invoke, builtin, hs, hx, hrun, Result.andThen]
    exact hK v' w' ⟨r1, fun k hk => .inr (r2 k hk), Upd.of_grown hgr (fun k hk => by cases hk)⟩
  · have hlt := hg'.lt
    have hget := fun j x hx => hg'.get j x hx
    obtain ⟨B, b1, b2, b3, hown⟩ := GV.own (.inr ⟨g, cap, rfl, hg'⟩ : GV T w (.slice (some ⟨g, 0, none⟩) l.length cap) l)
    by_cases hr : l.length + ys.length ≤ cap
    · obtain ⟨w', hrun, hown', hgr⟩ := run_append_fits (P := Try.prog) w B t o.type T i 1 ht hi' z1 g l.length cap l hown ad ys.length c ys (by simp) hc h1 hr
      obtain ⟨r1, r2⟩ := GV.of_own hown' (by simp)
      unfold Oper.wp
      simp [execOp, hop, resolve, invoke, builtin, hs, hx, hrun, Result.andThen]
      exact hK _ w' ⟨r1, fun k hk => .inl hk, Upd.of_grown hgr (fun k hk => by rw [← hk]; rfl)⟩
    · obtain ⟨v', w', hrun, hown', hgr⟩ := run_append_arg_grows (P := Try.prog) w t o.type T i z 1 by_ ht hi' z0 z1 z2 hz (by decide) ⟨g, 0, none⟩ l.length cap l (by simp) (by
        intro j u hu
        have := hget j u hu
        simpa [Addr.add_lit] using this) ad ys.length c ys (by simp) hc (by omega) (by unfold maxLen; omega) (by omega)
      obtain ⟨r1, r2⟩ := GV.of_own hown' (by simp)
      unfold Oper.wp
      simp [execOp, hop, resolve, invoke, builtin, hs, hx, hrun, Result.andThen]
      exact hK v' w' ⟨r1, fun k hk => .inr (r2 k hk), Upd.of_grown hgr (fun k hk => by cases hk)⟩
theorem oper_gen0 {o : Oper} {a : Act} {K : Act → World → Prop} {Q : Exit → Act → World → Prop} (w : World) (s x : Operand) (t T : TypeId)
    (hop : o.op = Op.call { callee := Callee.builtin Builtin.append, args := #[s, x], argTypes := #[t, t] })
    (ht : Try.prog.underlying t = some (.slice T)) (z : Value) (by_ : Nat) (hi : (Try.prog.info? T).map (fun i => (i.zero, i.size, i.bytes)) = some (some z, 1, by_))
    (v : Value) (l : List Value) (hs : a.eval s = v) (hv : GV T w v l) (A : Option Addr) (c : Nat) (hx : a.eval x = .slice A 0 c)
    (hK : ∀ v' w', GrewL T w w' v v' l [] → K (a.put o.dst v') w') :
    Oper.wp Try.prog o a w K Q := by
  obtain ⟨i, hi', hz'⟩ := Option.map_eq_some_iff.1 hi
  simp only [Prod.mk.injEq] at hz'
  obtain ⟨z0, z1, z2⟩ := hz'
  have hrun : (Builtin.append_ #[t, t] o.type #[v, .slice A 0 c]).run Try.prog w = .ok v w := by
    rcases hv with ⟨rfl, rfl⟩ | ⟨g, cap, rfl, cur, h1, h2, h3, h4, h5⟩
    · cases A <;> simp [Builtin.append_, run_underlying ht, sizeOf, typeInfo, hi', Builtin.lenOf, Builtin.firstCells, storeCells, loadCells, loadCellsFrom]
    · cases A <;> simp [Builtin.append_, run_underlying ht, sizeOf, typeInfo, hi', Builtin.lenOf, Builtin.firstCells, storeCells, loadCells, loadCellsFrom, h3]
  unfold Oper.wp
  simp [execOp, hop, resolve, invoke, builtin, hs, hx, hrun, Result.andThen]
  exact hK v w ⟨by rw [List.append_nil]; exact hv, fun k hk => .inl hk, Upd.refl _ _⟩
theorem wpList_bytes {ops : Array Oper} {rest : List Oper} {o : Oper} {a : Act} {Q : Exit → Act → World → Prop} (w : World) (hg : o.guard = none) (s x : Operand)
    (hop : o.op = Op.call { callee := Callee.builtin Builtin.append, args := #[s, x], argTypes := #[26, 26] })
    (v : Value) (l : List Value) (hs : a.eval s = v) (hv : GV 5 w v l) (A : Option Addr) (c : Nat) (ys : List Int) (hx : a.eval x = .slice A ys.length c) (hC : (Kd.int .u8).C w A ys.length ys) (hb : l.length + ys.length ≤ 1000000000)
    (hK : ∀ v' w', GrewL 5 w w' v v' l (ys.map (Value.int .u8)) → wpList Try.prog ops Q rest (a.put o.dst v') w') :
    wpList Try.prog ops Q (o :: rest) a w := by
  refine wpList_plain hg fun K hK' => ?_
  by_cases h0 : 0 < ys.length
  · obtain ⟨ad, rfl, hcell⟩ := hC.2.2 h0
    refine oper_genl w s x 26 5 hop Try.underlying26 (.int .u8 0) 1 (by kernel_rfl) rfl (by decide) v l hs hv ad c (ys.map (Value.int .u8)) (by rw [List.length_map]; exact hx) (fun j u hu => ?_) (fun u hu => ?_) (by rw [List.length_map]; exact h0) (by rw [List.length_map]; exact hb) (fun v' w' r => hK' _ _ (hK v' w' r))
    · rw [List.getElem?_map] at hu
      obtain ⟨q, hq, rfl⟩ := Option.map_eq_some_iff.1 hu
      obtain ⟨cs, c1, c2, c3⟩ := hcell j q hq
      have c4 : cs = [Value.int .u8 q] := c2
      subst c4
      have := c3 0 _ rfl
      rw [show (Kd.int .u8).sz = 1 from rfl, Nat.mul_one, Nat.add_zero] at this
      exact this
    · obtain ⟨q, _, rfl⟩ := List.mem_map.1 hu
      rfl
  · obtain rfl : ys = [] := List.length_eq_zero_iff.1 (by omega)
    exact oper_gen0 w s x 26 5 hop Try.underlying26 (.int .u8 0) 1 (by kernel_rfl) v l hs hv A c hx (fun v' w' r => hK' _ _ (hK v' w' r))
end Go.Proofs.Ytfdkcnbkoagmiaa.GenL
end

section
namespace Go.Proofs.Ytfdkcnbkoagmiaa.LinW
open Go Go.RowKit Go.Proofs.YtfdkcnbkoagmiaaW.PrintWords Go.Proofs.YtfdkcnbkoagmiaaW.PrintLast Go.Proofs.YtfdkcnbkoagmiaaW.PrintMore Go.Proofs.Ytfdkcnbkoagmiaa.PA Go.Proofs.Ytfdkcnbkoagmiaa.RowU Go.Proofs.Ytfdkcnbkoagmiaa.ArS Go.Proofs.Ytfdkcnbkoagmiaa.ArM Go.Proofs.Ytfdkcnbkoagmiaa.GenM Go.Proofs.Ytfdkcnbkoagmiaa.GenN Go.Proofs.Ytfdkcnbkoagmiaa.GenL Go.Proofs.Ytfdkcnbkoagmiaa.OwnL Go.Proofs.Ytfdkcnbkoagmiaa.LinQ
open Go.Proofs.Ytfdkcnbkoagmiaa.LinS (inB ln wd qd gapped)
set_option linter.unusedVariables false
set_option maxRecDepth 100000
theorem w64n (n : Nat) (h : n ≤ 2000000000) : wrap64 ((n : Int) + 1) = ((n + 1 : Nat) : Int) := by unfold wrap64; omega
theorem blankW (c : Int) (w : World) : Calls Try.prog 29 #[.int .u8 c] w fun e w' => e = .returned (.bool (LinS.blank c)) ∧ w' = w := by
  unfold LinS.blank
  by_cases h1 : 9 ≤ c
  · by_cases h2 : c ≤ 13
    · rw [decide_eq_true (by omega)]
      go_enter Try.func29, Try.ntmps29
      go_wp2_with fail
      go_ret
      exact ⟨rfl, rfl⟩
    · by_cases h3 : c = 32
      · subst h3
        go_enter Try.func29, Try.ntmps29
        go_wp2_with fail
        go_ret
        exact ⟨rfl, rfl⟩
      · rw [decide_eq_false (by omega)]
        go_enter Try.func29, Try.ntmps29
        go_wp2_with fail
        go_ret
        exact ⟨by simp [h3], rfl⟩
  · have h3 : ¬ c = 32 := by omega
    rw [decide_eq_false (by omega)]
    go_enter Try.func29, Try.ntmps29
    go_wp2_with fail
    go_ret
    exact ⟨by simp [h3], rfl⟩
theorem byteAt {w : World} {A : Option Addr} {l : List Int} (h : (Kd.int .u8).C w A l.length l) {i : Nat} (hi : i < l.length) : ∃ ad, A = some ad ∧ w.cell? (ad.add i) = some (.int .u8 l[i]) := by
  obtain ⟨ad, e, hc⟩ := h.2.2 (by omega)
  obtain ⟨cs, c1, c2, c3⟩ := hc i l[i] (List.getElem?_eq_getElem hi)
  have c4 : cs = [Value.int .u8 l[i]] := c2
  subst c4
  have := c3 0 _ rfl
  rw [show (Kd.int .u8).sz = 1 from rfl, Nat.mul_one, Nat.add_zero] at this
  exact ⟨ad, e, this⟩
theorem drop_at {b : List Int} {k : Nat} {x : Int} (h : b[k]? = some x) : b.drop k = x :: b.drop (k + 1) := by
  obtain ⟨hk, rfl⟩ := List.getElem?_eq_some_iff.1 h
  exact List.drop_eq_getElem_cons hk
def QC (W : World) (ad : Addr) (c : Nat) (b : List Int) (j : Nat) (p : List Int) (n : Int) : Prop := ∀ w', Below W.heap.size W w' → Calls Try.prog 30 #[.slice (some (ad.add j)) (b.length - j) (c - j)] w' fun e w'' => ∃ v0, e = .returned (.tuple #[v0, .int .i64 n]) ∧ Kd.R (Kd.int .u8) 5 w'' w'.heap.size (fun _ => True) v0 p ∧ Below w'.heap.size w' w''
structure LR (b : List Int) (W w : World) (vo : Value) (k : Nat) (ll : List (List Int)) (O : Nat → Nat) : Prop where
  le : k ≤ b.length
  eq : ln (b.drop k) ll = ln b []
  len : ll.length ≤ k
  ro : RwR w vo ll O
  one : ∀ a, O a ≤ 1
  new : ∀ a, O a ≠ 0 → W.heap.size ≤ a
  bel : Below W.heap.size W w
theorem LR.upd {b : List Int} {W w w' : World} {vo : Value} {k : Nat} {ll : List (List Int)} {O : Nat → Nat} {S : Nat → Prop} (h : LR b W w vo k ll O) (hu : Upd S w w') (hS : ∀ a, O a ≠ 0 → ¬ S a) (hn : ∀ a, S a → W.heap.size ≤ a) : LR b W w' vo k ll O :=
  ⟨h.le, h.eq, h.len, RwR.fit.upd h.ro hu hS, h.one, h.new, Upd.to_below h.bel hu h.bel.size hn⟩
theorem LR.below {b : List Int} {W w w' : World} {vo : Value} {k : Nat} {ll : List (List Int)} {O : Nat → Nat} (h : LR b W w vo k ll O) (hb : Below w.heap.size w w') : LR b W w' vo k ll O := h.upd (S := fun _ => False) (Upd.of_below hb) (fun _ _ hf => hf) (fun _ hf => hf.elim)
theorem LR.grow {b : List Int} {W w w1 w2 : World} {vo vw v2 : Value} {k j : Nat} {ll : List (List Int)} {wv : List Int} {O Ow O1 : Nat → Nat} {vs : List Value} {x : Int} (h : LR b W w vo k ll O) (hx : b[k]? = some x) (hbl : LinS.blank x = false) (hj : j ≤ b.length) (hkj : k < j) (hw : wd (b.drop k) [] = some (wv, b.drop j))
    (hbw : BtR w vw wv Ow) (hone : ∀ a, O a + Ow a ≤ 1) (hnew : ∀ a, Ow a ≠ 0 → W.heap.size ≤ a) (hel : El BtR w vs ll O1) (hO : ∀ a, O a = oc vo a + O1 a) (hb : Below w.heap.size w w1) (hg : Grew 26 w1 w2 vo v2 vs vw) : ∃ O', LR b W w2 v2 j (ll ++ [wv]) O' := by
  obtain ⟨O', h1, h2, h3⟩ := LAt.grew BtR.fit (hel.upd BtR.fit (S := fun _ => False) (Upd.of_below hb) (fun _ _ hf => hf)) (BtR.fit.upd (S := fun _ => False) hbw (Upd.of_below hb) (fun _ _ hf => hf)) (fun a => by have := hone a; rw [hO] at this; omega) hg
  have hs := hb.size
  have hW := h.bel.size
  refine ⟨O', hj, ?_, by have := h.len; rw [List.length_append, List.length_singleton]; omega, h1, h2, fun a ha => ?_, ?_⟩
  · rw [← h.eq, drop_at hx]
    rw [drop_at hx] at hw
    exact (LinS.ln_word hbl hw).symm
  · by_cases hl : a < w1.heap.size
    · have := h3 a hl
      by_cases h0 : O a = 0
      · exact hnew a (by have := hO a; omega)
      · exact h.new a h0
    · omega
  · have u1 : Below W.heap.size W w1 := below_next h.bel hb
    exact Upd.to_below u1 hg.upd u1.size (fun a ha => h.new a (by rw [hO]; unfold oc; rw [if_pos ha]; omega))
theorem start_one {b : List Int} {W w : World} {vo : Value} {k : Nat} {ll : List (List Int)} {O : Nat → Nat} (h : LR b W w vo k ll O) (a : Nat) : O a + oc (.slice (some ⟨w.heap.size, 0, none⟩) 0 0) a ≤ 1 := by
  by_cases e : w.heap.size = a
  · have : O a = 0 := Decidable.not_not.1 fun hne => by have := RwR.fit.lt h.ro hne; omega
    have := oc_le (.slice (some ⟨w.heap.size, 0, none⟩) 0 0) a
    omega
  · have : oc (.slice (some ⟨w.heap.size, 0, none⟩) 0 0) a = 0 := by
      show (if some w.heap.size = some a then 1 else 0) = 0
      rw [if_neg (fun h => e (Option.some.inj h))]
    have := h.one a
    omega
theorem start_new {b : List Int} {W w : World} {vo : Value} {k : Nat} {ll : List (List Int)} {O : Nat → Nat} (h : LR b W w vo k ll O) {a : Nat} (ha : oc (.slice (some ⟨w.heap.size, 0, none⟩) 0 0) a ≠ 0) : W.heap.size ≤ a := by
  have e : some w.heap.size = some a := oc_ne ha
  have := Option.some.inj e
  have := h.bel.size
  omega
structure WR (b : List Int) (W w : World) (vo vw : Value) (k j : Nat) (ll : List (List Int)) (wv : List Int) (O Ow : Nat → Nat) : Prop where
  lr : LR b W w vo k ll O
  le : k ≤ j ∧ j ≤ b.length
  eq : wd (b.drop j) wv = wd (b.drop k) []
  bw : BtR w vw wv Ow
  one : ∀ a, O a + Ow a ≤ 1
  new : ∀ a, Ow a ≠ 0 → W.heap.size ≤ a
  len : wv.length ≤ j
theorem WR.below {b : List Int} {W w w' : World} {vo vw : Value} {k j : Nat} {ll : List (List Int)} {wv : List Int} {O Ow : Nat → Nat} (h : WR b W w vo vw k j ll wv O Ow) (hb : Below w.heap.size w w') : WR b W w' vo vw k j ll wv O Ow :=
  ⟨h.lr.below hb, h.le, h.eq, BtR.fit.upd (S := fun _ => False) h.bw (Upd.of_below hb) (fun _ _ hf => hf), h.one, h.new, h.len⟩
theorem WR.grow {b : List Int} {W w w1 w2 : World} {vo vw v2 : Value} {k j : Nat} {ll : List (List Int)} {wv : List Int} {O Ow : Nat → Nat} {y : Int} (h : WR b W w vo vw k j ll wv O Ow) (hy : b[j]? = some y) (hbl : LinS.blank y = false) (hq : y ≠ 34 ∧ y ≠ 39) (hb : Below w.heap.size w w1) (hg : Grew 5 w1 w2 vw v2 (wv.map (Value.int .u8)) (.int .u8 y)) : WR b W w2 vo v2 k (j + 1) ll (wv ++ [y]) O (oc v2) := by
  have hj := (List.getElem?_eq_some_iff.1 hy).1
  have hu : Upd (fun a => vw.ownBlock = some a) w w2 := (Upd.of_below hb).trans2 hg.upd (fun a ha => .inl ha)
  have hOw := h.bw.2
  have hs := hb.size
  have hne : ∀ a, O a ≠ 0 → ¬ vw.ownBlock = some a := fun a ha e => by have := h.one a; rw [hOw] at this; unfold oc at this; rw [if_pos e] at this; omega
  refine ⟨h.lr.upd hu hne (fun a ha => h.new a (by rw [hOw]; unfold oc; rw [if_pos ha]; omega)), ⟨by have := h.le; omega, by omega⟩, ?_, ⟨?_, fun _ => rfl⟩, fun a => ?_, fun a ha => ?_, by have := h.len; rw [List.length_append, List.length_singleton]; omega⟩
  · rw [← h.eq, drop_at hy]
    show _ = wd (y :: b.drop (j + 1)) wv
    rw [wd, if_neg (by rw [hbl]; decide), if_pos hq]
  · have := hg.gv
    rw [List.map_append]
    exact this
  · by_cases hz : oc v2 a = 0
    · have := h.one a; omega
    · rcases hg.block a (oc_ne hz) with e | e
      · have h1 : oc vw a = 1 := by unfold oc; rw [if_pos e]
        have := h.one a
        have := hOw a
        have := oc_le v2 a
        omega
      · have : O a = 0 := Decidable.not_not.1 fun hne => by have := RwR.fit.lt h.lr.ro hne; omega
        have := oc_le v2 a
        omega
  · rcases hg.block a (oc_ne ha) with e | e
    · exact h.new a (by rw [hOw]; unfold oc; rw [if_pos e]; omega)
    · have := h.lr.bel.size; omega
theorem WR.more {b : List Int} {W w w2 : World} {vo vw v2 : Value} {k j : Nat} {ll : List (List Int)} {wv p : List Int} {O Ow : Nat → Nat} (h : WR b W w vo vw k j ll wv O Ow) (hg : GrewL 5 w w2 vw v2 (wv.map (Value.int .u8)) (p.map (Value.int .u8))) : LR b W w2 vo k ll O ∧ BtR w2 v2 (wv ++ p) (oc v2) ∧ (∀ a, O a + oc v2 a ≤ 1) ∧ ∀ a, oc v2 a ≠ 0 → W.heap.size ≤ a := by
  obtain ⟨g1, g2, g3⟩ := hg
  have hOw := h.bw.2
  have hne : ∀ a, O a ≠ 0 → ¬ vw.ownBlock = some a := fun a ha e => by have := h.one a; rw [hOw] at this; unfold oc at this; rw [if_pos e] at this; omega
  refine ⟨h.lr.upd g3 hne (fun a ha => h.new a (by rw [hOw]; unfold oc; rw [if_pos ha]; omega)), ⟨by rw [List.map_append]; exact g1, fun _ => rfl⟩, fun a => ?_, fun a ha => ?_⟩
  · by_cases hz : oc v2 a = 0
    · have := h.one a; omega
    · rcases g2 a (oc_ne hz) with e | e
      · have h1 : oc vw a = 1 := by unfold oc; rw [if_pos e]
        have := h.one a
        have := hOw a
        have := oc_le v2 a
        omega
      · have : O a = 0 := Decidable.not_not.1 fun hne => by have := RwR.fit.lt h.lr.ro hne; omega
        have := oc_le v2 a
        omega
  · rcases g2 a (oc_ne ha) with e | e
    · exact h.new a (by rw [hOw]; unfold oc; rw [if_pos e]; omega)
    · have := h.lr.bel.size; omega
set_option maxHeartbeats 8000000 in
theorem line.calls (A : Option Addr) (c : Nat) (b : List Int) (W : World) (hC : (Kd.int .u8).C W A b.length b) (hb : inB b) (hc : b.length ≤ c) :
    Calls Try.prog 9 #[.slice A b.length c] W fun e w' => ∃ v O, e = .returned (.tuple #[v, .int .i64 (LinS.line b).2]) ∧ RwR w' v (LinS.line b).1 O ∧ (∀ a, O a ≤ 1) ∧ (∀ a, O a ≠ 0 → W.heap.size ≤ a) ∧ Below W.heap.size W w' := by
  have HC := Aside0.mk hC
  have HB := Aside0.mk hb
  have HCC := Aside0.mk hc
  by_cases hl : 1024 < b.length
  · have HE : Aside0 (LinS.line b = ([], 83)) := ⟨by unfold LinS.line; rw [if_pos hl]⟩
    have hl' : (1024 : Int) < (b.length : Int) := by omega
    clear hC hb hc hl
    go_enter Try.func9, Try.ntmps9
    go_wp2_with fail
    go_step3
    go_wp2_with fail
    rw [Exit.noGoto_ret]
    go_ret2
    rw [HE.out]
    exact ⟨_, _, rfl, LAt.nil _ _ _, fun _ => Nat.zero_le _, fun _ h => absurd rfl h, Below.refl _ _⟩
  · have hl' : ¬ (1024 : Int) < (b.length : Int) := by omega
    have HL := Aside0.mk hl
    have hbl : b.length ≤ 1024 := by omega
    have HQ : Aside0 (∀ w', Below W.heap.size W w' → ∀ i, i < b.length → ∃ ad x, A = some ad ∧ w'.cell? (ad.add i) = some (.int .u8 x) ∧ b[i]? = some x) := ⟨fun w' hw i hi => by
      obtain ⟨ad, e, h⟩ := byteAt (Kd.C_below hC hw) hi
      exact ⟨ad, _, e, h, List.getElem?_eq_getElem hi⟩⟩
    clear hC hb hc hl
    go_enter Try.func9, Try.ntmps9
    go_wp2_with fail
    go_step3
    go_wp2_with fail
    go_step3
    go_wp2_with fail
    go_loopw [4, 5] (fun vo i wr => ∃ (k : Nat) (ll : List (List Int)) (O : Nat → Nat), i = .int .i64 k ∧ Aside0 (LR b W wr vo k ll O)) (fun _ i _ => b.length - (intOf i).toNat)
    case atStart => exact ⟨0, [], _, rfl, ⟨⟨Nat.zero_le _, by rw [List.drop_zero], Nat.le_refl _, LAt.nil _ _ _, fun _ => Nat.zero_le _, fun _ h => absurd rfl h, Below.refl _ _⟩⟩⟩
    case round =>
      obtain ⟨k, ll, O, rfl, H⟩ := hrel
      by_cases hk : k < b.length
      · obtain ⟨ad, x, rfl, hx, hbx⟩ := HQ.out wr H.out.bel k hk
        have HX := Aside0.mk hbx
        have hk' : (k : Int) < (b.length : Int) := by omega
        have hk0 : (0 : Int) ≤ (k : Int) := by omega
        clear hbx
        by_cases hbl : LinS.blank x = true
        · have HW := Aside0.mk (w64n k (by omega))
          go_wp2_with (go_at_call 29; refine (blankW _ _).mono ?_; rintro e w2 ⟨rfl, rfl⟩)
          refine ⟨⟨k + 1, ll, O, by rw [Int.natCast_succ], ⟨⟨by omega, ?_, by have := H.out.len; omega, H.out.ro, H.out.one, H.out.new, H.out.bel⟩⟩⟩, by simp only [intOf]; omega⟩
          rw [← H.out.eq, drop_at HX.out, LinS.ln_blank _ _ hbl]
        · have hbl' : LinS.blank x = false := by simpa using hbl
          clear hbl
          go_wp2_with (go_at_call 29; refine (blankW _ _).mono ?_; rintro e w2 ⟨rfl, rfl⟩)
          have HBL := Aside0.mk hbl'
          go_hide hQ
          go_loopw [4, 5, 6] (fun vo i vw w2 => ∃ (j : Nat) (wv : List Int) (Ow : Nat → Nat), i = .int .i64 j ∧ Aside0 (WR b W w2 vo vw k j ll wv O Ow)) (fun _ i _ _ => b.length - (intOf i).toNat)
          case atStart => exact ⟨k, [], _, rfl, ⟨⟨H.out.below (below_alloc (Below.refl _ _) _), ⟨Nat.le_refl _, H.out.le⟩, rfl, ⟨.inr ⟨_, 0, rfl, [], blk_new _ _, rfl, Nat.zero_le _, by decide, rfl⟩, fun _ => rfl⟩, fun a => start_one H.out a, fun a ha => start_new H.out ha, Nat.zero_le _⟩⟩⟩
          case round =>
            obtain ⟨j, wv, Ow, rfl, H1⟩ := hrel
            have hle := H1.out.le
            have hwb := BtR.fit.one H1.out.bw
            by_cases hj : j < b.length
            · obtain ⟨ad', y, e, hy, hby⟩ := HQ.out wr H1.out.lr.bel j hj
              obtain rfl := Option.some.inj e
              have HY := Aside0.mk hby
              have hj' : (j : Int) < (b.length : Int) := by omega
              have hj0 : (0 : Int) ≤ (j : Int) := by omega
              clear hby e
              by_cases hbly : LinS.blank y = true
              · have HKJ : Aside0 (k < j) := ⟨by
                  refine Nat.lt_of_le_of_ne hle.1 (fun e => ?_)
                  subst e
                  have e2 := HX.out.symm.trans HY.out
                  rw [Option.some.inj e2, hbly] at hbl'
                  cases hbl'⟩
                have HWD : Aside0 (wd (b.drop k) [] = some (wv, b.drop j)) := ⟨by rw [← H1.out.eq, drop_at HY.out, wd, if_pos hbly]⟩
                obtain ⟨Aw, cw, rfl, _⟩ := H1.out.bw.slice
                obtain ⟨vs, O1, hgv, hel, hO1⟩ := H1.out.lr.ro
                have HVS : Aside0 (vs.length ≤ 100000000) := ⟨by rw [hel.len]; have := H1.out.lr.len; have := H1.out.lr.le; omega⟩
                have HG := Aside0.mk hgv
                have HE1 := Aside0.mk hel
                have HO1 := Aside0.mk hO1
                obtain ⟨Ao, co, rfl⟩ := hgv.slice
                clear hgv hel hO1
                go_wp2_with (go_at_call 29; refine (blankW _ _).mono ?_; rintro e wb ⟨rfl, rfl⟩)
                subst hQ
                go_upto_region 19 with ((with_reducible refine gate_builtin (b := .append) (xs := #[.tmp 89, .tmp 91]) rfl ?_); at_builtin; refine wpList_gen2 _ rfl (.tmp 89) (.tmp 91) 22 26 rfl Try.underlying22 (.slice none 0 0) 24 (by kernel_rfl) rfl (by decide) (.slice Ao vs.length co) vs rfl ?hv ⟨_, 0, none⟩ (.slice Aw wv.length cw) rfl ?hc rfl ?hb ?_; (case hv => exact HG.out.upd (S := none_) (Upd.of_below (below_alloc (Below.refl _ _) _)) (fun _ _ h => h)); (case hc => exact cell_one_new _ _ _ 0 _ rfl); (case hb => exact HVS.out); intro v5 w5 hr; obtain ⟨O5, hr5⟩ := LR.grow H1.out.lr HX.out HBL.out H1.out.le.2 HKJ.out HWD.out H1.out.bw H1.out.one H1.out.new HE1.out HO1.out (below_alloc (Below.refl _ _) _) hr; have H5 := Aside0.mk hr5; obtain ⟨g5, c5, e5⟩ := hr.form; subst e5; clear hr hr5)
                exact ⟨⟨j, _, O5, rfl, H5⟩, by simp only [intOf]; have := HKJ.out; omega⟩
              · have hbly' : LinS.blank y = false := by simpa using hbly
                clear hbly
                have HBY := Aside0.mk hbly'
                by_cases hq : y = 34 ∨ y = 39
                · have hw0 : wd (b.drop k) [] = (match qd y (b.drop (j + 1)) [] 1 with | none => none | some (p, n) => if gapped (b.drop (j + n)) = true then some (wv ++ p, b.drop (j + n)) else none) := by
                    rw [← H1.out.eq, drop_at HY.out, wd, if_neg (by rw [hbly']; decide), if_neg (fun h => hq.elim h.1 h.2)]
                    cases qd y (b.drop (j + 1)) [] 1 with
                    | none => rfl
                    | some pn =>
                      obtain ⟨p, n⟩ := pn
                      dsimp only
                      rw [← drop_at HY.out, List.drop_drop]
                  have hqs : QC W ad c b j (qans (qd y (b.drop (j + 1)) [] 1)).1 (qans (qd y (b.drop (j + 1)) [] 1)).2 := fun w' hw' => by
                    have hcb := HCC.out
                    have h1 := Kd.C_drop (m := j) (Kd.C_below HC.out hw') (by omega) hcb
                    rw [if_neg (by omega), show (Kd.int .u8).sz = 1 from rfl, Nat.mul_one] at h1
                    have h2 := quoted_f y (b.drop (j + 1)) hq (fun z hz => HB.out z (List.mem_of_mem_drop hz)) (by rw [List.length_drop]; omega)
                    rw [← drop_at HY.out] at h2
                    have := wire_quoted.calls _ (some (ad.add j)) (c - j) (b.drop j) _ _ w' h1 (by rw [List.length_drop]; omega) h2
                    rw [List.length_drop] at this
                    exact this
                  cases hZ : qd y (b.drop (j + 1)) [] 1 with
                  | none =>
                    rw [hZ] at hqs hw0
                    have HQS : Aside0 (QC W ad c b j [] 0) := ⟨hqs⟩
                    have HE : Aside0 (LinS.line b = ([], 84)) := ⟨by
                      have e1 := H1.out.lr.eq
                      rw [drop_at HX.out] at e1 hw0
                      rw [LinS.ln_none HBL.out hw0] at e1
                      unfold LinS.line
                      rw [if_neg HL.out, ← e1]⟩
                    have hcj : ¬ c = j := by have := HCC.out; omega
                    clear hqs hw0 hZ
                    rcases hq with rfl | rfl
                    · go_wp2_with (first | (go_at_call 29; refine (blankW _ _).mono ?_; rintro e wb ⟨rfl, rfl⟩) | (go_at_call 30; refine (HQS.out _ H1.out.lr.bel).mono ?_; rintro e w3 ⟨v0, rfl, hR, hb3⟩; obtain ⟨A2, c2, rfl, _, _⟩ := Kd.R_reads hR; have H3 := Aside0.mk (H1.out.below hb3); clear hR hb3))
                      subst hQ
                      go_wp2_with fail
                      (try rw [Exit.noGoto_ret])
                      go_ret2
                      rw [HE.out]
                      exact ⟨_, _, rfl, LAt.nil _ _ _, fun _ => Nat.zero_le _, fun _ h => absurd rfl h, H3.out.lr.bel⟩
                    · go_wp2_with (first | (go_at_call 29; refine (blankW _ _).mono ?_; rintro e wb ⟨rfl, rfl⟩) | (go_at_call 30; refine (HQS.out _ H1.out.lr.bel).mono ?_; rintro e w3 ⟨v0, rfl, hR, hb3⟩; obtain ⟨A2, c2, rfl, _, _⟩ := Kd.R_reads hR; have H3 := Aside0.mk (H1.out.below hb3); clear hR hb3))
                      subst hQ
                      go_wp2_with fail
                      (try rw [Exit.noGoto_ret])
                      go_ret2
                      rw [HE.out]
                      exact ⟨_, _, rfl, LAt.nil _ _ _, fun _ => Nat.zero_le _, fun _ h => absurd rfl h, H3.out.lr.bel⟩
                  | some pn =>
                    obtain ⟨p, n⟩ := pn
                    have hql := LinS.qd_le y _ (b.drop (j + 1)) [] 1 p n (Nat.le_refl _) hZ
                    rw [hZ] at hqs hw0
                    dsimp only at hw0
                    rw [List.length_drop, List.length_nil] at hql
                    have HQS : Aside0 (QC W ad c b j p (n : Int)) := ⟨hqs⟩
                    obtain ⟨m, hm⟩ : ∃ m, m = j + n := ⟨_, rfl⟩
                    rw [← hm] at hw0
                    have hcj : ¬ c = j := by have := HCC.out; omega
                    have HM : Aside0 (m ≤ b.length ∧ k < m) := ⟨by omega⟩
                    have hn0 : ¬ (n : Int) = 0 := by omega
                    have hwl := H1.out.len
                    have hpl : wv.length + p.length ≤ 1000000000 := by omega
                    have hwm0 : wrap64 ((j : Int) + (n : Int)) = (m : Int) := by rw [show (j : Int) + (n : Int) = (m : Int) by omega]; unfold wrap64; omega
                    have HWM := Aside0.mk hwm0
                    obtain ⟨Aw, cw, rfl, _⟩ := H1.out.bw.slice
                    obtain ⟨Ao, co, rfl⟩ := H1.out.lr.ro.slice
                    clear hqs hZ hwm0
                    by_cases hg : gapped (b.drop m) = true
                    · rw [if_pos hg] at hw0
                      have HWD := Aside0.mk hw0
                      clear hw0
                      by_cases hml : m < b.length
                      · obtain ⟨z, hz⟩ : ∃ z, b[m]? = some z := ⟨_, List.getElem?_eq_getElem hml⟩
                        have HZ := Aside0.mk hz
                        have HML := Aside0.mk hml
                        have hzb : LinS.blank z = true := by rw [drop_at hz] at hg; exact hg
                        have hm1 : (m : Int) < (b.length : Int) := by omega
                        have hm0 : (0 : Int) ≤ (m : Int) := by omega
                        clear hz hg hql hm hle hwl hml
                        have hwm := HWM.out
                        rcases hq with rfl | rfl
                        · go_upto_region 19 with (first | (go_at_call 29; refine (blankW _ _).mono ?_; rintro e wb ⟨rfl, rfl⟩) | (go_at_call 30; refine (HQS.out _ H1.out.lr.bel).mono ?_; rintro e w3 ⟨v0, rfl, hR, hb3⟩; obtain ⟨A2, c2, rfl, _, hC2⟩ := Kd.R_reads hR; have HC2 := Aside0.mk hC2; have H3 := Aside0.mk (H1.out.below hb3); have hz3 : w3.cell? (ad.add m) = some (.int .u8 z) := (by obtain ⟨ad3, z3, e3, h3, b3⟩ := HQ.out w3 H3.out.lr.bel m HML.out; obtain rfl := Option.some.inj e3; rw [HZ.out] at b3; obtain rfl := Option.some.inj b3; exact h3); clear hR hb3 hC2) | ((with_reducible refine gate_builtin (b := .append) (xs := #[.tmp 84, .tmp 85]) rfl ?_); at_builtin; refine wpList_bytes _ rfl (.tmp 84) (.tmp 85) rfl (.slice Aw wv.length cw) (wv.map (Value.int .u8)) rfl H3.out.bw.1 A2 c2 p rfl HC2.out (by rw [List.length_map]; omega) ?_; intro v4 w4 hr4; have H4 := Aside0.mk (WR.more H3.out hr4); obtain ⟨A4, c4, e4, _⟩ := H4.out.2.1.slice; rw [List.length_append] at e4; subst e4; obtain ⟨vs, O1, hgv, hel, hO1⟩ := H4.out.1.ro; have HG := Aside0.mk hgv; have HE1 := Aside0.mk hel; have HO1 := Aside0.mk hO1; have HVS : Aside0 (vs.length ≤ 100000000) := ⟨by rw [hel.len]; have := H4.out.1.len; have := H4.out.1.le; omega⟩; clear hr4 hgv hel hO1) | ((with_reducible refine gate_builtin (b := .append) (xs := #[.tmp 83, .tmp 87]) rfl ?_); at_builtin; refine wpList_gen2 _ rfl (.tmp 83) (.tmp 87) 22 26 rfl Try.underlying22 (.slice none 0 0) 24 (by kernel_rfl) rfl (by decide) (.slice Ao ll.length co) vs rfl ?hv ⟨_, 0, none⟩ (.slice A4 (wv.length + p.length) c4) rfl ?hc rfl ?hb ?_; (case hv => exact HG.out.upd (S := none_) (Upd.of_below (below_alloc (Below.refl _ _) _)) (fun _ _ h => h)); (case hc => exact cell_one_new _ _ _ 0 _ rfl); (case hb => exact HVS.out); intro v5 w5 hr; obtain ⟨O5, hr5⟩ := LR.grow H4.out.1 HX.out HBL.out HM.out.1 HM.out.2 HWD.out H4.out.2.1 H4.out.2.2.1 H4.out.2.2.2 HE1.out HO1.out (below_alloc (Below.refl _ _) _) hr; have H5 := Aside0.mk hr5; obtain ⟨g5, c5, e5⟩ := hr.form; subst e5; clear hr hr5))
                          subst hQ
                          go_wp2_with fail
                          exact ⟨⟨m, _, O5, rfl, H5⟩, by have := HM.out; simp only [intOf]; omega⟩
                        · go_upto_region 19 with (first | (go_at_call 29; refine (blankW _ _).mono ?_; rintro e wb ⟨rfl, rfl⟩) | (go_at_call 30; refine (HQS.out _ H1.out.lr.bel).mono ?_; rintro e w3 ⟨v0, rfl, hR, hb3⟩; obtain ⟨A2, c2, rfl, _, hC2⟩ := Kd.R_reads hR; have HC2 := Aside0.mk hC2; have H3 := Aside0.mk (H1.out.below hb3); have hz3 : w3.cell? (ad.add m) = some (.int .u8 z) := (by obtain ⟨ad3, z3, e3, h3, b3⟩ := HQ.out w3 H3.out.lr.bel m HML.out; obtain rfl := Option.some.inj e3; rw [HZ.out] at b3; obtain rfl := Option.some.inj b3; exact h3); clear hR hb3 hC2) | ((with_reducible refine gate_builtin (b := .append) (xs := #[.tmp 84, .tmp 85]) rfl ?_); at_builtin; refine wpList_bytes _ rfl (.tmp 84) (.tmp 85) rfl (.slice Aw wv.length cw) (wv.map (Value.int .u8)) rfl H3.out.bw.1 A2 c2 p rfl HC2.out (by rw [List.length_map]; omega) ?_; intro v4 w4 hr4; have H4 := Aside0.mk (WR.more H3.out hr4); obtain ⟨A4, c4, e4, _⟩ := H4.out.2.1.slice; rw [List.length_append] at e4; subst e4; obtain ⟨vs, O1, hgv, hel, hO1⟩ := H4.out.1.ro; have HG := Aside0.mk hgv; have HE1 := Aside0.mk hel; have HO1 := Aside0.mk hO1; have HVS : Aside0 (vs.length ≤ 100000000) := ⟨by rw [hel.len]; have := H4.out.1.len; have := H4.out.1.le; omega⟩; clear hr4 hgv hel hO1) | ((with_reducible refine gate_builtin (b := .append) (xs := #[.tmp 83, .tmp 87]) rfl ?_); at_builtin; refine wpList_gen2 _ rfl (.tmp 83) (.tmp 87) 22 26 rfl Try.underlying22 (.slice none 0 0) 24 (by kernel_rfl) rfl (by decide) (.slice Ao ll.length co) vs rfl ?hv ⟨_, 0, none⟩ (.slice A4 (wv.length + p.length) c4) rfl ?hc rfl ?hb ?_; (case hv => exact HG.out.upd (S := none_) (Upd.of_below (below_alloc (Below.refl _ _) _)) (fun _ _ h => h)); (case hc => exact cell_one_new _ _ _ 0 _ rfl); (case hb => exact HVS.out); intro v5 w5 hr; obtain ⟨O5, hr5⟩ := LR.grow H4.out.1 HX.out HBL.out HM.out.1 HM.out.2 HWD.out H4.out.2.1 H4.out.2.2.1 H4.out.2.2.2 HE1.out HO1.out (below_alloc (Below.refl _ _) _) hr; have H5 := Aside0.mk hr5; obtain ⟨g5, c5, e5⟩ := hr.form; subst e5; clear hr hr5))
                          subst hQ
                          go_wp2_with fail
                          exact ⟨⟨m, _, O5, rfl, H5⟩, by have := HM.out; simp only [intOf]; omega⟩
                      · have hm1 : ¬ (m : Int) < (b.length : Int) := by omega
                        clear hg hql hm hle hwl hml
                        have hwm := HWM.out
                        rcases hq with rfl | rfl
                        · go_upto_region 19 with (first | (go_at_call 29; refine (blankW _ _).mono ?_; rintro e wb ⟨rfl, rfl⟩) | (go_at_call 30; refine (HQS.out _ H1.out.lr.bel).mono ?_; rintro e w3 ⟨v0, rfl, hR, hb3⟩; obtain ⟨A2, c2, rfl, _, hC2⟩ := Kd.R_reads hR; have HC2 := Aside0.mk hC2; have H3 := Aside0.mk (H1.out.below hb3); clear hR hb3 hC2) | ((with_reducible refine gate_builtin (b := .append) (xs := #[.tmp 84, .tmp 85]) rfl ?_); at_builtin; refine wpList_bytes _ rfl (.tmp 84) (.tmp 85) rfl (.slice Aw wv.length cw) (wv.map (Value.int .u8)) rfl H3.out.bw.1 A2 c2 p rfl HC2.out (by rw [List.length_map]; omega) ?_; intro v4 w4 hr4; have H4 := Aside0.mk (WR.more H3.out hr4); obtain ⟨A4, c4, e4, _⟩ := H4.out.2.1.slice; rw [List.length_append] at e4; subst e4; obtain ⟨vs, O1, hgv, hel, hO1⟩ := H4.out.1.ro; have HG := Aside0.mk hgv; have HE1 := Aside0.mk hel; have HO1 := Aside0.mk hO1; have HVS : Aside0 (vs.length ≤ 100000000) := ⟨by rw [hel.len]; have := H4.out.1.len; have := H4.out.1.le; omega⟩; clear hr4 hgv hel hO1) | ((with_reducible refine gate_builtin (b := .append) (xs := #[.tmp 83, .tmp 87]) rfl ?_); at_builtin; refine wpList_gen2 _ rfl (.tmp 83) (.tmp 87) 22 26 rfl Try.underlying22 (.slice none 0 0) 24 (by kernel_rfl) rfl (by decide) (.slice Ao ll.length co) vs rfl ?hv ⟨_, 0, none⟩ (.slice A4 (wv.length + p.length) c4) rfl ?hc rfl ?hb ?_; (case hv => exact HG.out.upd (S := none_) (Upd.of_below (below_alloc (Below.refl _ _) _)) (fun _ _ h => h)); (case hc => exact cell_one_new _ _ _ 0 _ rfl); (case hb => exact HVS.out); intro v5 w5 hr; obtain ⟨O5, hr5⟩ := LR.grow H4.out.1 HX.out HBL.out HM.out.1 HM.out.2 HWD.out H4.out.2.1 H4.out.2.2.1 H4.out.2.2.2 HE1.out HO1.out (below_alloc (Below.refl _ _) _) hr; have H5 := Aside0.mk hr5; obtain ⟨g5, c5, e5⟩ := hr.form; subst e5; clear hr hr5))
                          subst hQ
                          go_wp2_with fail
                          exact ⟨⟨m, _, O5, rfl, H5⟩, by have := HM.out; simp only [intOf]; omega⟩
                        · go_upto_region 19 with (first | (go_at_call 29; refine (blankW _ _).mono ?_; rintro e wb ⟨rfl, rfl⟩) | (go_at_call 30; refine (HQS.out _ H1.out.lr.bel).mono ?_; rintro e w3 ⟨v0, rfl, hR, hb3⟩; obtain ⟨A2, c2, rfl, _, hC2⟩ := Kd.R_reads hR; have HC2 := Aside0.mk hC2; have H3 := Aside0.mk (H1.out.below hb3); clear hR hb3 hC2) | ((with_reducible refine gate_builtin (b := .append) (xs := #[.tmp 84, .tmp 85]) rfl ?_); at_builtin; refine wpList_bytes _ rfl (.tmp 84) (.tmp 85) rfl (.slice Aw wv.length cw) (wv.map (Value.int .u8)) rfl H3.out.bw.1 A2 c2 p rfl HC2.out (by rw [List.length_map]; omega) ?_; intro v4 w4 hr4; have H4 := Aside0.mk (WR.more H3.out hr4); obtain ⟨A4, c4, e4, _⟩ := H4.out.2.1.slice; rw [List.length_append] at e4; subst e4; obtain ⟨vs, O1, hgv, hel, hO1⟩ := H4.out.1.ro; have HG := Aside0.mk hgv; have HE1 := Aside0.mk hel; have HO1 := Aside0.mk hO1; have HVS : Aside0 (vs.length ≤ 100000000) := ⟨by rw [hel.len]; have := H4.out.1.len; have := H4.out.1.le; omega⟩; clear hr4 hgv hel hO1) | ((with_reducible refine gate_builtin (b := .append) (xs := #[.tmp 83, .tmp 87]) rfl ?_); at_builtin; refine wpList_gen2 _ rfl (.tmp 83) (.tmp 87) 22 26 rfl Try.underlying22 (.slice none 0 0) 24 (by kernel_rfl) rfl (by decide) (.slice Ao ll.length co) vs rfl ?hv ⟨_, 0, none⟩ (.slice A4 (wv.length + p.length) c4) rfl ?hc rfl ?hb ?_; (case hv => exact HG.out.upd (S := none_) (Upd.of_below (below_alloc (Below.refl _ _) _)) (fun _ _ h => h)); (case hc => exact cell_one_new _ _ _ 0 _ rfl); (case hb => exact HVS.out); intro v5 w5 hr; obtain ⟨O5, hr5⟩ := LR.grow H4.out.1 HX.out HBL.out HM.out.1 HM.out.2 HWD.out H4.out.2.1 H4.out.2.2.1 H4.out.2.2.2 HE1.out HO1.out (below_alloc (Below.refl _ _) _) hr; have H5 := Aside0.mk hr5; obtain ⟨g5, c5, e5⟩ := hr.form; subst e5; clear hr hr5))
                          subst hQ
                          go_wp2_with fail
                          exact ⟨⟨m, _, O5, rfl, H5⟩, by have := HM.out; simp only [intOf]; omega⟩
                    · rw [if_neg hg] at hw0
                      have hml : m < b.length := by
                        refine Nat.lt_of_not_le (fun hle => hg ?_)
                        rw [List.drop_of_length_le hle]
                        rfl
                      have HE : Aside0 (LinS.line b = ([], 84)) := ⟨by
                        have e1 := H1.out.lr.eq
                        rw [drop_at HX.out] at e1 hw0
                        rw [LinS.ln_none HBL.out hw0] at e1
                        unfold LinS.line
                        rw [if_neg HL.out, ← e1]⟩
                      obtain ⟨z, hz⟩ : ∃ z, b[m]? = some z := ⟨_, List.getElem?_eq_getElem hml⟩
                      have HZ := Aside0.mk hz
                      have HML := Aside0.mk hml
                      have hzb : LinS.blank z = false := by
                        rw [drop_at hz] at hg
                        exact Bool.eq_false_iff.2 hg
                      have hm1 : (m : Int) < (b.length : Int) := by omega
                      have hm0 : (0 : Int) ≤ (m : Int) := by omega
                      clear hz hg hql hm hle hwl hml hw0
                      have hwm := HWM.out
                      rcases hq with rfl | rfl
                      · go_wp2_with (first | (go_at_call 29; refine (blankW _ _).mono ?_; rintro e wb ⟨rfl, rfl⟩) | (go_at_call 30; refine (HQS.out _ H1.out.lr.bel).mono ?_; rintro e w3 ⟨v0, rfl, hR, hb3⟩; obtain ⟨A2, c2, rfl, _, hC2⟩ := Kd.R_reads hR; have HC2 := Aside0.mk hC2; have H3 := Aside0.mk (H1.out.below hb3); have hz3 : w3.cell? (ad.add m) = some (.int .u8 z) := (by obtain ⟨ad3, z3, e3, h3, b3⟩ := HQ.out w3 H3.out.lr.bel m HML.out; obtain rfl := Option.some.inj e3; rw [HZ.out] at b3; obtain rfl := Option.some.inj b3; exact h3); clear hR hb3 hC2))
                        subst hQ
                        go_wp2_with fail
                        (try rw [Exit.noGoto_ret])
                        go_ret2
                        rw [HE.out]
                        exact ⟨_, _, rfl, LAt.nil _ _ _, fun _ => Nat.zero_le _, fun _ h => absurd rfl h, H3.out.lr.bel⟩
                      · go_wp2_with (first | (go_at_call 29; refine (blankW _ _).mono ?_; rintro e wb ⟨rfl, rfl⟩) | (go_at_call 30; refine (HQS.out _ H1.out.lr.bel).mono ?_; rintro e w3 ⟨v0, rfl, hR, hb3⟩; obtain ⟨A2, c2, rfl, _, hC2⟩ := Kd.R_reads hR; have HC2 := Aside0.mk hC2; have H3 := Aside0.mk (H1.out.below hb3); have hz3 : w3.cell? (ad.add m) = some (.int .u8 z) := (by obtain ⟨ad3, z3, e3, h3, b3⟩ := HQ.out w3 H3.out.lr.bel m HML.out; obtain rfl := Option.some.inj e3; rw [HZ.out] at b3; obtain rfl := Option.some.inj b3; exact h3); clear hR hb3 hC2))
                        subst hQ
                        go_wp2_with fail
                        (try rw [Exit.noGoto_ret])
                        go_ret2
                        rw [HE.out]
                        exact ⟨_, _, rfl, LAt.nil _ _ _, fun _ => Nat.zero_le _, fun _ h => absurd rfl h, H3.out.lr.bel⟩
                · have hq1 : ¬ y = 34 := fun h => hq (.inl h)
                  have hq2 : ¬ y = 39 := fun h => hq (.inr h)
                  have hb1 : (y != 34) = true := by simpa using hq1
                  have hb2 : (y != 39) = true := by simpa using hq2
                  have hwl := H1.out.len
                  have HD : Aside0 (b.length - (j + 1) < b.length - j) := ⟨by omega⟩
                  clear hq
                  obtain ⟨Aw, cw, rfl, _⟩ := H1.out.bw.slice
                  go_upto_region 12 with (first | (go_at_call 29; refine (blankW _ _).mono ?_; rintro e wb ⟨rfl, rfl⟩) | ((with_reducible refine gate_builtin (b := .append) (xs := #[.tmp 48, .tmp 53]) rfl ?_); at_builtin; refine wpList_gen2 _ rfl (.tmp 48) (.tmp 53) 26 5 rfl Try.underlying26 (.int .u8 0) 1 (by kernel_rfl) rfl (by decide) (.slice Aw wv.length cw) (wv.map (Value.int .u8)) rfl ?hv ⟨_, 0, none⟩ (.int .u8 y) rfl ?hc rfl ?hb ?_; (case hv => exact H1.out.bw.1.upd (S := none_) (Upd.of_below (below_alloc (Below.refl _ _) _)) (fun _ _ h => h)); (case hc => exact cell_one_new _ _ _ 0 _ rfl); (case hb => rw [List.length_map]; omega); intro v5 w5 hr; have H5 := Aside0.mk (WR.grow H1.out HY.out HBY.out ⟨hq1, hq2⟩ (below_alloc (Below.refl _ _) _) hr); clear hr hy))
                  go_wp2_with fail
                  exact ⟨⟨j + 1, _, _, by rw [Int.natCast_succ], H5⟩, by have := HD.out; simp only [intOf]; omega⟩
            · have hjl : j = b.length := by omega
              have HKJ : Aside0 (k < j) := ⟨by omega⟩
              have HWD : Aside0 (wd (b.drop k) [] = some (wv, b.drop j)) := ⟨by rw [← H1.out.eq, hjl, List.drop_length]; rfl⟩
              have hj' : ¬ (j : Int) < (b.length : Int) := by omega
              clear hjl hj
              obtain ⟨Aw, cw, rfl, _⟩ := H1.out.bw.slice
              obtain ⟨vs, O1, hgv, hel, hO1⟩ := H1.out.lr.ro
              have HVS : Aside0 (vs.length ≤ 100000000) := ⟨by rw [hel.len]; have := H1.out.lr.len; have := H1.out.lr.le; omega⟩
              have HG := Aside0.mk hgv
              have HE1 := Aside0.mk hel
              have HO1 := Aside0.mk hO1
              obtain ⟨Ao, co, rfl⟩ := hgv.slice
              clear hgv hel hO1
              go_wp2_with (go_at_call 29; refine (blankW _ _).mono ?_; rintro e wb ⟨rfl, rfl⟩)
              subst hQ
              go_upto_region 19 with ((with_reducible refine gate_builtin (b := .append) (xs := #[.tmp 89, .tmp 91]) rfl ?_); at_builtin; refine wpList_gen2 _ rfl (.tmp 89) (.tmp 91) 22 26 rfl Try.underlying22 (.slice none 0 0) 24 (by kernel_rfl) rfl (by decide) (.slice Ao vs.length co) vs rfl ?hv ⟨_, 0, none⟩ (.slice Aw wv.length cw) rfl ?hc rfl ?hb ?_; (case hv => exact HG.out.upd (S := none_) (Upd.of_below (below_alloc (Below.refl _ _) _)) (fun _ _ h => h)); (case hc => exact cell_one_new _ _ _ 0 _ rfl); (case hb => exact HVS.out); intro v5 w5 hr; obtain ⟨O5, hr5⟩ := LR.grow H1.out.lr HX.out HBL.out H1.out.le.2 HKJ.out HWD.out H1.out.bw H1.out.one H1.out.new HE1.out HO1.out (below_alloc (Below.refl _ _) _) hr; have H5 := Aside0.mk hr5; obtain ⟨g5, c5, e5⟩ := hr.form; subst e5; clear hr hr5)
              exact ⟨⟨j, _, O5, rfl, H5⟩, by simp only [intOf]; have := HKJ.out; omega⟩
      · obtain rfl : k = b.length := by have := H.out.le; omega
        clear hk
        obtain ⟨Ao, co, rfl⟩ := H.out.ro.slice
        have hln : ln b [] = some ll := by
          have := H.out.eq
          rw [List.drop_length, LinS.ln_nil] at this
          exact this.symm
        have hll := H.out.len
        by_cases h128 : 128 < ll.length
        · have HE : Aside0 (LinS.line b = ([], 83)) := ⟨by unfold LinS.line; rw [if_neg HL.out, hln]; dsimp only; rw [if_pos h128]⟩
          have h128' : (128 : Int) < (ll.length : Int) := by omega
          clear hln hll h128
          go_wp2_with fail
          (try rw [Exit.noGoto_ret])
          go_ret2
          rw [HE.out]
          exact ⟨_, _, rfl, LAt.nil _ _ _, fun _ => Nat.zero_le _, fun _ h => absurd rfl h, H.out.bel⟩
        · have HE : Aside0 (LinS.line b = (ll, 0)) := ⟨by unfold LinS.line; rw [if_neg HL.out, hln]; dsimp only; rw [if_neg h128]⟩
          have h128' : ¬ (128 : Int) < (ll.length : Int) := by omega
          clear hln hll h128
          go_wp2_with fail
          (try rw [Exit.noGoto_ret])
          go_ret2
          rw [HE.out]
          exact ⟨_, _, rfl, H.out.ro, H.out.one, H.out.new, H.out.bel⟩
end Go.Proofs.Ytfdkcnbkoagmiaa.LinW
end

section
namespace Go.Proofs.Ytfdkcnbkoagmiaa.ParD
open Go Go.RowKit Go.Proofs.YtfdkcnbkoagmiaaW.PrintWords Go.Proofs.YtfdkcnbkoagmiaaW.PrintLast Go.Proofs.YtfdkcnbkoagmiaaW.PrintMore Go.Proofs.Ytfdkcnbkoagmiaa.RowU Go.Proofs.Ytfdkcnbkoagmiaa.ArS Go.Proofs.Ytfdkcnbkoagmiaa.ArM Go.Proofs.Ytfdkcnbkoagmiaa.GenM Go.Proofs.Ytfdkcnbkoagmiaa.GenN Go.Proofs.Ytfdkcnbkoagmiaa.OwnL Go.Proofs.Ytfdkcnbkoagmiaa.ParM Go.Proofs.Ytfdkcnbkoagmiaa.ParA Go.Proofs.Ytfdkcnbkoagmiaa.ParB Go.Proofs.Ytfdkcnbkoagmiaa.ParC
open Go.Proofs.Ytfdkcnbkoagmiaa.ParS (St PS)
open Go.Proofs.Ytfdkcnbkoagmiaa.LinS (inB)
set_option linter.unusedVariables false
set_option maxRecDepth 100000
section
variable {w : World} {g : Nat} {p : PS} {va vc vo : Value} {Oa Oc Oo : Nat → Nat}
theorem PQ.same (h : PM w g p va vc vo Oa Oc Oo) : PQ w w (PO g Oa Oc Oo) g p := ⟨_, _, _, _, _, _, h, fun _ _ => Nat.le_refl _, Upd.refl _ _⟩
theorem argsSet (h : PM w g p va vc vo Oa Oc Oo) {w1 : World} {v : Value} {ls : List (List Int)} {Ow : Nat → Nat} (hb : Below w.heap.size w w1) (hv : RwR w1 v ls Ow) (h1 : ∀ a, Ow a ≤ 1) (hn : ∀ a, Ow a ≠ 0 → w.heap.size ≤ a) :
    w1.heap[g]? = some (.cells (pc g p va vc vo) 84 (0, 0)) ∧ ∀ w3, Upd (fun a => a = g) w1 w3 → w3.heap[g]? = some (.cells (pc g { p with args := ls } v vc vo) 84 (0, 0)) → PM w3 g { p with args := ls } v vc vo Ow Oc Oo ∧ (∀ a, a < w.heap.size → PO g Ow Oc Oo a ≤ PO g Oa Oc Oo a) ∧ Upd (fun a => PO g Oa Oc Oo a ≠ 0) w w3 := by
  have ho := h.one
  have hlt : ∀ a, PO g Oa Oc Oo a ≠ 0 → a < w.heap.size := fun a ha => h.lt ha
  have hgl : g < w.heap.size := hlt g (by unfold PO; rw [if_pos rfl]; omega)
  refine ⟨blk_below h.hd hb, fun w3 hu hd => ?_⟩
  have hg : ∀ a, Oc a + Oo a ≠ 0 → ¬ a = g := fun a ha e => by have := ho a; rw [if_pos e] at this; omega
  have hz2 : ∀ a, a < w.heap.size → Ow a = 0 := fun a ha => Decidable.not_not.1 fun hne => by have := hn a hne; omega
  refine ⟨⟨hd, RwR.fit.upd hv hu (fun a ha e => by subst e; have := hn a ha; omega), (h.cu.upd (Upd.of_below (S := fun _ => False) hb) (fun a _ hf => hf)).upd hu (fun a h0 => hg a (by omega)), CmR.fit.upd (CmR.fit.upd h.ou (Upd.of_below (S := fun _ => False) hb) (fun a _ hf => hf)) hu (fun a h0 => hg a (by omega)), fun a => ?_⟩, fun a hlt' => ?_, (Upd.of_below hb).trans2 hu (fun a e => .inl (by subst e; unfold PO; rw [if_pos rfl]; omega))⟩
  · by_cases hlt' : a < w.heap.size
    · have := ho a; have := hz2 a hlt'; omega
    · have e0 : PO g Oa Oc Oo a = 0 := Decidable.not_not.1 fun hne => hlt' (hlt a hne)
      unfold PO at e0
      have := h1 a
      omega
  · have := hz2 a hlt'
    unfold PO
    omega
end
set_option maxHeartbeats 8000000 in
theorem line.calls {w : World} {g : Nat} {p : PS} {va vc vo : Value} {Oa Oc Oo : Nat → Nat} (c : Int) (h : PM w g p va vc vo Oa Oc Oo) (hi : ParS.Inv p) (hs : p.st = .line) (h0 : 0 ≤ c) (h1 : c < 256) (hol : p.out.length ≤ 90000000) (hcb : inB p.cur) :
    Calls Try.prog 43 #[ptr g, .int .u8 c] w fun e w' => e = .returned (.int .i64 (ParS.lineB p c).2) ∧ PQ w w' (PO g Oa Oc Oo) g (ParS.lineB p c).1 := by
  have hl : live p.st = true := by rw [hs]; rfl
  have hcu : BtR w vc p.cur Oc := by have := h.cu; rw [hl] at this; exact this
  have H := Aside0.mk h
  have HC := Aside0.mk hcu
  have HL := Aside0.mk hl
  have HS := Aside0.mk hs
  have HOL := Aside0.mk hol
  have hlen := hi.curl hs
  have hd0 := h.hd
  have hmf := hmf_
  obtain ⟨Ac, cc, rfl, hcc⟩ := hcu.slice
  have dx0 := (blk_cell hd0 9).trans (show _ = some (.slice Ac p.cur.length cc : Value) from rfl)
  by_cases hc : c = 10
  · subst hc
    have HLN := Aside0.mk (LinW.line.calls Ac cc p.cur w hcu.C.2.2 hcb hcc)
    clear h hcu hi hs hl hd0 hol hcb hcc
    by_cases hz : (LinS.line p.cur).2 = 0
    · have HW : Aside0 (ParS.lineB p 10 = (ParS.whole { p with args := (LinS.line p.cur).1 }, 0)) := ⟨by unfold ParS.lineB; rw [if_neg (by decide), if_neg (Decidable.not_not.2 hz)]⟩
      rw [hz] at HLN
      go_enter Try.func43, Try.ntmps43
      go_wp2_with (first | (go_at_call 9; refine HLN.out.mono ?_; rintro e w1 ⟨v, Ow, rfl, k1, k2, k3, k4⟩; obtain ⟨Av, cv, rfl⟩ := k1.slice; have G2 := Aside0.mk (argsSet H.out k4 k1 k2 k3); clear k1 k2 k3 k4 dx0; have hd2 := G2.out.1; have ex0 := (blk_cell hd2 8).trans (show _ = some (va : Value) from rfl); have ef0 := blk_frozen hd2 8; have eh0 := blk_set hd2 8 (.slice Av (LinS.line p.cur).1.length cv); have EZ := Aside0.mk eh0; clear eh0; clear hd2) | (go_at_call 54; have H3 := Aside0.mk (G2.out.2 _ (by ((repeat (refine up1 ?_ _ _)); exact Upd.refl _ _)) (EZ.out.trans (by rfl))); refine (whole.calls H3.out.1 HOL.out).mono ?_; rintro e w4 ⟨rfl, hq⟩; have H4 := Aside0.mk (PQ.trans H3.out.1 H3.out.2.1 H3.out.2.2 hq); clear hq))
      go_ret
      rw [HW.out]
      exact ⟨rfl, H4.out⟩
    · have HW : Aside0 (ParS.lineB p 10 = (p, (LinS.line p.cur).2)) := ⟨by unfold ParS.lineB; rw [if_neg (by decide), if_pos hz]⟩
      obtain ⟨E, hE⟩ : ∃ E, E = (LinS.line p.cur).2 := ⟨_, rfl⟩
      rw [← hE] at HLN HW hz
      clear hE
      go_enter Try.func43, Try.ntmps43
      go_wp2_with (go_at_call 9; refine HLN.out.mono ?_; rintro e w1 ⟨v, Ow, rfl, k1, k2, k3, k4⟩; have K4 := Aside0.mk k4; clear k1 k2 k3 k4)
      go_ret
      rw [HW.out]
      exact ⟨rfl, _, _, _, _, _, _, H.out.upd (S := fun _ => False) (Upd.of_below K4.out) (fun _ _ hf => hf), fun a _ => Nat.le_refl _, Upd.of_below K4.out⟩
  · have HU := Aside0.mk unless.calls
    clear h hcu hi hs hl hd0 hol hcb hcc
    by_cases hle : p.cur.length + 1 ≤ 1024
    · have HW : Aside0 (ParS.lineB p c = ({ p with cur := p.cur ++ [c] }, 0)) := ⟨by unfold ParS.lineB; rw [if_pos hc, if_pos hle]⟩
      have hle2 : (p.cur.length : Int) + 1 ≤ 1024 := by omega
      clear hle
      go_enter Try.func43, Try.ntmps43
      go_upto_region 3 with ((with_reducible refine gate_builtin (b := .append) (xs := #[.tmp 13, .tmp 15]) rfl ?_); at_builtin; refine wpList_gen2 _ rfl (.tmp 13) (.tmp 15) 26 5 rfl Try.underlying26 (.int .u8 0) 1 (by kernel_rfl) rfl (by decide) (.slice Ac p.cur.length cc) (p.cur.map (Value.int .u8)) rfl ?hv ⟨w.heap.size, 0, none⟩ (.int .u8 c) rfl ?hc rfl ?hb ?_; (case hv => exact HC.out.1.upd (S := none_) (Upd.of_below (below_alloc (Below.refl _ _) _)) (fun _ _ h => h)); (case hc => exact cell_one_new _ _ _ 0 _ rfl); (case hb => rw [List.length_map]; omega); intro v2 w2 hr; obtain ⟨g2, c2, e2⟩ := hr.form; rw [List.length_map] at e2; subst e2; clear dx0; have G2 := Aside0.mk (curGrew H.out HL.out (below_alloc (Below.refl _ _) _) hr); clear hr; have hd2 := G2.out.1; have ex0 := (blk_cell hd2 9).trans (show _ = some (.slice Ac p.cur.length cc : Value) from rfl); have ef0 := blk_frozen hd2 9; have eh0 := blk_set hd2 9 (.slice (some ⟨g2, 0, none⟩) (p.cur.length + 1) c2); have ex1 := (blk_cell eh0 9).trans (show _ = some (.slice (some ⟨g2, 0, none⟩) (p.cur.length + 1) c2 : Value) from rfl); have EZ := Aside0.mk eh0; clear eh0; clear hd2)
      go_wp2_with (go_at_call 53; refine (HU.out _ _ _).mono ?_; rintro e w5 ⟨rfl, rfl⟩)
      go_ret
      rw [HW.out]
      exact ⟨rfl, G2.out.2 _ _ (by ((repeat (refine up1 ?_ _ _)); exact Upd.refl _ _)) (EZ.out.trans (by rfl)) rfl rfl rfl HL.out⟩
    · have HW : Aside0 (ParS.lineB p c = ({ p with cur := p.cur ++ [c] }, 83)) := ⟨by unfold ParS.lineB; rw [if_pos hc, if_neg hle]⟩
      have hle2 : ¬ (p.cur.length : Int) + 1 ≤ 1024 := by omega
      clear hle
      go_enter Try.func43, Try.ntmps43
      go_upto_region 3 with ((with_reducible refine gate_builtin (b := .append) (xs := #[.tmp 13, .tmp 15]) rfl ?_); at_builtin; refine wpList_gen2 _ rfl (.tmp 13) (.tmp 15) 26 5 rfl Try.underlying26 (.int .u8 0) 1 (by kernel_rfl) rfl (by decide) (.slice Ac p.cur.length cc) (p.cur.map (Value.int .u8)) rfl ?hv ⟨w.heap.size, 0, none⟩ (.int .u8 c) rfl ?hc rfl ?hb ?_; (case hv => exact HC.out.1.upd (S := none_) (Upd.of_below (below_alloc (Below.refl _ _) _)) (fun _ _ h => h)); (case hc => exact cell_one_new _ _ _ 0 _ rfl); (case hb => rw [List.length_map]; omega); intro v2 w2 hr; obtain ⟨g2, c2, e2⟩ := hr.form; rw [List.length_map] at e2; subst e2; clear dx0; have G2 := Aside0.mk (curGrew H.out HL.out (below_alloc (Below.refl _ _) _) hr); clear hr; have hd2 := G2.out.1; have ex0 := (blk_cell hd2 9).trans (show _ = some (.slice Ac p.cur.length cc : Value) from rfl); have ef0 := blk_frozen hd2 9; have eh0 := blk_set hd2 9 (.slice (some ⟨g2, 0, none⟩) (p.cur.length + 1) c2); have ex1 := (blk_cell eh0 9).trans (show _ = some (.slice (some ⟨g2, 0, none⟩) (p.cur.length + 1) c2 : Value) from rfl); have EZ := Aside0.mk eh0; clear eh0; clear hd2)
      go_wp2_with (go_at_call 53; refine (HU.out _ _ _).mono ?_; rintro e w5 ⟨rfl, rfl⟩)
      go_ret
      rw [HW.out]
      exact ⟨rfl, G2.out.2 _ _ (by ((repeat (refine up1 ?_ _ _)); exact Upd.refl _ _)) (EZ.out.trans (by rfl)) rfl rfl rfl HL.out⟩
theorem toLine {p : PS} (h : ParS.Inv p) : ParS.Inv { p with cur := [], st := .line } := by
  obtain ⟨a1, a2, a3, a4, a5, a6, a7, a8, a9, a10, a11, a12, a13⟩ := h
  exact ⟨a1, a2, a3, a4, fun h => (by cases h), a6, a7, fun h => (by rcases h with h | h | h | h | ⟨h | h, _⟩ <;> cases h), by simp, fun h => (by cases h), fun _ => by simp, a12, fun h => (by rcases h with h | h <;> cases h)⟩
set_option maxHeartbeats 8000000 in
theorem begin.calls : StepC .begin := by
  intro w g p va vc vo Oa Oc Oo c h hi hs h0 h1 hol
  have H := Aside0.mk h
  have hd0 := h.hd
  have hmf := hmf_
  have HI := Aside0.mk (And.intro (toLine hi) hol)
  have hst : ParS.step p c = if c = 42 then (ParS.number p 0 128, 0) else ParS.lineB { p with cur := [], st := .line } c := by unfold ParS.step; rw [hs]
  show Calls Try.prog 32 _ _ _
  by_cases hc : c = 42
  · have HN := Aside0.mk (number.calls h 0 128)
    subst hc
    rw [if_pos rfl] at hst
    have HE := Aside0.mk hst
    clear h hd0 hi hs hst hol
    go_enter Try.func32, Try.ntmps32
    go_wp2_with (go_at_call 42; refine HN.out.mono ?_; rintro e w1 ⟨rfl, k1, k2⟩; have H1 := Aside0.mk (And.intro k1 k2); clear k1 k2)
    go_ret
    rw [HE.out]
    exact ⟨rfl, PQ.of H1.out.1 H1.out.2 (fun a => by unfold PO; dsimp only; omega)⟩
  · rw [if_neg hc] at hst
    have HE := Aside0.mk hst
    have ex0 := (blk_cell hd0 9).trans (show _ = some (vc : Value) from rfl)
    have ef0 := blk_frozen hd0 9
    have eh0 := blk_set hd0 9 (.slice none 0 0)
    have ex1 := (blk_cell eh0 0).trans (show _ = some (fnV g p.st : Value) from rfl)
    have ef1 := blk_frozen eh0 0
    have eh1 := blk_set eh0 0 (fnV g .line)
    have EZ := Aside0.mk eh1
    clear eh0 eh1
    have HP : Aside0 (∀ w', Upd (fun a => a = g) w w' → w'.heap[g]? = some (.cells (pc g { p with cur := [], st := .line } va (.slice none 0 0) vo) 84 (0, 0)) → PM w' g { p with cur := [], st := .line } va (.slice none 0 0) vo Oa (fun _ => 0) Oo) := ⟨fun w' hu hd => by
      have ho := H.out.one
      have hz : ∀ a, Oa a + Oo a ≠ 0 → ¬ a = g := fun a ha e => by have := ho a; rw [if_pos e] at this; omega
      exact ⟨hd, RwR.fit.upd H.out.ar hu (fun a h0 => hz a (by omega)), ⟨GV.nil _ _, fun _ => rfl⟩, CmR.fit.upd H.out.ou hu (fun a h0 => hz a (by omega)), fun a => by have := ho a; show (if a = g then 1 else 0) + Oa a + 0 + Oo a ≤ 1; omega⟩⟩
    clear h hd0 hi hs hst hol
    go_enter Try.func32, Try.ntmps32
    go_wp2_with (go_at_call 43; have H1 := Aside0.mk (HP.out _ (by ((repeat (refine up1 ?_ _ _)); exact Upd.refl _ _)) (EZ.out.trans (by rfl))); refine (line.calls c H1.out HI.out.1 rfl h0 h1 HI.out.2 (fun _ hx => (by cases hx))).mono ?_; rintro e w5 ⟨rfl, hq⟩; have H5 := Aside0.mk (PQ.trans (w := w) (O := PO g Oa Oc Oo) H1.out (fun a _ => by unfold PO; dsimp only; omega) (Upd.mono (S := fun a => a = g) (by ((repeat (refine up1 ?_ _ _)); exact Upd.refl _ _)) (fun a ha => by subst ha; unfold PO; rw [if_pos rfl]; omega)) hq); clear hq)
    go_ret
    rw [HE.out]
    exact ⟨rfl, H5.out⟩
set_option maxHeartbeats 8000000 in
theorem new.calls (W : World) : Calls Try.prog 12 #[] W fun e w' => e = .returned (ptr W.heap.size) ∧ PM w' W.heap.size ParS.new (.slice none 0 0) (.slice none 0 0) (.slice none 0 0) (fun _ => 0) (fun _ => 0) (fun _ => 0) ∧ Below W.heap.size W w' := by
  have hmf := hmf_
  have hd0 : (W.alloc (.cells #[.nilFunc, .int .i64 0, .int .i64 0, .int .i64 0, .int .i64 0, .int .i64 0, .int .i64 0, .int .i64 0, .slice none 0 0, .slice none 0 0, .int .i64 0, .slice none 0 0] 84)).heap[W.heap.size]? = some (.cells #[.nilFunc, .int .i64 0, .int .i64 0, .int .i64 0, .int .i64 0, .int .i64 0, .int .i64 0, .int .i64 0, .slice none 0 0, .slice none 0 0, .int .i64 0, .slice none 0 0] 84 (0, 0)) := blk_new W _
  have hx0 := (blk_cell hd0 0).trans (show _ = some (Value.nilFunc) from rfl)
  have hf0 := blk_frozen hd0 0
  have H1 := Aside0.mk (blk_set hd0 0 (fnV W.heap.size .begin))
  clear hd0
  go_enter Try.func12, Try.ntmps12
  go_wp2_with fail
  go_ret
  exact ⟨rfl, ⟨blk_new W _, LAt.nil _ _ _, fun _ => rfl, LAt.nil _ _ _, fun a => by split <;> omega⟩, below_alloc (Below.refl _ _) _⟩
theorem broken.calls {w : World} {g : Nat} {p : PS} {va vc vo : Value} {Oa Oc Oo : Nat → Nat} (h : PM w g p va vc vo Oa Oc Oo) : Calls Try.prog 21 #[ptr g] w fun e w' => e = .returned (.int .i64 p.broken) ∧ w' = w := by
  have h0 := h.hd
  have ex0 := (blk_cell h0 1).trans (show _ = some (.int .i64 p.broken : Value) from rfl)
  clear h h0
  go_enter Try.func21, Try.ntmps21
  go_wp2_with fail
  go_ret
  exact ⟨rfl, rfl⟩
theorem held.calls {w : World} {g : Nat} {p : PS} {va vc vo : Value} {Oa Oc Oo : Nat → Nat} (h : PM w g p va vc vo Oa Oc Oo) : Calls Try.prog 23 #[ptr g] w fun e w' => e = .returned (.int .i64 p.held) ∧ w' = w := by
  have h0 := h.hd
  have ex0 := (blk_cell h0 2).trans (show _ = some (.int .i64 p.held : Value) from rfl)
  clear h h0
  go_enter Try.func23, Try.ntmps23
  go_wp2_with fail
  go_ret
  exact ⟨rfl, rfl⟩
end Go.Proofs.Ytfdkcnbkoagmiaa.ParD
end

section
namespace Go.Proofs.Ytfdkcnbkoagmiaa.ParF
open Go Go.RowKit Go.Proofs.YtfdkcnbkoagmiaaW.PrintWords Go.Proofs.YtfdkcnbkoagmiaaW.PrintLast Go.Proofs.YtfdkcnbkoagmiaaW.PrintMore Go.Proofs.Ytfdkcnbkoagmiaa.RowU Go.Proofs.Ytfdkcnbkoagmiaa.ArS Go.Proofs.Ytfdkcnbkoagmiaa.ArM Go.Proofs.Ytfdkcnbkoagmiaa.GenM Go.Proofs.Ytfdkcnbkoagmiaa.GenN Go.Proofs.Ytfdkcnbkoagmiaa.OwnL Go.Proofs.Ytfdkcnbkoagmiaa.ParM Go.Proofs.Ytfdkcnbkoagmiaa.ParA Go.Proofs.Ytfdkcnbkoagmiaa.ParB Go.Proofs.Ytfdkcnbkoagmiaa.ParC Go.Proofs.Ytfdkcnbkoagmiaa.ParD
open Go.Proofs.Ytfdkcnbkoagmiaa.ParS (St PS)
open Go.Proofs.Ytfdkcnbkoagmiaa.LinS (inB)
set_option linter.unusedVariables false
set_option maxRecDepth 100000
abbrev nl : Value := .slice none 0 0
theorem lineB_in {p : PS} {c : Int} (h : inB p.cur) (hc : 0 ≤ c ∧ c < 256) : inB (ParS.lineB p c).1.cur := by
  unfold ParS.lineB
  split
  · intro x hx
    rcases List.mem_append.1 hx with hx | hx
    · exact h x hx
    · rw [List.mem_singleton.1 hx]; exact hc
  · split
    · exact h
    · intro x hx; cases hx
theorem nil_in : inB [] := fun _ hx => by cases hx
theorem step_in {p : PS} {c : Int} (h : inB p.cur) (hc : 0 ≤ c ∧ c < 256) : inB (ParS.step p c).1.cur := by
  unfold ParS.step
  cases p.st <;> dsimp only
  · split
    · exact h
    · exact lineB_in (p := { p with cur := [], st := .line }) nil_in hc
  · unfold ParS.digitB; repeat' split
    all_goals exact h
  · exact h
  · exact h
  · unfold ParS.numFB; repeat' split
    all_goals first | exact h | exact nil_in
  · exact h
  · intro x hx
    rcases List.mem_append.1 hx with hx | hx
    · exact h x hx
    · rw [List.mem_singleton.1 hx]; exact hc
  · exact h
  · unfold ParS.contFB; repeat' split
    all_goals first | exact h | exact nil_in
  · exact lineB_in h hc
theorem runB_in {p : PS} {c : Int} (h : inB p.cur) (hc : 0 ≤ c ∧ c < 256) : inB (ParS.runB p c).cur := by
  unfold ParS.runB
  split
  · exact h
  · unfold ParS.step1
    split
    · exact nil_in
    · exact step_in (p := { p with held := p.held + 1 }) h hc
theorem run_in : ∀ (b : List Int) {p : PS}, inB p.cur → inB b → inB (ParS.run p b).cur := by
  intro b
  induction b with
  | nil => intro p h _; exact h
  | cons c b ih => intro p h hb; rw [ParS.run_cons]; exact ih (runB_in h (hb c (by simp))) (fun x hx => hb x (by simp [hx]))
theorem outLe {p : PS} {c : Int} : (ParS.step p c).1.out.length ≤ p.out.length + 1 := by
  have hw : ∀ q : PS, (ParS.whole q).out.length ≤ q.out.length + 1 := fun q => by unfold ParS.whole; dsimp only; split <;> simp
  have hL : ∀ q : PS, (ParS.lineB q c).1.out.length ≤ q.out.length + 1 := fun q => by
    unfold ParS.lineB
    split
    · simp
    · split
      · simp
      · exact hw _
  unfold ParS.step
  cases p.st <;> dsimp only
  · split
    · simp [ParS.number]
    · exact hL _
  · unfold ParS.digitB; repeat' split
    all_goals simp
  · simp
  · simp
  · unfold ParS.numFB; repeat' split
    all_goals first | (simp; done) | exact hw _
  · simp [ParS.number]
  · simp
  · simp
  · unfold ParS.contFB; repeat' split
    all_goals first | (simp; done) | exact hw _
  · exact hL _
theorem heldLe {p : PS} {c : Int} (h : 0 ≤ p.held) : 0 ≤ (ParS.step p c).1.held ∧ (ParS.step p c).1.held ≤ p.held := by
  have hw : ∀ q : PS, (ParS.whole q).held = 0 := fun q => rfl
  have hL : ∀ q : PS, q.held = p.held → 0 ≤ (ParS.lineB q c).1.held ∧ (ParS.lineB q c).1.held ≤ p.held := fun q hq => by
    unfold ParS.lineB
    split
    · show 0 ≤ q.held ∧ q.held ≤ p.held
      omega
    · split
      · show 0 ≤ q.held ∧ q.held ≤ p.held
        omega
      · show (0 : Int) ≤ 0 ∧ (0 : Int) ≤ p.held
        omega
  unfold ParS.step
  cases p.st <;> dsimp only
  · split
    · exact ⟨h, by show p.held ≤ p.held; omega⟩
    · exact hL _ rfl
  · unfold ParS.digitB; repeat' split
    all_goals exact ⟨h, by show p.held ≤ p.held; omega⟩
  · exact ⟨h, by omega⟩
  · exact ⟨h, by omega⟩
  · unfold ParS.numFB; repeat' split
    all_goals first | exact ⟨h, by show p.held ≤ p.held; omega⟩ | (show (0 : Int) ≤ 0 ∧ (0 : Int) ≤ p.held; omega)
  · exact ⟨h, by show p.held ≤ p.held; omega⟩
  · exact ⟨h, by omega⟩
  · exact ⟨h, by omega⟩
  · unfold ParS.contFB; repeat' split
    all_goals first | exact ⟨h, by show p.held ≤ p.held; omega⟩ | (show (0 : Int) ≤ 0 ∧ (0 : Int) ≤ p.held; omega)
  · exact hL _ rfl
theorem runB_le {p : PS} {c : Int} (h : 0 ≤ p.held) : (ParS.runB p c).out.length ≤ p.out.length + 1 ∧ 0 ≤ (ParS.runB p c).held ∧ (ParS.runB p c).held ≤ p.held + 1 := by
  unfold ParS.runB
  split
  · exact ⟨by omega, h, by omega⟩
  · have h1 := outLe (p := { p with held := p.held + 1 }) (c := c)
    have h2 := heldLe (p := { p with held := p.held + 1 }) (c := c) (by show 0 ≤ p.held + 1; omega)
    unfold ParS.step1
    split
    · exact ⟨h1, by show (0 : Int) ≤ 0; omega, by show (0 : Int) ≤ p.held + 1; omega⟩
    · exact ⟨h1, h2⟩
theorem run_le : ∀ (b : List Int) {p : PS}, 0 ≤ p.held → (ParS.run p b).out.length ≤ p.out.length + b.length ∧ 0 ≤ (ParS.run p b).held ∧ (ParS.run p b).held ≤ p.held + b.length := by
  intro b
  induction b with
  | nil => intro p h; exact ⟨by simp [ParS.run_nil], h, by simp [ParS.run_nil]⟩
  | cons c b ih =>
    intro p h
    obtain ⟨h1, h2, h3⟩ := runB_le (c := c) h
    obtain ⟨h4, h5, h6⟩ := ih (p := ParS.runB p c) h2
    rw [ParS.run_cons, List.length_cons]
    exact ⟨by omega, h5, by omega⟩
theorem step.calls {w : World} {g : Nat} {p : PS} {va vc vo : Value} {Oa Oc Oo : Nat → Nat} (c : Int) (h : PM w g p va vc vo Oa Oc Oo) (hi : ParS.Inv p) (h0 : 0 ≤ c) (h1 : c < 256) (hol : p.out.length ≤ 90000000) (hcb : inB p.cur) :
    Calls Try.prog (fnN p.st) #[ptr g, .int .u8 c] w fun e w' => e = .returned (.int .i64 (ParS.step p c).2) ∧ PQ w w' (PO g Oa Oc Oo) g (ParS.step p c).1 := by
  cases hs : p.st with
  | begin => exact begin.calls c h hi hs h0 h1 hol
  | digit => exact digit.calls c h hi hs h0 h1 hol
  | minus => exact minus.calls c h hi hs h0 h1 hol
  | minusR => exact minusR.calls c h hi hs h0 h1 hol
  | numF => exact numF.calls c h hi hs h0 h1 hol
  | dollar => exact dollar.calls c h hi hs h0 h1 hol
  | content => exact content.calls c h hi hs h0 h1 hol
  | contR => exact contR.calls c h hi hs h0 h1 hol
  | contF => exact contF.calls c h hi hs h0 h1 hol
  | line =>
    have e : ParS.step p c = ParS.lineB p c := by unfold ParS.step; rw [hs]
    rw [e]
    exact line.calls c h hi hs h0 h1 hol hcb
theorem Upd.cell {S : Nat → Prop} {w w' : World} {a : Addr} (h : Upd S w w') (hl : a.block < w.heap.size) (hn : ¬ S a.block) : w'.cell? a = w.cell? a := by
  unfold World.cell?
  rw [h.block _ hl hn]
structure FR (W w : World) (O : Nat → Nat) (g : Nat) (p : PS) (b : List Int) (k : Nat) : Prop where
  le : k ≤ b.length
  ok : (ParS.run p (b.take k)).broken = 0
  pq : PQ W w O g (ParS.run p (b.take k))
def FQ (w w' : World) (O : Nat → Nat) (g : Nat) (p' : PS) (vt : Value) (ot : List (List (List Int))) : Prop := ∃ va vc vo Oa Oc Oo Ot, PM w' g p' va vc vo Oa Oc Oo ∧ CmR w' vt ot Ot ∧ (∀ a, PO g Oa Oc Oo a + Ot a ≤ 1) ∧ (∀ a, a < w.heap.size → PO g Oa Oc Oo a + Ot a ≤ O a) ∧ Upd (fun a => O a ≠ 0) w w'
theorem run_take {p : PS} {b : List Int} {k : Nat} {x : Int} (hx : b[k]? = some x) : ParS.run p (b.take (k + 1)) = ParS.runB (ParS.run p (b.take k)) x := by
  obtain ⟨hk, rfl⟩ := List.getElem?_eq_some_iff.1 hx
  rw [List.take_add_one, List.getElem?_eq_getElem hk, Option.toList_some, ParS.run_append, ParS.run_cons, ParS.run_nil]
theorem enter_of {f : FuncId} {fn : Func} {c : Code} (hf : Try.prog.funcs[f]? = some fn) (hname : (fn.name == "runtime.NumGoroutine") = false) (hb : fn.body = some c) (args : Array Value) (w : World) : (callFunc f args).run Try.prog w = .ok (.enter f args) w := by
  have h1 : fn.name ≠ "runtime.NumGoroutine" := by simpa using hname
  simp [callFunc, hf, h1, hb]
theorem enters (s : St) (args : Array Value) (w : World) : (callFunc (fnN s) args).run Try.prog w = .ok (.enter (fnN s) args) w := by
  cases s with
  | begin => exact enter_of Try.func32 (by kernel_rfl) rfl args w
  | digit => exact enter_of Try.func52 (by kernel_rfl) rfl args w
  | minus => exact enter_of Try.func75 (by kernel_rfl) rfl args w
  | minusR => exact enter_of Try.func93 (by kernel_rfl) rfl args w
  | numF => exact enter_of Try.func74 (by kernel_rfl) rfl args w
  | dollar => exact enter_of Try.func92 (by kernel_rfl) rfl args w
  | content => exact enter_of Try.func90 (by kernel_rfl) rfl args w
  | contR => exact enter_of Try.func91 (by kernel_rfl) rfl args w
  | contF => exact enter_of Try.func97 (by kernel_rfl) rfl args w
  | line => exact enter_of Try.func43 (by kernel_rfl) rfl args w
theorem step_broken (p : PS) (c : Int) : (ParS.step p c).1.broken = p.broken := by
  have hL : ∀ q : PS, (ParS.lineB q c).1.broken = q.broken := fun q => by
    unfold ParS.lineB
    split
    · rfl
    · split <;> rfl
  unfold ParS.step
  cases p.st <;> dsimp only
  · split
    · rfl
    · exact hL _
  · unfold ParS.digitB; repeat' split
    all_goals rfl
  · unfold ParS.numFB; repeat' split
    all_goals rfl
  · rfl
  · unfold ParS.contFB; repeat' split
    all_goals rfl
  · exact hL _
theorem _root_.Go.Proofs.Ytfdkcnbkoagmiaa.ParM.PM.own {w : World} {g : Nat} {p : PS} {va vc vo : Value} {Oa Oc Oo : Nat → Nat} (h : PM w g p va vc vo Oa Oc Oo) : PO g Oa Oc Oo g ≠ 0 := by
  unfold PO
  rw [if_pos rfl]
  omega
theorem tell {w w1 w3 : World} {g : Nat} {q : PS} {va vc vo : Value} {O Oa Oc Oo : Nat → Nat} (h1 : PM w1 g q va vc vo Oa Oc Oo) (hO : ∀ a, a < w.heap.size → PO g Oa Oc Oo a ≤ O a) (hu : Upd (fun a => O a ≠ 0) w w1) (hu3 : Upd (fun a => a = g) w1 w3) (hd : w3.heap[g]? = some (.cells (pc g (ParS.told q) va vc (.slice none 0 0)) 84 (0, 0))) : FQ w w3 O g (ParS.told q) vo q.out := by
  have ho := h1.one
  have hs := hu.size
  have hz : ∀ a, Oa a + Oc a + Oo a ≠ 0 → ¬ a = g := fun a ha e => by have := ho a; rw [if_pos e] at this; omega
  refine ⟨va, vc, .slice none 0 0, Oa, Oc, fun _ => 0, Oo, ⟨hd, RwR.fit.upd h1.ar hu3 (fun a h0 => hz a (by omega)), h1.cu.upd hu3 (fun a h0 => hz a (by omega)), LAt.nil _ _ _, fun a => by have := ho a; (try dsimp only); omega⟩, CmR.fit.upd h1.ou hu3 (fun a h0 => hz a (by omega)), fun a => by have := ho a; unfold PO; (try dsimp only); omega, fun a ha => by have := hO a ha; unfold PO at this ⊢; (try dsimp only); omega, hu.trans2 hu3 (fun a e => ?_)⟩
  subst e
  by_cases hl : a < w.heap.size
  · have := hO a hl
    unfold PO at this
    rw [if_pos rfl] at this
    exact .inl (by omega)
  · exact .inr (by omega)
theorem goneM {w1 w3 : World} {g : Nat} {r : PS} {E : Int} {va vc vo : Value} {Oa Oc Oo : Nat → Nat} (h1 : PM w1 g r va vc vo Oa Oc Oo) (hu3 : Upd (fun a => a = g) w1 w3) (hd : w3.heap[g]? = some (.cells (pc g (ParS.gone r E) (.slice none 0 0) (.slice none 0 0) vo) 84 (0, 0))) : PM w3 g (ParS.gone r E) (.slice none 0 0) (.slice none 0 0) vo (fun _ => 0) (fun _ => 0) Oo := by
  have ho := h1.one
  have hz : ∀ a, Oo a ≠ 0 → ¬ a = g := fun a ha e => by have := ho a; rw [if_pos e] at this; omega
  refine ⟨hd, LAt.nil _ _ _, ?_, CmR.fit.upd h1.ou hu3 (fun a h0 => hz a (by omega)), fun a => by have := ho a; (try dsimp only); omega⟩
  unfold CuR
  split
  · exact ⟨GV.nil _ _, fun _ => rfl⟩
  · exact fun _ => rfl
set_option maxHeartbeats 8000000 in
theorem feed.calls {w : World} {g : Nat} {p : PS} {va vc vo : Value} {Oa Oc Oo : Nat → Nat} (h : PM w g p va vc vo Oa Oc Oo) (hi : ParS.Inv p) (hcb : inB p.cur) (hop : p.out = []) (hh : 0 ≤ p.held) (A : Option Addr) (cc : Nat) (b : List Int) (hC : (Kd.int .u8).C w A b.length b) (hb : inB b) (hA : ∀ ad, A = some ad → PO g Oa Oc Oo ad.block = 0 ∧ ad.block < w.heap.size) (hbl : b.length ≤ 80000000) (hhb : p.held ≤ 1000000000000) :
    Calls Try.prog 13 #[ptr g, .slice A b.length cc] w fun e w' => ∃ vt, e = .returned (.tuple #[vt, .int .i64 (ParS.run p b).broken]) ∧ FQ w w' (PO g Oa Oc Oo) g (ParS.feed p b) vt (ParS.run p b).out := by
  have H := Aside0.mk h
  have hd0 := h.hd
  have HI := Aside0.mk (And.intro hi (And.intro hcb (And.intro hh hhb)))
  have HOP := Aside0.mk hop
  have dx0 := (blk_cell hd0 1).trans (show _ = some (.int .i64 p.broken : Value) from rfl)
  by_cases hz : p.broken = 0
  · have HB : Aside0 (∀ w', Upd (fun a => PO g Oa Oc Oo a ≠ 0) w w' → ∀ i, i < b.length → ∃ ad x, A = some ad ∧ w'.cell? (ad.add i) = some (.int .u8 x) ∧ b[i]? = some x ∧ 0 ≤ x ∧ x < 256) := ⟨fun w' hu i hi => by
      obtain ⟨ad, e, hc⟩ := LinW.byteAt hC hi
      obtain ⟨h1, h2⟩ := hA ad e
      have hx := hb b[i] (List.getElem_mem hi)
      have eb : (ad.add i).block = ad.block := by unfold Addr.add; split <;> rfl
      exact ⟨ad, b[i], e, (Upd.cell (a := ad.add i) hu (by rw [eb]; exact h2) (fun hn => hn (by rw [eb]; exact h1))).trans hc, List.getElem?_eq_getElem hi, hx⟩⟩
    have HZ := Aside0.mk hz
    have HINB := Aside0.mk hb
    clear h hi hcb hop hh hC hb hA hd0 hhb
    go_enter Try.func13, Try.ntmps13
    go_wp2_with fail
    clear dx0
    go_loopw [21] (fun i wr => ∃ k : Nat, i = .int .i64 k ∧ Aside0 (FR w wr (PO g Oa Oc Oo) g p b k)) (fun i _ => b.length - (intOf i).toNat)
    case atStart => exact ⟨0, rfl, ⟨⟨Nat.zero_le _, HZ.out, PQ.same H.out⟩⟩⟩
    case round =>
      obtain ⟨k, rfl, HR⟩ := hrel
      have hi1 := ParS.Inv.run (b.take k) HI.out.1
      have hin : inB b := HINB.out
      have hcu1 := run_in (b.take k) HI.out.2.1 (fun x hx => hin x (List.mem_of_mem_take hx))
      have hle1 := run_le (b.take k) HI.out.2.2.1
      have hok := HR.out.ok
      have hkl := HR.out.le
      rw [HOP.out, List.length_take, Nat.min_eq_left hkl, List.length_nil] at hle1
      have hq0 := HR.out.pq
      obtain ⟨q, hq⟩ : ∃ q, q = ParS.run p (b.take k) := ⟨_, rfl⟩
      rw [← hq] at hi1 hcu1 hle1 hok hq0
      obtain ⟨va1, vc1, vo1, Oa1, Oc1, Oo1, hpm, hO1, hu1⟩ := hq0
      have HQ := Aside0.mk hq
      have HP1 := Aside0.mk (And.intro hpm (And.intro hO1 hu1))
      have hd1 := hpm.hd
      have hhb2 := HI.out.2.2.2
      by_cases hlt : k < b.length
      · obtain ⟨ad, x, rfl, hx, hbx, hx0, hx1⟩ := HB.out wr hu1 k hlt
        have HX := Aside0.mk hbx
        have hlt' : (k : Int) < (b.length : Int) := by omega
        have hk0 : (0 : Int) ≤ (k : Int) := by omega
        have hw1 : wrap64 (q.held + 1) = q.held + 1 := w64s _ (by omega) (by omega)
        have HM : Aside0 (b.length - (k + 1) < b.length - k) := ⟨by omega⟩
        obtain ⟨f, hf⟩ : ∃ f, f = fnN q.st := ⟨_, rfl⟩
        have ex0 := (blk_cell hd1 2).trans (show _ = some (.int .i64 q.held : Value) from rfl)
        have ex1 := (blk_cell hd1 2).trans (show _ = some (.int .i64 q.held : Value) from rfl)
        have ef0 := blk_frozen hd1 2
        have eh0 := blk_set hd1 2 (.int .i64 (q.held + 1))
        have ex2 := (blk_cell eh0 0).trans (show _ = some (.func (.func (fnN q.st)) #[ptr g] #[] : Value) from rfl)
        have EZ := Aside0.mk eh0
        clear eh0
        have hp2 : PM (wr.setCell ⟨g, 2, none⟩ (.int .i64 (q.held + 1))) g { q with held := q.held + 1 } va1 vc1 vo1 Oa1 Oc1 Oo1 := hpm.stored (by ((repeat (refine up1 ?_ _ _)); exact Upd.refl _ _)) (EZ.out.trans (by rfl)) rfl rfl rfl rfl
        have hst := step.calls x hp2 (hi1.held hok (q.held + 1)) hx0 hx1 (by show q.out.length ≤ _; omega) hcu1
        rw [show ({ q with held := q.held + 1 } : PS).st = q.st from rfl, ← hf] at hst
        rw [← hf] at ex2
        have HST := Aside0.mk hst
        have HPM2 := Aside0.mk hp2
        have hent : ∀ (args : Array Value) (w : World), (callFunc f args).run Try.prog w = .ok (.enter f args) w := by rw [hf]; exact enters q.st
        have hU2 : Upd (fun a => PO g Oa Oc Oo a ≠ 0) w (wr.setCell ⟨g, 2, none⟩ (.int .i64 (q.held + 1))) := hu1.trans2 (S' := fun a => a = g) (by ((repeat (refine up1 ?_ _ _)); exact Upd.refl _ _)) (fun a e => .inl (by subst e; exact H.out.own))
        have HU2 := Aside0.mk hU2
        have hrt : ParS.run p (b.take (k + 1)) = ParS.step1 q x := by rw [run_take hbx, ← hq, ParS.runB, if_neg (Decidable.not_not.2 hok)]
        have hrb : (ParS.step { q with held := q.held + 1 } x).1.broken = 0 := by rw [step_broken]; exact hok
        obtain ⟨E, hE⟩ : ∃ E, E = (ParS.step { q with held := q.held + 1 } x).2 := ⟨_, rfl⟩
        obtain ⟨R, hR⟩ : ∃ R, R = (ParS.step { q with held := q.held + 1 } x).1 := ⟨_, rfl⟩
        rw [← hE, ← hR] at hst
        rw [← hR] at hrb
        by_cases hE0 : E = 0
        · have hrt2 : ParS.run p (b.take (k + 1)) = R := by rw [hrt, ParS.step1, ← hE, if_neg (Decidable.not_not.2 hE0), ← hR]
          rw [hE0] at hst
          have HST := Aside0.mk hst
          have HRT := Aside0.mk (And.intro hrt2 hrb)
          clear hpm hd1 hst hp2 hi1 hcu1 hle1 hok hkl hin hbx hu1 hO1 hf hq hhb2 hlt hE hE0 hR hrt hrt2 hrb hU2
          go_wp2_with (refine HST.out.mono ?_; rintro e w2 ⟨rfl, hq2⟩; have HQ2 := Aside0.mk hq2; clear hq2)
          refine ⟨⟨k + 1, by rw [Int.natCast_succ], ⟨⟨by have := HM.out; omega, by rw [HRT.out.1]; exact HRT.out.2, by rw [HRT.out.1]; exact PQ.trans HPM2.out HP1.out.2.1 HU2.out HQ2.out⟩⟩⟩, by have := HM.out; simp only [intOf]; omega⟩
        · have hbr : ParS.run p b = ParS.gone R E := by
            have e1 : ParS.runB q x = ParS.gone R E := by rw [ParS.runB, if_neg (Decidable.not_not.2 hok), ParS.step1, ← hE, if_pos hE0, ← hR]; rfl
            have e2 : b = b.take k ++ x :: b.drop (k + 1) := by rw [← LinW.drop_at hbx, List.take_append_drop]
            rw [e2, ParS.run_append, ← hq, ParS.run_cons, e1]
            exact ParS.run_broken hE0 _
          have HST := Aside0.mk hst
          have HBR := Aside0.mk hbr
          clear hpm hd1 hst hp2 hi1 hcu1 hle1 hok hkl hin hbx hu1 hO1 hf hq hhb2 hlt hE hR hrt hrb hU2 hbr
          go_upto_region 11 with (refine HST.out.mono ?_; rintro e w2 ⟨rfl, va2, vc2, vo3, Oa2, Oc2, Oo3, m1, m2, m3⟩; have M := Aside0.mk (And.intro m1 (And.intro m2 m3)); have hd2 := m1.hd; clear m1 m2 m3; have ex0 := (blk_cell hd2 1).trans (show _ = some (.int .i64 R.broken : Value) from rfl); have ef0 := blk_frozen hd2 1; have eh0 := blk_set hd2 1 (.int .i64 E); have ex1 := (blk_cell eh0 2).trans (show _ = some (.int .i64 R.held : Value) from rfl); have ef1 := blk_frozen eh0 2; have eh1 := blk_set eh0 2 (.int .i64 0); have ex2 := (blk_cell eh1 8).trans (show _ = some (va2 : Value) from rfl); have ef2 := blk_frozen eh1 8; have eh2 := blk_set eh1 8 (.slice none 0 0); have ex3 := (blk_cell eh2 9).trans (show _ = some (vc2 : Value) from rfl); have ef3 := blk_frozen eh2 9; have eh3 := blk_set eh2 9 (.slice none 0 0); have EZ := Aside0.mk eh3; clear eh0 eh1 eh2 eh3; clear hd2)
          have q1 := goneM (E := E) M.out.1 (by ((repeat (refine up1 ?_ _ _)); exact Upd.refl _ _)) (EZ.out.trans (by rfl))
          have q2 : ∀ a, a < w.heap.size → PO g (fun _ => 0) (fun _ => 0) Oo3 a ≤ PO g Oa Oc Oo a := fun a ha => by
            have h3 := M.out.2.1 a (by have := HU2.out.size; omega)
            have h4 := HP1.out.2.1 a ha
            unfold PO at h3 h4 ⊢
            (try dsimp only)
            omega
          have q3 := HU2.out.trans2 (S' := fun a => PO g Oa1 Oc1 Oo1 a ≠ 0 ∨ a = g) ((M.out.2.2.mono (fun a ha => .inl ha)).trans2 (S' := fun a => a = g) (c := (((w2.setCell ⟨g, 1, none⟩ (.int .i64 E)).setCell ⟨g, 2, none⟩ (.int .i64 0)).setCell ⟨g, 8, none⟩ (.slice none 0 0)).setCell ⟨g, 9, none⟩ (.slice none 0 0)) (by ((repeat (refine up1 ?_ _ _)); exact Upd.refl _ _)) (fun a ha => .inl (.inr ha))) (fun a ha => by
            rcases ha with ha | ha
            · by_cases hl : a < w.heap.size
              · have := HP1.out.2.1 a hl; exact .inl (by omega)
              · exact .inr (by omega)
            · subst ha; exact .inl H.out.own)
          have M3 := Aside0.mk (And.intro q1 (And.intro q2 q3))
          clear q1 q2 q3 M EZ ex0 ex1 ex2 ex3 ef0 ef1 ef2 ef3
          generalize hw3 : World.setCell (World.setCell (World.setCell (World.setCell w2 _ _) _ _) _ _) _ _ = w3 at M3 ⊢
          clear hw3
          obtain ⟨r, hr⟩ : ∃ r, r = ParS.gone R E := ⟨_, rfl⟩
          have HR3 : Aside0 (r = ParS.run p b) := ⟨by rw [hr, HBR.out]⟩
          rw [← hr] at M3
          clear hr HST HPM2 HU2 HBR hent
          have hd3 := M3.out.1.hd
          have yx0 := (blk_cell hd3 11).trans (show _ = some (vo3 : Value) from rfl)
          have yx1 := (blk_cell hd3 11).trans (show _ = some (vo3 : Value) from rfl)
          have yf0 := blk_frozen hd3 11
          have yh0 := blk_set hd3 11 (.slice none 0 0)
          have yx2 := (blk_cell yh0 1).trans (show _ = some (.int .i64 r.broken : Value) from rfl)
          have YZ := Aside0.mk yh0
          clear yh0
          have HK := Aside0.mk ((blk_cell YZ.out 1).trans (show _ = some (.int .i64 r.broken : Value) from rfl))
          clear hd3
          go_upto_region 13 with (fail)
          clear yx0 yx1 yf0
          generalize hw4 : World.setCell w3 _ _ = w4 at HK YZ ⊢
          go_region_held3 (fun w' => w'.cell? ⟨g, 1, none⟩ = some (.int .i64 r.broken)) (first | exact HK.out | go_keep) (fail)
          go_wp2_with fail
          go_ret2
          have q2 := tell (w := w) (O := PO g Oa Oc Oo) (w3 := w4.drew) M3.out.1 M3.out.2.1 M3.out.2.2 (Upd.drew (by rw [← hw4]; ((repeat (refine up1 ?_ _ _)); exact Upd.refl _ _))) (YZ.out.trans (by rfl))
          unfold ParS.feed
          rw [← HR3.out]
          exact ⟨_, rfl, q2⟩
      · have hke : k = b.length := by omega
        have M3 := Aside0.mk (And.intro hpm (And.intro hO1 hu1))
        obtain ⟨r, hr⟩ : ∃ r, r = q := ⟨_, rfl⟩
        have HR3 : Aside0 (r = ParS.run p b) := ⟨by rw [hr, hq, hke, List.take_length]⟩
        rw [← hr] at M3
        have hlt' : ¬ (k : Int) < (b.length : Int) := by omega
        obtain ⟨w3, hw3⟩ : ∃ w3, w3 = wr := ⟨_, rfl⟩
        rw [← hw3] at M3 ⊢
        clear hpm hd1 hi1 hcu1 hle1 hok hkl hin hu1 hO1 hq hhb2 hlt hr hke hw3 HP1 HQ
        go_upto_region 11 with (fail)
        have hd3 := M3.out.1.hd
        have yx0 := (blk_cell hd3 11).trans (show _ = some (vo1 : Value) from rfl)
        have yx1 := (blk_cell hd3 11).trans (show _ = some (vo1 : Value) from rfl)
        have yf0 := blk_frozen hd3 11
        have yh0 := blk_set hd3 11 (.slice none 0 0)
        have yx2 := (blk_cell yh0 1).trans (show _ = some (.int .i64 r.broken : Value) from rfl)
        have YZ := Aside0.mk yh0
        clear yh0
        have HK := Aside0.mk ((blk_cell YZ.out 1).trans (show _ = some (.int .i64 r.broken : Value) from rfl))
        clear hd3
        go_upto_region 13 with (fail)
        clear yx0 yx1 yf0
        generalize hw4 : World.setCell w3 _ _ = w4 at HK YZ ⊢
        go_region_held3 (fun w' => w'.cell? ⟨g, 1, none⟩ = some (.int .i64 r.broken)) (first | exact HK.out | go_keep) (fail)
        go_wp2_with fail
        go_ret2
        have q2 := tell (w := w) (O := PO g Oa Oc Oo) (w3 := w4.drew) M3.out.1 M3.out.2.1 M3.out.2.2 (Upd.drew (by rw [← hw4]; ((repeat (refine up1 ?_ _ _)); exact Upd.refl _ _))) (YZ.out.trans (by rfl))
        unfold ParS.feed
        rw [← HR3.out]
        exact ⟨_, rfl, q2⟩
  · have hbr := ParS.feed_broken_out hz hop b
    have HBR := Aside0.mk hbr
    have HK := Aside0.mk dx0
    clear h hi hcb hop hh hC hb hA hd0 hhb hbr
    go_enter Try.func13, Try.ntmps13
    go_wp2_with fail
    go_region_held3 (fun w' => w'.cell? ⟨g, 1, none⟩ = some (.int .i64 p.broken)) (first | exact HK.out | go_keep) (fail)
    go_wp2_with fail
    go_ret2
    rw [HBR.out.1, HBR.out.2, HOP.out]
    exact ⟨_, rfl, _, _, _, _, _, _, _, H.out.upd (S := fun _ => False) (Upd.refl _ _).drew (fun _ _ hf => hf), LAt.nil _ _ _, fun a => by have := H.out.one a; unfold PO; (try dsimp only); omega, fun a _ => by (try dsimp only); omega, (Upd.refl _ _).drew⟩
end Go.Proofs.Ytfdkcnbkoagmiaa.ParF
end

section
namespace Go.Proofs.Ytfdkcnbkoagmiaa.FedW
open Go Go.RowKit Go.Proofs.YtfdkcnbkoagmiaaW.PrintWords Go.Proofs.YtfdkcnbkoagmiaaW.PrintLast Go.Proofs.YtfdkcnbkoagmiaaW.PrintMore Go.Proofs.Ytfdkcnbkoagmiaa.RowU Go.Proofs.Ytfdkcnbkoagmiaa.ArS Go.Proofs.Ytfdkcnbkoagmiaa.ArM Go.Proofs.Ytfdkcnbkoagmiaa.GenM Go.Proofs.Ytfdkcnbkoagmiaa.GenN Go.Proofs.Ytfdkcnbkoagmiaa.GenL Go.Proofs.Ytfdkcnbkoagmiaa.OwnL Go.Proofs.Ytfdkcnbkoagmiaa.ParM Go.Proofs.Ytfdkcnbkoagmiaa.ParD Go.Proofs.Ytfdkcnbkoagmiaa.ParF Go.Proofs.Ytfdkcnbkoagmiaa.ChkS
open Go.Proofs.Ytfdkcnbkoagmiaa.ParS (St PS)
open Go.Proofs.Ytfdkcnbkoagmiaa.LinS (inB)
set_option linter.unusedVariables false
set_option maxRecDepth 100000
theorem wpList_vals {ops : Array Oper} {rest : List Oper} {o : Oper} {a : Act} {Q : Exit → Act → World → Prop} (w : World) (hg : o.guard = none) (s x : Operand) (t T : TypeId)
    (hop : o.op = Op.call { callee := Callee.builtin Builtin.append, args := #[s, x], argTypes := #[t, t] })
    (ht : Try.prog.underlying t = some (.slice T)) (z : Value) (by_ : Nat) (hi : (Try.prog.info? T).map (fun i => (i.zero, i.size, i.bytes)) = some (some z, 1, by_)) (hz : z.cells.size = 1) (hby : by_ ≤ 100)
    (v : Value) (l : List Value) (hs : a.eval s = v) (hv : GV T w v l) (xv : Value) (ys : List Value) (hx : a.eval x = xv) (hxv : GV T w xv ys) (h1 : ∀ u ∈ ys, u.oneCell' = true) (hb : l.length + ys.length ≤ 1000000000)
    (hK : ∀ v' w', GrewL T w w' v v' l ys → wpList Try.prog ops Q rest (a.put o.dst v') w') :
    wpList Try.prog ops Q (o :: rest) a w := by
  refine wpList_plain hg fun K hK' => ?_
  have hget := hxv.get
  rcases hxv with ⟨rfl, rfl⟩ | ⟨g, cap, rfl, hgen⟩
  · exact oper_gen0 w s x t T hop ht z by_ hi v l hs hv none 0 hx (fun v' w' r => hK' _ _ (hK v' w' r))
  · by_cases h0 : 0 < ys.length
    · refine oper_genl w s x t T hop ht z by_ hi hz hby v l hs hv ⟨g, 0, none⟩ cap ys hx (fun j u hu => ?_) h1 h0 hb (fun v' w' r => hK' _ _ (hK v' w' r))
      rw [Addr.add_lit, Nat.zero_add]
      exact hgen.get j u hu
    · obtain rfl : ys = [] := List.length_eq_zero_iff.1 (by omega)
      exact oper_gen0 w s x t T hop ht z by_ hi v l hs hv (some ⟨g, 0, none⟩) cap hx (fun v' w' r => hK' _ _ (hK v' w' r))
theorem El.append {α : Type} {R : Rel α} : ∀ {w : World} {vs us : List Value} {xs ys : List α} {O Ox : Nat → Nat}, El R w vs xs O → El R w us ys Ox → El R w (vs ++ us) (xs ++ ys) (fun a => O a + Ox a) := by
  intro w vs
  induction vs with
  | nil => intro us xs ys O Ox h hx; cases xs with
    | nil =>
      have e : (fun a => O a + Ox a) = Ox := funext fun a => by rw [h a, Nat.zero_add]
      rw [e]
      exact hx
    | cons x xs => exact h.elim
  | cons v vs ih => intro us xs ys O Ox h hx; cases xs with
    | nil => exact h.elim
    | cons x xs =>
      obtain ⟨O1, O2, h1, h2, h3⟩ := h
      exact ⟨O1, _, h1, ih h2 hx, fun a => by have := h3 a; dsimp only; omega⟩
theorem LAt.growL {α : Type} {R : Rel α} {T : TypeId} (hF : Fit R) {w w' : World} {v v' : Value} {vs us : List Value} {xs ys : List α} {O1 O2 : Nat → Nat} (h1 : El R w vs xs O1) (h2 : El R w us ys O2) (hd : ∀ a, oc v a + O1 a + O2 a ≤ 1) (hg : GrewL T w w' v v' vs us) :
    ∃ O', LAt T R w' v' (xs ++ ys) O' ∧ (∀ a, O' a ≤ 1) ∧ ∀ a, a < w.heap.size → O' a ≤ oc v a + O1 a + O2 a := by
  obtain ⟨g1, g2, g3⟩ := hg
  have hnS : ∀ a, O1 a ≠ 0 ∨ O2 a ≠ 0 → ¬ v.ownBlock = some a := fun a ha hk => by
    have := hd a
    unfold oc at this
    rw [if_pos hk] at this
    omega
  refine ⟨fun a => oc v' a + (O1 a + O2 a), ⟨vs ++ us, _, g1, El.append (h1.upd hF g3 (fun a ha => hnS a (.inl ha))) (h2.upd hF g3 (fun a ha => hnS a (.inr ha))), fun a => rfl⟩, fun a => ?_, fun a ha => ?_⟩
  · have hda := hd a
    by_cases hz : oc v' a = 0
    · dsimp only; omega
    · rcases g2 a (oc_ne hz) with hb | hb
      · have h1 : oc v a = 1 := by unfold oc; rw [if_pos hb]
        have := oc_le v' a
        dsimp only
        omega
      · have e1 : O1 a = 0 := Decidable.not_not.1 fun hne => by have := h1.lt hF hne; omega
        have e2 : O2 a = 0 := Decidable.not_not.1 fun hne => by have := h2.lt hF hne; omega
        have := oc_le v' a
        dsimp only
        omega
  · by_cases hz : oc v' a = 0
    · dsimp only; omega
    · rcases g2 a (oc_ne hz) with hb | hb
      · have h1 : oc v a = 1 := by unfold oc; rw [if_pos hb]
        have := oc_le v' a
        dsimp only
        omega
      · omega
theorem num.calls (e : Int) (w : World) : Calls Try.prog 10 #[.int .i64 e] w fun en w' => en = .returned (.int .i64 e) ∧ w' = w := by
  go_enter Try.func10, Try.ntmps10
  go_wp2_with fail
  go_ret
  exact ⟨rfl, rfl⟩
theorem within.calls (k : Int) (w : World) : Calls Try.prog 7 #[.int .i64 k, .int .i64 64] w fun en w' => en = .returned (.int .i64 (win k)) ∧ w' = w := by
  have h1 : -(64 : Int) < Int.tmod k 64 := Int.lt_tmod_of_pos k (by decide)
  have h2 : Int.tmod k 64 < 64 := Int.tmod_lt_of_pos _ (by decide)
  have hw : wrap64 (Int.tmod k 64 + 64) = Int.tmod k 64 + 64 := by unfold wrap64; omega
  have h3 : 0 ≤ Int.tmod (Int.tmod k 64 + 64) 64 := Int.tmod_nonneg _ (by omega)
  have h4 : Int.tmod (Int.tmod k 64 + 64) 64 < 64 := Int.tmod_lt_of_pos _ (by decide)
  have hw2 : wrap64 (Int.tmod (Int.tmod k 64 + 64) 64) = Int.tmod (Int.tmod k 64 + 64) 64 := by unfold wrap64; omega
  unfold win
  clear h1 h2 h3 h4
  go_enter Try.func7, Try.ntmps7
  go_wp2_with fail
  go_ret
  first | exact ⟨rfl, rfl⟩ | exact ⟨by simp [hw, hw2], rfl⟩
theorem C_take {w : World} {A : Option Addr} {l : List Int} (h : (Kd.int .u8).C w A l.length l) {n : Nat} (hn : n ≤ l.length) : (Kd.int .u8).C w A (l.take n).length (l.take n) := by
  obtain ⟨h1, h2, h3⟩ := h
  refine ⟨rfl, by rw [List.length_take]; omega, fun h0 => ?_⟩
  rw [List.length_take] at h0
  obtain ⟨ad, e, hc⟩ := h3 (by omega)
  refine ⟨ad, e, fun j p hp => hc j p ?_⟩
  rw [List.getElem?_take] at hp
  split at hp
  · exact hp
  · cases hp
theorem C_drop {w : World} {g o : Nat} {l : List Int} (h : (Kd.int .u8).C w (some ⟨g, o, none⟩) l.length l) {n : Nat} (hn : n ≤ l.length) : (Kd.int .u8).C w (some ⟨g, o + n, none⟩) (l.drop n).length (l.drop n) := by
  obtain ⟨h1, h2, h3⟩ := h
  refine ⟨rfl, by rw [List.length_drop]; omega, fun h0 => ?_⟩
  rw [List.length_drop] at h0
  obtain ⟨ad, e, hc⟩ := h3 (by omega)
  obtain rfl := Option.some.inj e
  refine ⟨_, rfl, fun j p hp => ?_⟩
  rw [List.getElem?_drop] at hp
  obtain ⟨cs, c1, c2, c3⟩ := hc (n + j) p hp
  refine ⟨cs, c1, c2, fun i u hu => ?_⟩
  have := c3 i u hu
  rw [Addr.add_lit] at this ⊢
  rw [show (Kd.int .u8).sz = 1 from rfl] at this ⊢
  rw [show o + n + (j * 1 + i) = o + ((n + j) * 1 + i) by omega]
  exact this
theorem oc_one {v : Value} {k : Nat} (hk : v.ownBlock = some k) : oc v k = 1 := by unfold oc; rw [if_pos hk]
structure FM (W wr : World) (gp gd : Nat) (q : PS) (va vc vx : Value) (Oa Oc Oo : Nat → Nat) (vo : Value) (ol : List (List (List Int))) (Ot : Nat → Nat) (ve : Value) (el : List Int) (o : Nat) (r : List Int) : Prop where
  pm : PM wr gp q va vc vx Oa Oc Oo
  ro : CmR wr vo ol Ot
  re : GV 3 wr ve (el.map (Value.int .i64))
  cd : (Kd.int .u8).C wr (some ⟨gd, o, none⟩) r.length r
  one : ∀ a, PO gp Oa Oc Oo a + Ot a + oc ve a + (if a = gd then 1 else 0) ≤ 1
  new : ∀ a, PO gp Oa Oc Oo a + Ot a + oc ve a ≠ 0 → W.heap.size ≤ a
  gd0 : W.heap.size ≤ gd ∧ gd < wr.heap.size
  bel : Below W.heap.size W wr
variable {W wr : World} {gp gd : Nat} {q : PS} {va vc vx : Value} {Oa Oc Oo : Nat → Nat} {vo : Value} {ol : List (List (List Int))} {Ot : Nat → Nat} {ve : Value} {el : List Int} {o : Nat} {r : List Int}
theorem C_upd {w w' : World} {A : Option Addr} {l : List Int} {S : Nat → Prop} (h : (Kd.int .u8).C w A l.length l) (hu : Upd S w w') (hA : ∀ ad, A = some ad → ¬ S ad.block ∧ ad.block < w.heap.size) : (Kd.int .u8).C w' A l.length l := by
  obtain ⟨h1, h2, h3⟩ := h
  refine ⟨h1, h2, fun h0 => ?_⟩
  obtain ⟨ad, e, hc⟩ := h3 h0
  obtain ⟨a1, a2⟩ := hA ad e
  refine ⟨ad, e, fun j p hp => ?_⟩
  obtain ⟨cs, c1, c2, c3⟩ := hc j p hp
  refine ⟨cs, c1, c2, fun i u hu' => ?_⟩
  have eb : (ad.add (j * (Kd.int .u8).sz + i)).block = ad.block := by unfold Addr.add; split <;> rfl
  exact (ParF.Upd.cell (a := ad.add (j * (Kd.int .u8).sz + i)) hu (by rw [eb]; exact a2) (by rw [eb]; exact a1)).trans (c3 i u hu')
theorem FM.fed (h : FM W wr gp gd q va vc vx Oa Oc Oo vo ol Ot ve el o r) {w2 : World} {q' : PS} {vt : Value} {ot : List (List (List Int))} (hf : FQ wr w2 (PO gp Oa Oc Oo) gp q' vt ot) :
    ∃ va' vc' vx' Oa' Oc' Oo' Ott, FM W w2 gp gd q' va' vc' vx' Oa' Oc' Oo' vo ol Ot ve el o r ∧ CmR w2 vt ot Ott ∧ (∀ a, PO gp Oa' Oc' Oo' a + Ot a + oc ve a + (if a = gd then 1 else 0) + Ott a ≤ 1) ∧ ∀ a, Ott a ≠ 0 → W.heap.size ≤ a := by
  obtain ⟨va', vc', vx', Oa', Oc', Oo', Ott, f1, f2, f3, f4, f5⟩ := hf
  have ho := h.one
  have hs := f5.size
  have hx : ∀ a, Ot a + oc ve a + (if a = gd then 1 else 0) ≠ 0 → ¬ PO gp Oa Oc Oo a ≠ 0 := fun a ha hn => by have := ho a; omega
  have hlt : ∀ a, Ot a + oc ve a + (if a = gd then 1 else 0) ≠ 0 → a < wr.heap.size := fun a ha => by
    by_cases e1 : Ot a = 0
    · by_cases e2 : oc ve a = 0
      · by_cases e3 : a = gd
        · subst e3; exact h.gd0.2
        · rw [if_neg e3] at ha; omega
      · exact h.re.lt a (oc_ne e2)
    · exact CmR.fit.lt h.ro e1
  have hone : ∀ a, PO gp Oa' Oc' Oo' a + Ot a + oc ve a + (if a = gd then 1 else 0) + Ott a ≤ 1 := fun a => by
    have h3 := f3 a
    by_cases hl : a < wr.heap.size
    · have h4 := f4 a hl; have := ho a; omega
    · have : Ot a + oc ve a + (if a = gd then 1 else 0) = 0 := Decidable.not_not.1 fun hne => hl (hlt a hne)
      omega
  refine ⟨va', vc', vx', Oa', Oc', Oo', Ott, ⟨f1, CmR.fit.upd h.ro f5 (fun a ha => hx a (by omega)), h.re.upd f5 (fun k hk => hx k (by rw [oc_one hk]; omega)), C_upd h.cd f5 (fun ad e => by obtain rfl := Option.some.inj e; exact ⟨hx gd (by rw [if_pos rfl]; omega), h.gd0.2⟩), fun a => by have := hone a; omega, fun a ha => ?_, ⟨h.gd0.1, by have := h.gd0.2; omega⟩, Upd.to_below h.bel f5 h.bel.size (fun a ha => h.new a (by omega))⟩, f2, hone, fun a ha => ?_⟩
  · by_cases hl : a < wr.heap.size
    · have := f4 a hl; exact h.new a (by omega)
    · have := h.bel.size; omega
  · by_cases hl : a < wr.heap.size
    · have := f4 a hl; exact h.new a (by omega)
    · have := h.bel.size; omega
theorem FM.upd (h : FM W wr gp gd q va vc vx Oa Oc Oo vo ol Ot ve el o r) {w2 : World} (hb : Below wr.heap.size wr w2) : FM W w2 gp gd q va vc vx Oa Oc Oo vo ol Ot ve el o r := by
  have hu := Upd.of_below (S := fun _ => False) hb
  exact ⟨h.pm.upd hu (fun _ _ hf => hf), CmR.fit.upd h.ro hu (fun _ _ hf => hf), h.re.upd hu (fun _ _ hf => hf), C_upd h.cd hu (fun ad e => by obtain rfl := Option.some.inj e; exact ⟨fun hf => hf, h.gd0.2⟩), h.one, h.new, ⟨h.gd0.1, by have := h.gd0.2; have := hb.size; omega⟩, below_next h.bel hb⟩
theorem FM.app (h : FM W wr gp gd q va vc vx Oa Oc Oo vo ol Ot ve el o r) {vs us : List Value} {O1 O2 Ott : Nat → Nat} {vt v' : Value} {ot : List (List (List Int))} {w3 : World} (he : El RwR wr vs ol O1) (hO1 : ∀ a, Ot a = oc vo a + O1 a) (he2 : El RwR wr us ot O2) (hO2 : ∀ a, Ott a = oc vt a + O2 a)
    (hone : ∀ a, PO gp Oa Oc Oo a + Ot a + oc ve a + (if a = gd then 1 else 0) + Ott a ≤ 1) (hnew : ∀ a, Ott a ≠ 0 → W.heap.size ≤ a) (hg : GrewL 22 wr w3 vo v' vs us) : ∃ Ot', FM W w3 gp gd q va vc vx Oa Oc Oo v' (ol ++ ot) Ot' ve el o r := by
  obtain ⟨Ot', k1, k2, k3⟩ := LAt.growL RwR.fit he he2 (fun a => by have := hone a; rw [hO1, hO2] at this; omega) hg
  have k3' : ∀ a, a < wr.heap.size → Ot' a ≤ Ot a + Ott a := fun a ha => by have := k3 a ha; rw [hO1, hO2]; omega
  have hu := hg.2.2
  have hno : ∀ a, PO gp Oa Oc Oo a + oc ve a + (if a = gd then 1 else 0) ≠ 0 → ¬ vo.ownBlock = some a := fun a ha e => by
    have := hone a
    rw [hO1] at this
    unfold oc at this
    rw [if_pos e] at this
    unfold oc at ha
    omega
  have hlt : ∀ a, PO gp Oa Oc Oo a + oc ve a + (if a = gd then 1 else 0) ≠ 0 → a < wr.heap.size := fun a ha => by
    by_cases e1 : PO gp Oa Oc Oo a = 0
    · by_cases e2 : oc ve a = 0
      · by_cases e3 : a = gd
        · subst e3; exact h.gd0.2
        · rw [if_neg e3] at ha; omega
      · exact h.re.lt a (oc_ne e2)
    · exact h.pm.lt e1
  refine ⟨Ot', h.pm.upd hu (fun a ha => hno a (by omega)), k1, h.re.upd hu (fun k hk => hno k (by rw [oc_one hk]; omega)), C_upd h.cd hu (fun ad e => by obtain rfl := Option.some.inj e; exact ⟨hno gd (by rw [if_pos rfl]; omega), h.gd0.2⟩), fun a => ?_, fun a ha => ?_, ⟨h.gd0.1, by have := h.gd0.2; have := hu.size; omega⟩, Upd.to_below h.bel hu h.bel.size (fun a ha => h.new a (by rw [hO1]; unfold oc; rw [if_pos ha]; omega))⟩
  · by_cases hl : a < wr.heap.size
    · have := k3' a hl; have := hone a; omega
    · have : PO gp Oa Oc Oo a + oc ve a + (if a = gd then 1 else 0) = 0 := Decidable.not_not.1 fun hne => hl (hlt a hne)
      have := k2 a
      omega
  · by_cases hl : a < wr.heap.size
    · have := k3' a hl
      by_cases e : Ott a = 0
      · exact h.new a (by omega)
      · exact hnew a e
    · have := h.bel.size; omega
theorem FM.err (h : FM W wr gp gd q va vc vx Oa Oc Oo vo ol Ot ve el o r) {w3 w4 : World} {v' : Value} {e : Int} (hb : Below wr.heap.size wr w3) (hg : Grew 3 w3 w4 ve v' (el.map (Value.int .i64)) (.int .i64 e)) : FM W w4 gp gd q va vc vx Oa Oc Oo vo ol Ot v' (el ++ [e]) o r := by
  have h3 := h.upd hb
  have hu := hg.upd
  have ho := h.one
  have hno : ∀ a, PO gp Oa Oc Oo a + Ot a + (if a = gd then 1 else 0) ≠ 0 → ¬ ve.ownBlock = some a := fun a ha e => by
    have := ho a
    unfold oc at this
    rw [if_pos e] at this
    omega
  have hlt : ∀ a, PO gp Oa Oc Oo a + Ot a + (if a = gd then 1 else 0) ≠ 0 → a < w3.heap.size := fun a ha => by
    by_cases e1 : PO gp Oa Oc Oo a = 0
    · by_cases e2 : Ot a = 0
      · by_cases e3 : a = gd
        · subst e3; exact h3.gd0.2
        · rw [if_neg e3] at ha; omega
      · exact CmR.fit.lt h3.ro e2
    · exact h3.pm.lt e1
  refine ⟨h3.pm.upd hu (fun a ha => hno a (by omega)), CmR.fit.upd h3.ro hu (fun a ha => hno a (by omega)), by have := hg.gv; rw [List.map_append]; exact this, C_upd h3.cd hu (fun ad e => by obtain rfl := Option.some.inj e; exact ⟨hno gd (by rw [if_pos rfl]; omega), h3.gd0.2⟩), fun a => ?_, fun a ha => ?_, ⟨h.gd0.1, by have := h3.gd0.2; have := hu.size; omega⟩, Upd.to_below h3.bel hu h3.bel.size (fun a ha => h.new a (by unfold oc; rw [if_pos ha]; omega))⟩
  · by_cases hz : oc v' a = 0
    · have := ho a; omega
    · have hv1 := oc_le v' a
      rcases hg.block a (oc_ne hz) with hb' | hb'
      · have : oc ve a = 1 := by unfold oc; rw [if_pos hb']
        have := ho a
        omega
      · have : PO gp Oa Oc Oo a + Ot a + (if a = gd then 1 else 0) = 0 := Decidable.not_not.1 fun hne => by have := hlt a hne; omega
        omega
  · by_cases hz : oc v' a = 0
    · exact h.new a (by omega)
    · rcases hg.block a (oc_ne hz) with hb' | hb'
      · exact h.new a (by unfold oc; rw [if_pos hb']; omega)
      · have := h3.bel.size; omega
theorem FM.cut (h : FM W wr gp gd q va vc vx Oa Oc Oo vo ol Ot ve el o r) {n : Nat} (hn : n ≤ r.length) : FM W wr gp gd q va vc vx Oa Oc Oo vo ol Ot ve el (o + n) (r.drop n) :=
  ⟨h.pm, h.ro, h.re, C_drop h.cd hn, h.one, h.new, h.gd0, h.bel⟩
end Go.Proofs.Ytfdkcnbkoagmiaa.FedW
end

section
namespace Go.Proofs.Ytfdkcnbkoagmiaa.Open
open Go Go.RowKit Go.ChangeShapes Go.Proofs.YtfdkcnbkoagmiaaW.PrintWords
structure OpensAt {α : Type} (F : Nat) (P : Program) (t : TypeId) (kd : Kd α) (good : α → Prop) : Prop where
  sz : kd.sz = P.cellsOf t
  op : ∀ {H : Type} {enc : TypeId × Value → H} {W : World} {base : Nat} {spare : Nat → Bool} {held : Bool} {fuel : Nat} {cs : List Value} {x : DataW H × List MemPlace},
    fuel ≤ F → DataW.trod enc P W base spare held fuel t cs = some x → (∀ m ∈ x.1.weights P t, m ≤ reachBytes) → ∃ y : α, kd.K W y cs ∧ good y
def Opens {α : Type} (P : Program) (t : TypeId) (kd : Kd α) (good : α → Prop) : Prop := ∀ F, OpensAt F P t kd good
variable {P : Program} {t e : TypeId} {F : Nat}
theorem at_int {k : IntKind} (hu : P.underlying t = some (.int k)) (hc : P.cellsOf t = 1) : OpensAt F P t (Kd.int k) (fun x => (Lit.int k x).wf = true) where
  sz := hc.symm
  op := fun _ h _ => by
    obtain ⟨n, rfl, _, hw⟩ := DataW.trod_int hu h
    exact ⟨n, rfl, hw⟩
theorem at_bool (hu : P.underlying t = some .bool) (hc : P.cellsOf t = 1) : OpensAt F P t Kd.bool (fun _ => True) where
  sz := hc.symm
  op := fun _ h _ => by
    obtain ⟨n, rfl, _⟩ := DataW.trod_bool hu h
    exact ⟨n, rfl, trivial⟩
theorem at_string (hu : P.underlying t = some .string) (hc : P.cellsOf t = 1) : OpensAt F P t Kd.string (fun s => s.size ≤ 140737488351232) where
  sz := hc.symm
  op := fun _ h hw => by
    obtain ⟨s, rfl, hx, _⟩ := DataW.trod_string hu h
    refine ⟨s, rfl, ?_⟩
    have := hw s.data.toList.length (by rw [hx]; simp [DataW.weights])
    simpa [reachBytes] using this
theorem choose_list {β : Type} (n : Nat) (p : Nat → β → Prop) (h : ∀ i, i < n → ∃ y, p i y) : ∃ ys : List β, ys.length = n ∧ ∀ i y, ys[i]? = some y → p i y := by
  induction n with
  | zero => exact ⟨[], rfl, fun i y hy => by simp at hy⟩
  | succ n ih =>
    obtain ⟨ys, hl, hp⟩ := ih (fun i hi => h i (by omega))
    obtain ⟨y, hy⟩ := h n (by omega)
    refine ⟨ys ++ [y], by simp [hl], fun i z hz => ?_⟩
    rcases Nat.lt_or_ge i ys.length with hi | hi
    · rw [List.getElem?_append_left hi] at hz
      exact hp i z hz
    · rw [List.getElem?_append_right hi] at hz
      have : i - ys.length = 0 := by
        rcases Nat.eq_zero_or_pos (i - ys.length) with h0 | h0
        · exact h0
        · rw [List.getElem?_eq_none (by simp; omega)] at hz
          cases hz
      rw [this] at hz
      simp at hz
      subst hz
      have : i = n := by omega
      subst this
      exact hy
theorem weightsAll_mem {H : Type} {e : TypeId} : ∀ {l : List (DataW H)} {d : DataW H}, d ∈ l → ∀ m ∈ d.weights P e, m ∈ DataW.weightsAll P e l
  | [], _, h, _, _ => by simp at h
  | a :: r, d, h, m, hm => by
    simp only [DataW.weightsAll]
    rcases List.mem_cons.1 h with rfl | h
    · exact List.mem_append_left _ hm
    · exact List.mem_append_right _ (weightsAll_mem h m hm)
def GoodL {α : Type} (B : Nat) (g : α → Prop) (ys : List α) : Prop := ys.length * B ≤ 140737488351232 ∧ ∀ y ∈ ys, g y
theorem at_slice {α : Type} {kd : Kd α} {g : α → Prop} {B : Nat} (hu : P.underlying t = some (.slice e)) (hc : P.cellsOf t = 1) (hB : P.bytesOf e = B) (he : OpensAt F P e kd g) :
    OpensAt (F + 1) P t (Kd.slice e kd) (GoodL B g) where
  sz := hc.symm
  op := by
    intro H enc W base spare held fuel cs x hf h hw
    rcases DataW.trod_slice hu h with ⟨rfl, rfl⟩ | ⟨a, len, cap, elems, rest, n, rfl, rfl, rfl, hb, hl, hm, hlen, hel, _⟩
    · exact ⟨[], ⟨none, 0, rfl, Nat.le_refl _, Kd.C_nil kd W⟩, by simp [GoodL]⟩
    · have hwt : ∀ m ∈ (elems.length + rest.length) * P.bytesOf e :: (DataW.weightsAll P e (elems.map (·.1)) ++ DataW.weightsAll P e (rest.map (·.1))), m ≤ reachBytes := by
        intro m hm'
        refine hw m ?_
        show m ∈ DataW.weights P t (DataW.slice (elems.map (·.1)) (rest.map (·.1)))
        simp only [DataW.weights, hu, List.length_map]
        exact hm'
      have each : ∀ i, i < len → ∃ y, g y ∧ ∃ c, c.length = kd.sz ∧ kd.K W y c ∧ ∀ j u, c[j]? = some u → W.cell? (a.add (i * kd.sz + j)) = some u := by
        intro i hi
        have h1 := hel i hi
        obtain ⟨x1, hx1⟩ : ∃ x1, elems[i]? = some x1 := ⟨elems[i]'(by omega), List.getElem?_eq_getElem (by omega)⟩
        rw [hx1, Option.bind_eq_some_iff] at h1
        obtain ⟨c, hcs, htr⟩ := h1
        obtain ⟨y, hy, hg⟩ := he.op (by omega) htr (fun m hm' => hwt m (List.mem_cons_of_mem _ (List.mem_append_left _
          (weightsAll_mem (List.mem_map.2 ⟨x1, List.mem_of_getElem? hx1, rfl⟩) m hm'))))
        refine ⟨y, hg, c, kd.K_len hy, hy, fun j u hj => ?_⟩
        unfold World.cells? at hcs
        split at hcs
        · have hjl : j < c.length := (List.getElem?_eq_some_iff.1 hj).1
          have hcl := kd.K_len hy
          have := mapM_some_get hcs j j (List.getElem?_range (by rw [← he.sz]; omega))
          rw [hj, Addr.add_add, ← he.sz] at this
          exact this
        · cases hcs
      obtain ⟨ys, hyl, hys⟩ := choose_list len _ each
      refine ⟨ys, ⟨some a, cap, by rw [hyl], by omega, ?_⟩, ?_, ?_⟩
      · refine ⟨rfl, by simp only [maxLen] at hm; omega, fun _ => ⟨a, rfl, fun j p hp => ?_⟩⟩
        obtain ⟨_, c, h1, h2, h3⟩ := hys j p hp
        exact ⟨c, h1, h2, h3⟩
      · have := hwt _ (List.mem_cons_self ..)
        rw [hB] at this
        rw [hyl, ← hlen]
        have h2 : elems.length * B ≤ (elems.length + rest.length) * B := Nat.mul_le_mul_right _ (by omega)
        simp only [reachBytes] at this
        omega
      · intro y hy
        obtain ⟨i, hi⟩ := List.getElem?_of_mem hy
        exact (hys i y hi).1
def FieldsAt {α : Type} (F : Nat) (P : Program) (fs : List Field) (o : Nat) (kd : Kd α) (good : α → Prop) : Prop :=
  ∀ {H : Type} {enc : TypeId × Value → H} {W : World} {base : Nat} {spare : Nat → Bool} {held : Bool} {n : Nat} {cs : List Value} {xs : List (DataW H × List MemPlace)},
    n ≤ F → cs.length = o + kd.sz → xs.length = fs.length →
    (∀ (i : Nat) (f : Field), fs[i]? = some f → DataW.trod enc P W base spare held n f.type ((cs.drop f.offset).take (P.cellsOf f.type)) = xs[i]?) →
    (∀ m ∈ DataW.weightsEach P (fs.map (·.type)) (xs.map (·.1)), m ≤ reachBytes) → ∃ y : α, kd.K W y (cs.drop o) ∧ good y
theorem fields_one {α : Type} {f : Field} {o : Nat} {kd : Kd α} {g : α → Prop} (ho : f.offset = o) (h : OpensAt F P f.type kd g) : FieldsAt F P [f] o kd g := by
  intro H enc W base spare held n cs xs hn hl hx hf hw
  have h1 := hf 0 f rfl
  match xs, hx with
  | [x], _ =>
    rw [ho, List.take_of_length_le (by rw [List.length_drop, ← h.sz]; omega)] at h1
    exact h.op hn h1 (fun m hm => hw m (by simp only [List.map, DataW.weightsEach]; exact List.mem_append_left _ hm))
theorem fields_cons {α β : Type} {f : Field} {fs : List Field} {o : Nat} {kd : Kd α} {kd' : Kd β} {g : α → Prop} {g' : β → Prop} (ho : f.offset = o) (h : OpensAt F P f.type kd g)
    (h' : FieldsAt F P fs (o + kd.sz) kd' g') : FieldsAt F P (f :: fs) o (Kd.pair kd kd') (fun y => g y.1 ∧ g' y.2) := by
  intro H enc W base spare held n cs xs hn hl hx hf hw
  match xs, hx with
  | x :: xs, hx =>
    have h1 := hf 0 f rfl
    rw [ho] at h1
    obtain ⟨y, hy, hg⟩ := h.op hn h1 (fun m hm => hw m (by simp only [List.map, DataW.weightsEach]; exact List.mem_append_left _ hm))
    have hsz : (Kd.pair kd kd').sz = kd.sz + kd'.sz := rfl
    obtain ⟨z, hz, hg'⟩ := h' (xs := xs) hn (by rw [hl, hsz]; omega) (by simpa using hx) (fun i f' hf' => by simpa using hf (i + 1) f' (by simpa using hf'))
      (fun m hm => hw m (by simp only [List.map, DataW.weightsEach]; exact List.mem_append_right _ hm))
    refine ⟨(y, z), ⟨_, _, ?_, hy, hz⟩, hg, hg'⟩
    rw [← h.sz, ← List.drop_drop, List.take_append_drop]
theorem at_struct {α : Type} {fs : Array Field} {fl : List Field} {kd : Kd α} {g : α → Prop} (hu : P.underlying t = some (.struct fs)) (hl : fs.toList = fl) (hc : P.cellsOf t = kd.sz) (h : FieldsAt F P fl 0 kd g) : OpensAt (F + 1) P t kd g where
  sz := hc.symm
  op := by
    intro H enc W base spare held fuel cs x hf h0 hw
    obtain ⟨xs, n, rfl, rfl, hcl, hxl, hx⟩ := DataW.trod_struct hu h0
    have := h (xs := xs) (n := n) (by omega) (by rw [hcl, hc]; omega) (by rw [hxl, ← hl]; simp) (fun i f hf => hx i f (by rw [← hl] at hf; simpa using hf)) (fun m hm => hw m (by
      simp only [DataW.weights, hu]
      rw [hl]
      exact hm))
    simpa using this
theorem at_iso {α β : Type} {kd : Kd α} {g : α → Prop} (f : β → α) (inv : α → β) (hi : ∀ x, f (inv x) = x) (h : OpensAt F P t kd g) : OpensAt F P t (Kd.iso kd f) (fun b => g (f b)) where
  sz := h.sz
  op := by
    intro H enc W base spare held fuel cs x hf h0 hw
    obtain ⟨y, hy, hg⟩ := h.op hf h0 hw
    refine ⟨inv y, ?_, ?_⟩
    · show kd.K W (f (inv y)) cs
      rw [hi]
      exact hy
    · show g (f (inv y))
      rw [hi]
      exact hg
theorem OpensAt.good_imp {α : Type} {kd : Kd α} {g g' : α → Prop} (h : OpensAt F P t kd g) (hg : ∀ x, g x → g' x) : OpensAt F P t kd g' where
  sz := h.sz
  op := fun hf h0 hw => by
    obtain ⟨y, hy, hgy⟩ := h.op hf h0 hw
    exact ⟨y, hy, hg y hgy⟩
theorem OpensAt.weaken {α : Type} {kd : Kd α} {g : α → Prop} (h : OpensAt (F + 1) P t kd g) : OpensAt F P t kd g where
  sz := h.sz
  op := fun hf h0 hw => h.op (Nat.le_succ_of_le hf) h0 hw
theorem opens_int {k : IntKind} (hu : P.underlying t = some (.int k)) (hc : P.cellsOf t = 1) : Opens P t (Kd.int k) (fun x => (Lit.int k x).wf = true) := fun _ => at_int hu hc
theorem opens_bool (hu : P.underlying t = some .bool) (hc : P.cellsOf t = 1) : Opens P t Kd.bool (fun _ => True) := fun _ => at_bool hu hc
theorem opens_string (hu : P.underlying t = some .string) (hc : P.cellsOf t = 1) : Opens P t Kd.string (fun s => s.size ≤ 140737488351232) := fun _ => at_string hu hc
theorem opens_slice {α : Type} {kd : Kd α} {g : α → Prop} {B : Nat} (hu : P.underlying t = some (.slice e)) (hc : P.cellsOf t = 1) (hB : P.bytesOf e = B) (he : Opens P e kd g) :
    Opens P t (Kd.slice e kd) (GoodL B g) := fun F => (at_slice hu hc hB (he F)).weaken
def Fields {α : Type} (P : Program) (fs : List Field) (o : Nat) (kd : Kd α) (good : α → Prop) : Prop := ∀ F, FieldsAt F P fs o kd good
theorem fields1 {α : Type} {f : Field} {o : Nat} {kd : Kd α} {g : α → Prop} (ho : f.offset = o) (h : Opens P f.type kd g) : Fields P [f] o kd g := fun F => fields_one ho (h F)
theorem fields2 {α β : Type} {f : Field} {fs : List Field} {o : Nat} {kd : Kd α} {kd' : Kd β} {g : α → Prop} {g' : β → Prop} (ho : f.offset = o) (h : Opens P f.type kd g)
    (h' : Fields P fs (o + kd.sz) kd' g') : Fields P (f :: fs) o (Kd.pair kd kd') (fun y => g y.1 ∧ g' y.2) := fun F => fields_cons ho (h F) (h' F)
theorem opens_struct {α : Type} {fs : Array Field} {fl : List Field} {kd : Kd α} {g : α → Prop} (hu : P.underlying t = some (.struct fs)) (hl : fs.toList = fl) (hc : P.cellsOf t = kd.sz) (h : Fields P fl 0 kd g) : Opens P t kd g :=
  fun F => (at_struct hu hl hc (h F)).weaken
theorem open_arg {α : Type} {kd : Kd α} {g : α → Prop} (h : ∀ F, OpensAt F P t kd g) {H : Type} {enc : TypeId × Value → H} {W : World} {base : Nat} {spare : Nat → Bool} {held : Bool} {v : Value} {d : DataW H} {ps : List MemPlace}
    {ts : List TypeId} {ds : List (DataW H)} {j : Nat} (hsz : (DataW.weightsEach P ts ds).all (· ≤ reachBytes) = true) (ht : ts[j]? = some t) (hd : ds[j]? = some d)
    (hr : DataW.Trod enc P W base spare held t v d ps) : ∃ y : α, kd.K W y v.cells.toList ∧ g y := by
  obtain ⟨fuel, hf⟩ := hr
  exact (h fuel).op (Nat.le_refl _) hf (fun m hm => by
    have := List.all_eq_true.1 hsz m (DataW.weights_mem_each ht hd m hm)
    simpa using this)
end Go.Proofs.Ytfdkcnbkoagmiaa.Open
end

section
namespace Go.Proofs.Ytfdkcnbkoagmiaa.TydW
open Go Go.RowKit Go.Proofs.YtfdkcnbkoagmiaaW.PrintWords Go.Proofs.YtfdkcnbkoagmiaaW.PrintLast Go.Proofs.YtfdkcnbkoagmiaaW.PrintMore Go.Proofs.Ytfdkcnbkoagmiaa.RowU Go.Proofs.Ytfdkcnbkoagmiaa.ArS Go.Proofs.Ytfdkcnbkoagmiaa.ArM Go.Proofs.Ytfdkcnbkoagmiaa.GenM Go.Proofs.Ytfdkcnbkoagmiaa.GenN Go.Proofs.Ytfdkcnbkoagmiaa.GenL Go.Proofs.Ytfdkcnbkoagmiaa.OwnL Go.Proofs.Ytfdkcnbkoagmiaa.ParM Go.Proofs.Ytfdkcnbkoagmiaa.ParD Go.Proofs.Ytfdkcnbkoagmiaa.ParF Go.Proofs.Ytfdkcnbkoagmiaa.FedW Go.Proofs.Ytfdkcnbkoagmiaa.TypS Go.Proofs.Ytfdkcnbkoagmiaa.Open
open Go.Proofs.Ytfdkcnbkoagmiaa.ParS (St PS)
open Go.Proofs.Ytfdkcnbkoagmiaa.LinS (inB)
set_option linter.unusedVariables false
set_option maxRecDepth 100000
theorem o_u8 : Opens Try.prog 5 (Kd.int .u8) (fun x => (Lit.int .u8 x).wf = true) := opens_int Try.underlying5 (by kernel_rfl)
theorem o_int : Opens Try.prog 3 (Kd.int .i64) (fun x => (Lit.int .i64 x).wf = true) := opens_int Try.underlying3 (by kernel_rfl)
abbrev kRows : Kd (List (List Int)) := Kd.slice 26 (Kd.slice 5 (Kd.int .u8))
def gBytes (l : List Int) : Prop := GoodL 1 (fun x => (Lit.int .u8 x).wf = true) l
theorem o_bytes : Opens Try.prog 26 (Kd.slice 5 (Kd.int .u8)) gBytes := opens_slice Try.underlying26 (by kernel_rfl) (by kernel_rfl) o_u8
theorem o_rows : Opens Try.prog 22 kRows (GoodL 24 gBytes) := opens_slice Try.underlying22 (by kernel_rfl) (by kernel_rfl) o_bytes
def kWds : Kd (List (List Int) × List Int) := Kd.pair kRows (Kd.slice 3 (Kd.int .i64))
def gWds (y : List (List Int) × List Int) : Prop := GoodL 24 gBytes y.1 ∧ GoodL 8 (fun x => (Lit.int .i64 x).wf = true) y.2
theorem o_wds : Opens Try.prog 25 kWds gWds :=
  opens_struct Try.underlying25 rfl (by kernel_rfl) (fields2 rfl o_rows (fields1 rfl (opens_slice Try.underlying23 (by kernel_rfl) (by kernel_rfl) o_int)))
theorem wf_u8 {x : Int} (h : (Lit.int .u8 x).wf = true) : 0 ≤ x ∧ x < 256 := by
  simp [Lit.wf, IntKind.min, IntKind.max, IntKind.signed, IntKind.bits] at h; omega
def Rl (w : World) (v : Value) (x : List Int) : Prop := ∃ A c, v = .slice A x.length c ∧ x.length ≤ c ∧ (Kd.int .u8).C w A x.length x
theorem Rl.below {w w' : World} {v : Value} {x : List Int} (h : Rl w v x) (hb : Below w.heap.size w w') : Rl w' v x := by
  obtain ⟨A, c, e, h1, h2⟩ := h
  exact ⟨A, c, e, h1, Kd.C_below h2 hb⟩
theorem rows_at {w : World} {A : Option Addr} {l : List (List Int)} {i : Nat} {x : List Int} (h : Kd.C (Kd.slice 5 (Kd.int .u8)) w A l.length l) (hx : l[i]? = some x) : ∃ ad v, A = some ad ∧ w.cell? (ad.add i) = some v ∧ Rl w v x := by
  obtain ⟨hl, rfl⟩ := List.getElem?_eq_some_iff.1 hx
  obtain ⟨ad, e, hc⟩ := h.2.2 (by omega)
  obtain ⟨cs, c1, c2, c3⟩ := hc i l[i] (List.getElem?_eq_getElem hl)
  obtain ⟨B, c, rfl, h1, h2⟩ := c2
  have := c3 0 _ rfl
  rw [show (Kd.slice 5 (Kd.int .u8)).sz = 1 from rfl, Nat.mul_one, Nat.add_zero] at this
  exact ⟨ad, _, e, this, B, c, rfl, h1, h2⟩
theorem int_at {w : World} {A : Option Addr} {l : List Int} {i : Nat} {x : Int} (h : (Kd.int .i64).C w A l.length l) (hx : l[i]? = some x) : ∃ ad, A = some ad ∧ w.cell? (ad.add i) = some (.int .i64 x) := by
  obtain ⟨hl, rfl⟩ := List.getElem?_eq_some_iff.1 hx
  obtain ⟨ad, e, hc⟩ := h.2.2 (by omega)
  obtain ⟨cs, c1, c2, c3⟩ := hc i l[i] (List.getElem?_eq_getElem hl)
  have c4 : cs = [Value.int .i64 l[i]] := c2
  subst c4
  have := c3 0 _ rfl
  rw [show (Kd.int .i64).sz = 1 from rfl, Nat.mul_one, Nat.add_zero] at this
  exact ⟨ad, e, this⟩
structure TI (Wb wr : World) (va : Value) (vals : List Value) (ps : List (List Int × List Int)) : Prop where
  gv : GV 26 wr va vals
  own : ∀ k, va.ownBlock = some k → Wb.heap.size ≤ k
  len : vals.length = ps.length + 1
  rl : ∀ (j : Nat) (v : Value) (x : List Int), vals[j]? = some v → (setL :: ps.map Prod.snd)[j]? = some x → Rl Wb v x
  bel : Below Wb.heap.size Wb wr
  ty : ∀ p ∈ ps, Ty p.1 p.2
  sh : ∀ p ∈ ps, p.2.length ≤ 240
theorem TI.below {Wb wr w' : World} {va : Value} {vals : List Value} {ps : List (List Int × List Int)} (h : TI Wb wr va vals ps) (hb : Below wr.heap.size wr w') : TI Wb w' va vals ps :=
  ⟨h.gv.upd (S := none_) (Upd.of_below hb) (fun _ _ hf => hf), h.own, h.len, h.rl, h.bel.trans (Joins.below_le hb h.bel.size), h.ty, h.sh⟩
theorem TI.grow {Wb wr w1 w2 : World} {va v2 y : Value} {vals : List Value} {ps : List (List Int × List Int)} {p : List Int × List Int} (h : TI Wb wr va vals ps) (hb : Below wr.heap.size wr w1) (hg : Grew 26 w1 w2 va v2 vals y) (hy : Rl Wb y p.2) (ht : Ty p.1 p.2) (h240 : p.2.length ≤ 240) : TI Wb w2 v2 (vals ++ [y]) (ps ++ [p]) := by
  have h1 := h.below hb
  have hs := h1.bel.size
  refine ⟨hg.gv, fun k hk => ?_, by rw [List.length_append, List.length_append, h.len]; rfl, fun j v x hv hx => ?_, Upd.to_below h1.bel hg.upd hs (fun k hk => h.own k hk), fun q hq => ?_, fun q hq => ?_⟩
  · rcases hg.block k hk with hb' | hb'
    · exact h.own k hb'
    · omega
  · by_cases hj : j < vals.length
    · rw [List.getElem?_append_left hj] at hv
      rw [List.map_append, ← List.cons_append, List.getElem?_append_left (by rw [List.length_cons, List.length_map, ← h.len]; exact hj)] at hx
      exact h.rl j v x hv hx
    · have hj2 := (List.getElem?_eq_some_iff.1 hv).1
      rw [List.length_append, List.length_singleton] at hj2
      obtain rfl : j = vals.length := by omega
      rw [List.getElem?_append_right (Nat.le_refl _), Nat.sub_self] at hv
      rw [List.map_append, ← List.cons_append, List.getElem?_append_right (by rw [List.length_cons, List.length_map, h.len]; exact Nat.le_refl _)] at hx
      rw [List.length_cons, List.length_map, h.len, Nat.sub_self] at hx
      obtain rfl : y = v := by simpa using hv
      obtain rfl : p.2 = x := by simpa using hx
      exact hy
  · rcases List.mem_append.1 hq with hq | hq
    · exact h.ty q hq
    · rw [List.mem_singleton.1 hq]; exact ht
  · rcases List.mem_append.1 hq with hq | hq
    · exact h.sh q hq
    · rw [List.mem_singleton.1 hq]; exact h240
theorem TI.C {Wb wr : World} {va : Value} {vals : List Value} {ps : List (List Int × List Int)} (h : TI Wb wr va vals ps) : ∃ A c, va = .slice A (setL :: ps.map Prod.snd).length c ∧ (setL :: ps.map Prod.snd).length ≤ c ∧ ∀ w', Below wr.heap.size wr w' → Kd.C (Kd.slice 5 (Kd.int .u8)) w' A (setL :: ps.map Prod.snd).length (setL :: ps.map Prod.snd) := by
  have hlen : (setL :: ps.map Prod.snd).length = vals.length := by rw [List.length_cons, List.length_map, h.len]
  rw [hlen]
  obtain ⟨A, c, rfl⟩ := h.gv.slice
  have hc := OwnL.GV.cap h.gv
  refine ⟨A, c, rfl, hc.1, fun w' hb => ⟨hlen, by omega, fun h0 => ?_⟩⟩
  obtain ⟨g, c', e, _⟩ := h.gv.get 0 vals[0] (List.getElem?_eq_getElem h0)
  simp only [Value.slice.injEq] at e
  obtain ⟨rfl, _, _⟩ := e
  refine ⟨_, rfl, fun j x hx => ?_⟩
  have hj : j < vals.length := by rw [← hlen]; exact (List.getElem?_eq_some_iff.1 hx).1
  obtain ⟨g', c'', e, hcell⟩ := h.gv.get j vals[j] (List.getElem?_eq_getElem hj)
  simp only [Value.slice.injEq, Option.some.injEq, Addr.mk.injEq, and_true] at e
  obtain ⟨rfl, _⟩ := e
  obtain ⟨B, cb, e2, h1, h2⟩ := h.rl j vals[j] x (List.getElem?_eq_getElem hj) hx
  have hbb : Below Wb.heap.size Wb w' := h.bel.trans (Joins.below_le hb h.bel.size)
  refine ⟨[vals[j]], rfl, ⟨B, cb, by rw [e2], h1, Kd.C_below h2 hbb⟩, fun i u hu => ?_⟩
  cases i with
  | zero =>
    obtain rfl : vals[j] = u := by simpa using hu
    rw [show (Kd.slice 5 (Kd.int .u8)).sz = 1 from rfl, Nat.mul_one, Nat.add_zero, Addr.add_lit, Nat.zero_add]
    exact (hb.cell (World.block_lt_of_cell? _ _ hcell)).trans hcell
  | succ i => simp at hu
theorem typ_len (a : List Int) (s : Int) : (typL a s).length ≤ 4 * a.length + 2 := by
  have h1 := TypW.encX_len a
  have h2 := TypW.encD_len a
  have h3 := TypW.encS_len a
  unfold typL typX typD typS
  repeat' split
  all_goals (try simp only [List.length_cons, List.length_append, List.length_nil]); omega
def win4 (k : Int) : Int := Int.tmod (Int.tmod k 4 + 4) 4
theorem win4_in (k : Int) : 0 ≤ win4 k ∧ win4 k < 4 := by
  have h1 : -(4 : Int) < Int.tmod k 4 := Int.lt_tmod_of_pos k (by decide)
  unfold win4
  exact ⟨Int.tmod_nonneg _ (by omega), Int.tmod_lt_of_pos _ (by decide)⟩
theorem within4 (k : Int) (w : World) : Calls Try.prog 7 #[.int .i64 k, .int .i64 4] w fun e w' => e = .returned (.int .i64 (win4 k)) ∧ w' = w := by
  have h1 : -(4 : Int) < Int.tmod k 4 := Int.lt_tmod_of_pos k (by decide)
  have h2 : Int.tmod k 4 < 4 := Int.tmod_lt_of_pos _ (by decide)
  have hw : wrap64 (Int.tmod k 4 + 4) = Int.tmod k 4 + 4 := by unfold wrap64; omega
  have h3 : 0 ≤ Int.tmod (Int.tmod k 4 + 4) 4 := Int.tmod_nonneg _ (by omega)
  have h4 : Int.tmod (Int.tmod k 4 + 4) 4 < 4 := Int.tmod_lt_of_pos _ (by decide)
  have hw2 : wrap64 (Int.tmod (Int.tmod k 4 + 4) 4) = Int.tmod (Int.tmod k 4 + 4) 4 := by unfold wrap64; omega
  unfold win4
  clear h1 h2 h3 h4
  go_enter Try.func7, Try.ntmps7
  go_wp2_with fail
  go_ret
  first | exact ⟨rfl, rfl⟩ | exact ⟨by simp [hw, hw2], rfl⟩
set_option maxHeartbeats 16000000 in
theorem walk (y : List (List Int) × List Int) (ca : Array Value) (W : World) (hK : kWds.K W y ca.toList) (hg : gWds y) :
    Calls Try.prog 3 #[.agg ca] W fun e w' => e = .returned (.bool true) ∧ Below W.heap.size W w' := by
  obtain ⟨Args, Style⟩ := y
  obtain ⟨c1, c2, hca, ⟨A1, cap1, rfl, hc1, hC1⟩, ⟨A2, cap2, rfl, hc2, hC2⟩⟩ := hK
  obtain rfl : ca = #[.slice A1 Args.length cap1, .slice A2 Style.length cap2] := by cases ca; simpa using hca
  have HIN : Aside0 (∀ x ∈ Args, inB x) := ⟨fun x hx y hy => wf_u8 ((hg.1.2 x hx).2 y hy)⟩
  have HLB : Aside0 (Args.length ≤ 140737488351232 ∧ Style.length ≤ 140737488351232) := ⟨by have h1 := hg.1.1; have h2 := hg.2.1; dsimp only at h1 h2; omega⟩
  have HC1 := Aside0.mk hC1
  have HC2 := Aside0.mk hC2
  have hcv := ApnF.conv_at (w := W.alloc (.cells #[.slice A1 Args.length cap1, .slice A2 Style.length cap2] 25)) (W.heap.size + 1) (by simp) #[.int .u8 83, .int .u8 69, .int .u8 84] 3 3
  have hcv : (convert 26 26 (.slice (some ⟨W.heap.size + 1, 0, none⟩) 3 3)).run Try.prog ((W.alloc (.cells #[.slice A1 Args.length cap1, .slice A2 Style.length cap2] 25)).alloc (.cells #[.int .u8 83, .int .u8 69, .int .u8 84] 5)) = .ok (.slice (some ⟨W.heap.size + 1, 0, none⟩) 3 3) ((W.alloc (.cells #[.slice A1 Args.length cap1, .slice A2 Style.length cap2] 25)).alloc (.cells #[.int .u8 83, .int .u8 69, .int .u8 84] 5 (3, 4))) := hcv
  clear hca hg hc1 hC1 hc2 hC2
  go_enter Try.func3, Try.ntmps3
  go_wp2_with fail
  have hWBs : Below W.heap.size W ((W.alloc (.cells #[.slice A1 Args.length cap1, .slice A2 Style.length cap2] 25)).alloc (.cells #[.int .u8 83, .int .u8 69, .int .u8 84] 5 (3, 4))) := below_alloc (below_alloc (Below.refl _ _) _) _
  have hbox := blk_below (blk_new W (.cells #[.slice A1 Args.length cap1, .slice A2 Style.length cap2] 25)) (below_alloc (Below.refl _ _) (.cells #[.int .u8 83, .int .u8 69, .int .u8 84] 5 (3, 4)))
  have hset := ApnG.RowF.const (W.alloc (.cells #[.slice A1 Args.length cap1, .slice A2 Style.length cap2] 25)) (W.heap.size + 1) (by simp) setL (by decide)
  have hsize : ((W.alloc (.cells #[.slice A1 Args.length cap1, .slice A2 Style.length cap2] 25)).alloc (.cells #[.int .u8 83, .int .u8 69, .int .u8 84] 5 (3, 4))).heap.size = W.heap.size + 2 := by simp
  replace hset : ApnG.RowF ((W.alloc (.cells #[.slice A1 Args.length cap1, .slice A2 Style.length cap2] 25)).alloc (.cells #[.int .u8 83, .int .u8 69, .int .u8 84] 5 (3, 4))) (W.heap.size + 1) 3 setL := hset
  generalize (W.alloc (.cells #[.slice A1 Args.length cap1, .slice A2 Style.length cap2] 25)).alloc (.cells #[.int .u8 83, .int .u8 69, .int .u8 84] 5 (3, 4)) = Wb at hWBs hbox hset hsize ⊢
  have HWB := Aside0.mk (And.intro hWBs (And.intro hbox hset))
  have HSZ := Aside0.mk hsize
  have HRW : Aside0 (∀ i x, Args[i]? = some x → ∃ ad v, A1 = some ad ∧ Wb.cell? (ad.add i) = some v ∧ Rl Wb v x) := ⟨fun i x hx => rows_at (Kd.C_below HC1.out hWBs) hx⟩
  have HIA : Aside0 (∀ i x, Style[i]? = some x → ∃ ad, A2 = some ad ∧ Wb.cell? (ad.add i) = some (.int .i64 x)) := ⟨fun i x hx => int_at (Kd.C_below HC2.out hWBs) hx⟩
  clear hcv hWBs hbox hset hsize
  go_loopw [3, 4, 5] (fun s a i wr => ∃ (S : ByteArray) (va : Value) (vals : List Value) (ps : List (List Int × List Int)), s = .string S ∧ va = a ∧ i = .int .i64 ps.length ∧ Aside0 (S = strOfNums (lineT ps) ∧ (lineT ps).length ≤ 1024 ∧ ps.length ≤ 127) ∧ Aside0 (TI Wb wr va vals ps)) (fun _ _ i _ => 127 - (intOf i).toNat)
  case atStart =>
    refine ⟨_, _, [.slice (some ⟨W.heap.size + 1, 0, none⟩) 3 3], [], rfl, rfl, rfl, ⟨rfl, by decide, by decide⟩, ⟨⟨?_, ?_, rfl, ?_, ?_, ?_, ?_⟩⟩⟩
    · refine .inr ⟨_, 1, rfl, [.slice (some ⟨W.heap.size + 1, 0, none⟩) 3 3], ?_, rfl, Nat.le_refl 1, by decide, rfl⟩
      rw [← HSZ.out]
      exact heap_alloc_new Wb _
    · intro k hk
      obtain rfl := Option.some.inj hk
      rw [HSZ.out]
      exact Nat.le_refl _
    · intro j v x hv hx
      have hj := (List.getElem?_eq_some_iff.1 hv).1
      obtain rfl : j = 0 := by simpa using hj
      obtain rfl : Value.slice (some ⟨W.heap.size + 1, 0, none⟩) 3 3 = v := by simpa using hv
      obtain rfl : setL = x := by simpa using hx
      exact ⟨_, 3, rfl, by decide, HWB.out.2.2.C⟩
    · exact below_alloc (Below.refl _ _) _
    · intro p hp; cases hp
    · intro p hp; cases hp
  case round =>
    rename World => wr
    obtain ⟨S, va, vals, ps, rfl, rfl, rfl, HPS, HTI⟩ := hrel
    have hb := HTI.out.bel
    have hq0 : wr.cell? ⟨W.heap.size, 0, none⟩ = some (.slice A1 Args.length cap1) := (blk_cell (blk_below HWB.out.2.1 hb) 0).trans rfl
    have hq1 : wr.cell? ⟨W.heap.size, 1, none⟩ = some (.slice A2 Style.length cap2) := (blk_cell (blk_below HWB.out.2.1 hb) 1).trans rfl
    have hp127 := HPS.out.2.2
    clear hb
    by_cases hgo : ps.length < Args.length ∧ ps.length < 127
    · obtain ⟨x, hx⟩ : ∃ x, Args[ps.length]? = some x := ⟨_, List.getElem?_eq_getElem hgo.1⟩
      obtain ⟨ad, vx, eA1, hcx, Ax, cx, rfl, hxc, hCx⟩ := HRW.out ps.length x hx
      have hcxa : wr.cell? (ad.add ps.length) = some (.slice Ax x.length cx) := (HTI.out.bel.cell (World.block_lt_of_cell? _ _ hcx)).trans hcx
      rw [eA1] at hq0
      have hlt1 : (ps.length : Int) < (Args.length : Int) := by omega
      have hlt2 : (ps.length : Int) < 127 := by omega
      have hlt0 : (0 : Int) ≤ (ps.length : Int) := by omega
      have HM : Aside0 (ps.length < 127) := ⟨hgo.2⟩
      obtain ⟨a, ha⟩ : ∃ a, a = x.take 240 := ⟨_, rfl⟩
      have hinx := HIN.out x (List.mem_of_getElem? hx)
      have HA : Aside0 (a = x.take 240 ∧ a.length ≤ 240 ∧ inB a) := ⟨ha, by rw [ha, List.length_take]; omega, by rw [ha]; exact fun y hy => hinx y (List.mem_of_mem_take hy)⟩
      have HXC : Aside0 (x.length ≤ cx ∧ a.length ≤ x.length) := ⟨hxc, by rw [ha, List.length_take]; omega⟩
      have HCB : Aside0 ((Kd.int .u8).C Wb Ax a.length a) := ⟨by
        rw [ha]
        by_cases hl : 240 ≤ x.length
        · exact FedW.C_take hCx hl |> (fun h => by rw [List.length_take] at h ⊢; exact h)
        · rw [List.take_of_length_le (by omega)]; exact hCx⟩
      have HCA := Aside0.mk (Kd.C_below HCB.out HTI.out.bel)
      clear hcx hCx hx hinx ha hxc hgo hp127
      by_cases hst : ps.length < Style.length
      · obtain ⟨z, hz⟩ : ∃ z, Style[ps.length]? = some z := ⟨_, List.getElem?_eq_getElem hst⟩
        obtain ⟨ad2, eA2, hcz⟩ := HIA.out ps.length z hz
        have hczz : wr.cell? (ad2.add ps.length) = some (.int .i64 z) := (HTI.out.bel.cell (World.block_lt_of_cell? _ _ hcz)).trans hcz
        rw [eA2] at hq1
        have hlt3 : (ps.length : Int) < (Style.length : Int) := by omega
        clear hcz hz hst
        go_upto_region 10 with (go_at_call 7; refine (within4 z _).mono ?_; rintro e w6 ⟨rfl, rfl⟩)
        rename World => wr
        have HZ := Aside0.mk (win4_in z)
        obtain ⟨sv, hsv⟩ : ∃ sv, sv = win4 z := ⟨_, rfl⟩
        rw [← hsv] at HZ
        rw [← hsv]
        clear hq0 hq1 hczz hlt1 hlt3 hsv hlt0
        by_cases h240 : 240 < x.length
        · have hal : a.length = 240 := by rw [HA.out.1, List.length_take]; omega
          have HTYP : Aside0 (Calls Try.prog 8 #[.slice Ax a.length cx, .int .i64 (sv)] wr fun e w' => e = .returned (.string (strOfNums (typL a (sv)))) ∧ Below wr.heap.size wr w') := ⟨TypW.typed.calls Ax cx a wr HCA.out (by have := HXC.out; omega) HA.out.2.1 HA.out.2.2 (sv) HZ.out⟩
          rw [hal] at HTYP
          have HRLA : Aside0 (Rl Wb (.slice Ax 240 cx) a) := ⟨Ax, cx, by rw [hal], by have := HXC.out; omega, HCB.out⟩
          have h240i : (240 : Int) < (x.length : Int) := by omega
          have hcx9 : (240 : Int) ≤ (cx : Int) := by have := HXC.out; omega
          clear h240 hal
          go_upto_region 13 with (go_at_call 8; refine HTYP.out.mono ?_; rintro e wz ⟨rfl, hb3⟩; have HB3 := Aside0.mk hb3; clear hb3)
          clear h240i hcx9
          have HTZ := Aside0.mk (HTI.out.below HB3.out)
          have hty : Ty (typL a sv) a := typ_ok HA.out.2.2 sv
          have HTYA := Aside0.mk hty
          have HLEN9 : Aside0 ((typL a sv).length ≤ 1000) := ⟨by have := typ_len a (sv); have := HA.out.2.1; omega⟩
          obtain ⟨r, hr⟩ : ∃ r, r = typL a sv := ⟨_, rfl⟩
          rw [← hr] at HTYA HLEN9
          rw [← hr]
          have hRs := strOfNums_size r
          obtain ⟨R, hR⟩ : ∃ R, R = strOfNums r := ⟨_, rfl⟩
          rw [← hR] at hRs
          rw [← hR]
          have HRE := Aside0.mk hR
          have hSs : S.size = (lineT ps).length := by rw [HPS.out.1, strOfNums_size]
          have hS24 := HPS.out.2.1
          have HSS := Aside0.mk (And.intro hSs hRs)
          have hs9 : S.size ≤ 1024 := by omega
          clear hr hR hty
          by_cases hov : 1024 < S.size + R.size + 1
          · have hov2 : (1024 : Int) < (S.size : Int) + (R.size : Int) + 1 := by omega
            have hR9 : R.size ≤ 100000 := by have := HLEN9.out; omega
            clear hov hSs hRs hS24
            go_upto_region 16 with fail
            clear hov2 hs9 hR9
            obtain ⟨Aa, ca, ea, hac, haC⟩ := HTZ.out.C
            subst ea
            have hpl : ps.length ≤ 127 := HPS.out.2.2
            have hline := line_line HTZ.out.ty HPS.out.2.1 hpl
            have hn10 := line_no10 HTZ.out.ty
            have e10 : lineT ps = 83 :: ([69, 84] ++ ps.flatMap (fun x => 32 :: x.1)) := rfl
            rw [e10] at hn10
            have hbody := run_new_line (c := 83) (b := [69, 84] ++ ps.flatMap (fun x => 32 :: x.1)) (ws := setL :: ps.map Prod.snd) (by decide) hn10 (by rw [← e10]; exact HPS.out.2.1) (by rw [← e10]; exact hline) (List.cons_ne_nil _ _)
            have HAC := Aside0.mk (And.intro hac haC)
            have HLEN : Aside0 ((setL :: ps.map Prod.snd).length ≤ 128 ∧ ∀ x ∈ setL :: ps.map Prod.snd, x.length ≤ 240) := ⟨by rw [List.length_cons, List.length_map]; omega, fun x hx => by
              rcases List.mem_cons.1 hx with rfl | hx
              · decide
              · obtain ⟨q, hq, rfl⟩ := List.mem_map.1 hx
                exact HTZ.out.sh q hq⟩
            obtain ⟨ws, hws⟩ : ∃ ws, ws = setL :: ps.map Prod.snd := ⟨_, rfl⟩
            rw [← hws] at hline hbody HAC HLEN
            rw [← hws]
            obtain ⟨L, hL⟩ : ∃ L, L = lineT ps := ⟨_, rfl⟩
            have hbody : (ParS.run ParS.new (L ++ [10])).out = [ws] ∧ (ParS.run ParS.new (L ++ [10])).broken = 0 := by rw [hL]; exact hbody
            have HL1 : Aside0 (S = strOfNums L ∧ L.length ≤ 1024 ∧ inB L) := ⟨by rw [hL]; exact ⟨HPS.out.1, HPS.out.2.1, line_in HTZ.out.ty⟩⟩
            rw [← hL] at hline
            have hl2 : (L ++ [10]).length ≤ 1025 := by have := HL1.out.2.1; rw [List.length_append, List.length_singleton]; omega
            have hin2 : inB (L ++ [10]) := fun x hx => by
              rcases List.mem_append.1 hx with hx | hx
              · exact HL1.out.2.2 x hx
              · rw [List.mem_singleton.1 hx]; decide
            have hS := HL1.out.1
            have hS2 : S ++ ⟨#[10]⟩ = strOfNums (L ++ [10]) := by rw [hS, show (⟨#[10]⟩ : ByteArray) = strOfNums [10] from rfl, StrR.str_append]
            obtain ⟨L2, hL2⟩ : ∃ L2, L2 = L ++ [10] := ⟨_, rfl⟩
            rw [← hL2] at hbody hin2 hS2 hl2
            have HBODY := Aside0.mk hbody
            have HIN2 := Aside0.mk (And.intro hin2 hl2)
            have HS2 := Aside0.mk hS2
            have hsz : S.size ≤ 1024 := by rw [hS, strOfNums_size]; exact HL1.out.2.1
            have HBW : Aside0 (Below W.heap.size W wz) := ⟨by
              have h1 : Below W.heap.size W Wb := HWB.out.1
              exact below_next h1 (HTZ.out.bel)⟩
            have HCV : Aside0 (∀ W', ∃ cap, (convert 9 26 (.string S)).run Try.prog W' = .ok (.slice (some ⟨W'.heap.size, 0, none⟩) L.length cap) (Lib.bytesWorld W' 5 S) ∧ L.length ≤ cap ∧ (Kd.int .u8).C (Lib.bytesWorld W' 5 S) (some ⟨W'.heap.size, 0, none⟩) L.length L ∧ Below W'.heap.size W' (Lib.bytesWorld W' 5 S)) := ⟨fun W' => by
              have h := StrR.conv_run W' S
              have hc := StrR.conv_cap W' L
              have hC := StrR.conv_C W' L HL1.out.2.2 (by have := HL1.out.2.1; omega)
              rw [← hS] at hc hC
              have e : S.size = L.length := by rw [hS, strOfNums_size]
              rw [e] at h hc
              exact ⟨_, h, hc, hC, StrR.conv_below W' S⟩⟩
            have HCV2 : Aside0 (∀ W', ∃ cap, (convert 9 26 (.string (S ++ ⟨#[10]⟩))).run Try.prog W' = .ok (.slice (some ⟨W'.heap.size, 0, none⟩) L2.length cap) (Lib.bytesWorld W' 5 (S ++ ⟨#[10]⟩)) ∧ (Kd.int .u8).C (Lib.bytesWorld W' 5 (S ++ ⟨#[10]⟩)) (some ⟨W'.heap.size, 0, none⟩) L2.length L2 ∧ Below W'.heap.size W' (Lib.bytesWorld W' 5 (S ++ ⟨#[10]⟩))) := ⟨fun W' => by
              have h := StrR.conv_run W' (strOfNums L2)
              have hC := StrR.conv_C W' L2 HIN2.out.1 (by have := HIN2.out.2; omega)
              rw [strOfNums_size] at h
              rw [HS2.out]
              exact ⟨_, h, hC, StrR.conv_below W' _⟩⟩
            obtain ⟨cap3, hcv1, hcp, hCL, hbl⟩ := HCV.out wz
            have HLINE := Aside0.mk (LinW.line.calls (some ⟨wz.heap.size, 0, none⟩) cap3 L _ hCL HL1.out.2.2 hcp)
            rw [hline] at HLINE
            have HBL := Aside0.mk hbl
            obtain ⟨w1, hw1⟩ : ∃ w1, w1 = Lib.bytesWorld wz 5 S := ⟨_, rfl⟩
            rw [← hw1] at hcv1 HLINE HBL
            clear hac haC hline hbody hn10 e10 hl2 hL2 hin2 hS hS2 hcp hCL hbl hL hws hw1 hpl
            go_upto_region 17 with (go_at_call 9; refine HLINE.out.mono ?_; rintro e w2 ⟨vl, Ol, rfl, k1, k2, k3, k4⟩; obtain ⟨Al, cl, rfl⟩ := k1.slice; have K1 := Aside0.mk k1; have K4 := Aside0.mk k4; clear k1 k2 k3 k4)
            clear hcv1
            have hck := LAt.C BtR.fit rfl BtR.K K1.out
            have HEQ : Aside0 (Calls Try.prog 11 #[.slice Al ws.length cl, .slice Aa ws.length ca] w2 fun e w' => e = .returned (.bool true) ∧ Drawn0 w2 w') := ⟨by
              have := IsG.listsG.calls hck.2.2 hck.2.1 (HAC.out.2 w2 (below_next HBL.out K4.out)) HAC.out.1 (by have := HLEN.out.1; omega) (by have := HLEN.out.1; omega) (fun x hx => by have := HLEN.out.2 x hx; omega)
              rw [decide_eq_true rfl] at this
              exact this⟩
            clear hck
            go_upto_region 19 with (first | (go_at_call 10; refine (num.calls _ _).mono ?_; rintro e w6 ⟨rfl, rfl⟩) | (go_at_call 11; refine HEQ.out.mono ?_; rintro e w3 ⟨rfl, hd3⟩; have HD3 := Aside0.mk hd3.below; clear hd3))
            rename World => w3
            go_upto_region 22 with (go_at_call 12; refine (new.calls _).mono ?_; rintro e w4 ⟨rfl, k1, k2⟩; have N1 := Aside0.mk k1; have N2 := Aside0.mk k2; clear k1 k2)
            rename World => w4
            obtain ⟨cap4, hcv2, hC2, hb5⟩ := HCV2.out w4
            have HB5 := Aside0.mk hb5
            have HF : Aside0 (Calls Try.prog 13 #[ptr w3.heap.size, .slice (some ⟨w4.heap.size, 0, none⟩) L2.length cap4] (Lib.bytesWorld w4 5 (S ++ ⟨#[10]⟩)) fun e w' => ∃ vt, e = .returned (.tuple #[vt, .int .i64 (ParS.run ParS.new L2).broken]) ∧ FQ (Lib.bytesWorld w4 5 (S ++ ⟨#[10]⟩)) w' (PO w3.heap.size (fun _ => 0) (fun _ => 0) (fun _ => 0)) w3.heap.size (ParS.feed ParS.new L2) vt (ParS.run ParS.new L2).out) := ⟨by
              have hp := N1.out.upd (S := fun _ => False) (Upd.of_below hb5) (fun _ _ hf => hf)
              exact feed.calls hp ParS.inv_new (fun x hx => by cases hx) rfl (Int.le_refl 0) (some ⟨w4.heap.size, 0, none⟩) cap4 L2 hC2 HIN2.out.1 (fun ad e => by
                obtain rfl := Option.some.inj e
                refine ⟨?_, ?_⟩
                · have h1 := N1.out.lt (a := w3.heap.size) (by unfold PO; rw [if_pos rfl]; omega)
                  unfold PO
                  rw [if_neg (by show ¬ w4.heap.size = w3.heap.size; omega)]
                  rfl
                · show w4.heap.size < _
                  rw [Lib.bytesWorld_size]
                  omega) (by have := HIN2.out.2; omega) (by decide)⟩
            rw [HBODY.out.1, HBODY.out.2] at HF
            obtain ⟨w5, hw5⟩ : ∃ w5, w5 = Lib.bytesWorld w4 5 (S ++ ⟨#[10]⟩) := ⟨_, rfl⟩
            rw [← hw5] at hcv2 HF HB5
            clear hC2 hb5 hw5
            go_upto_region 23 with (go_at_call 13; refine HF.out.mono ?_; rintro e w7 ⟨vt, rfl, va1, vc1, vx1, Oa1, Oc1, Oo1, Ott, m1, m2, m3, m4, m5⟩; have M2 := Aside0.mk m2; have M5 := Aside0.mk m5; clear m1 m2 m3 m4 m5)
            clear hcv2
            obtain ⟨gm, cm, ym, Ox, e1, e2, e3, _⟩ := LAt.get RwR.fit M2.out (i := 0) (x := ws) rfl
            replace e1 : _ = Value.slice (some ⟨gm, 0, none⟩) 1 cm := e1
            subst e1
            obtain ⟨Ax, cx, rfl⟩ := e3.slice
            have hck := LAt.C BtR.fit rfl BtR.K e3
            have HBW7 : Aside0 (Below wz.heap.size wz w7) := ⟨by
              have h1 := below_next (below_next (below_next (below_next HBL.out K4.out) HD3.out) N2.out) HB5.out
              refine Upd.to_below h1 M5.out h1.size (fun a ha => ?_)
              have h0 := (below_next (below_next HBL.out K4.out) HD3.out).size
              unfold PO at ha
              by_cases he : a = w3.heap.size
              · omega
              · rw [if_neg he] at ha
                exact absurd rfl ha⟩
            have HEQ2 : Aside0 (Calls Try.prog 11 #[.slice Ax ws.length cx, .slice Aa ws.length ca] w7 fun e w' => e = .returned (.bool true) ∧ Drawn0 w7 w') := ⟨by
              have := IsG.listsG.calls hck.2.2 hck.2.1 (HAC.out.2 w7 HBW7.out) HAC.out.1 (by have := HLEN.out.1; omega) (by have := HLEN.out.1; omega) (fun x hx => by have := HLEN.out.2 x hx; omega)
              rw [decide_eq_true rfl] at this
              exact this⟩
            clear hck e3
            go_wp2_with (first | (go_at_call 10; refine (num.calls _ _).mono ?_; rintro e w6 ⟨rfl, rfl⟩) | (go_at_call 11; refine HEQ2.out.mono ?_; rintro e w8 ⟨rfl, hd8⟩; have HD8 := Aside0.mk hd8.below; clear hd8))
            go_ret
            exact ⟨rfl, below_next (below_next HBW.out HBW7.out) HD8.out⟩
          · have hov2 : ¬ (1024 : Int) < (S.size : Int) + (R.size : Int) + 1 := by omega
            have hR9 : R.size ≤ 1024 := by omega
            have HOV : Aside0 (S.size + R.size + 1 ≤ 1024) := ⟨by omega⟩
            clear hov hSs hRs hS24
            go_wp2_with ((with_reducible refine gate_builtin (b := .append) (xs := #[.tmp 63, .tmp 65]) rfl ?_); at_builtin; refine wpList_gen2 _ rfl (.tmp 63) (.tmp 65) 22 26 rfl Try.underlying22 (.slice none 0 0) 24 (by kernel_rfl) rfl (by decide) va vals rfl ?hv ⟨wz.heap.size, 0, none⟩ (.slice Ax 240 cx) rfl ?hc rfl ?hb ?_; (case hv => exact HTZ.out.gv.upd (S := none_) (Upd.of_below (below_alloc (Below.refl _ _) _)) (fun _ _ h => h)); (case hc => exact cell_one_new _ _ _ 0 _ rfl); (case hb => have := HPS.out.2.2; rw [HTZ.out.len]; omega); intro v5 w5 hr5; have HT5 := Aside0.mk (HTZ.out.grow (below_alloc (Below.refl _ _) _) hr5 (p := (r, a)) HRLA.out HTYA.out HA.out.2.1); clear hr5)
            have hm := HM.out
            have hnew : Aside0 (S ++ ⟨#[32]⟩ ++ R = strOfNums (lineT (ps ++ [(r, a)])) ∧ (lineT (ps ++ [(r, a)])).length ≤ 1024 ∧ (ps ++ [(r, a)]).length ≤ 127) := ⟨by
              refine ⟨?_, ?_, by rw [List.length_append, List.length_singleton]; omega⟩
              · rw [lineT_snoc, HPS.out.1, HRE.out, show (⟨#[32]⟩ : ByteArray) = strOfNums [32] from rfl, StrR.str_append, StrR.str_append, List.append_assoc]
                rfl
              · rw [lineT_snoc, List.length_append, List.length_cons]
                dsimp only
                have h1 := HSS.out
                have h2 := HOV.out
                omega⟩
            have hlen5 : Value.int .i64 ((ps.length : Int) + 1) = .int .i64 (((ps ++ [(r, a)]).length : Nat) : Int) := by rw [List.length_append, List.length_singleton]; rfl
            refine ⟨?_, FinA.meas 127 _ _ (Int.natCast_nonneg ps.length) (by omega) (by first | rfl | omega)⟩
            first
              | exact ⟨_, _, _, ⟨_, rfl, _, ps ++ [(r, a)], rfl, hnew, HT5⟩, rfl, rfl, hlen5⟩
              | exact ⟨_, _, _, ps ++ [(r, a)], rfl, rfl, hlen5, hnew, HT5⟩
              | ((repeat apply Exists.intro); exact ⟨⟨_, _, _, ps ++ [(r, a)], rfl, rfl, hlen5, hnew, HT5⟩, rfl⟩)
        · have hax : a = x := by rw [HA.out.1, List.take_of_length_le (by omega)]
          have HTYP : Aside0 (Calls Try.prog 8 #[.slice Ax a.length cx, .int .i64 (sv)] wr fun e w' => e = .returned (.string (strOfNums (typL a (sv)))) ∧ Below wr.heap.size wr w') := ⟨TypW.typed.calls Ax cx a wr HCA.out (by have := HXC.out; omega) HA.out.2.1 HA.out.2.2 (sv) HZ.out⟩
          have HRLA : Aside0 (Rl Wb (.slice Ax a.length cx) a) := ⟨Ax, cx, rfl, by have := HXC.out; omega, HCB.out⟩
          have h240i : ¬ (240 : Int) < (x.length : Int) := by omega
          rw [← hax] at h240i hcxa
          rw [← hax]
          clear h240 hax
          go_upto_region 13 with (go_at_call 8; refine HTYP.out.mono ?_; rintro e wz ⟨rfl, hb3⟩; have HB3 := Aside0.mk hb3; clear hb3)
          clear h240i
          have HTZ := Aside0.mk (HTI.out.below HB3.out)
          have hty : Ty (typL a sv) a := typ_ok HA.out.2.2 sv
          have HTYA := Aside0.mk hty
          have HLEN9 : Aside0 ((typL a sv).length ≤ 1000) := ⟨by have := typ_len a (sv); have := HA.out.2.1; omega⟩
          obtain ⟨r, hr⟩ : ∃ r, r = typL a sv := ⟨_, rfl⟩
          rw [← hr] at HTYA HLEN9
          rw [← hr]
          have hRs := strOfNums_size r
          obtain ⟨R, hR⟩ : ∃ R, R = strOfNums r := ⟨_, rfl⟩
          rw [← hR] at hRs
          rw [← hR]
          have HRE := Aside0.mk hR
          have hSs : S.size = (lineT ps).length := by rw [HPS.out.1, strOfNums_size]
          have hS24 := HPS.out.2.1
          have HSS := Aside0.mk (And.intro hSs hRs)
          have hs9 : S.size ≤ 1024 := by omega
          clear hr hR hty
          by_cases hov : 1024 < S.size + R.size + 1
          · have hov2 : (1024 : Int) < (S.size : Int) + (R.size : Int) + 1 := by omega
            have hR9 : R.size ≤ 100000 := by have := HLEN9.out; omega
            clear hov hSs hRs hS24
            go_upto_region 16 with fail
            clear hov2 hs9 hR9
            obtain ⟨Aa, ca, ea, hac, haC⟩ := HTZ.out.C
            subst ea
            have hpl : ps.length ≤ 127 := HPS.out.2.2
            have hline := line_line HTZ.out.ty HPS.out.2.1 hpl
            have hn10 := line_no10 HTZ.out.ty
            have e10 : lineT ps = 83 :: ([69, 84] ++ ps.flatMap (fun x => 32 :: x.1)) := rfl
            rw [e10] at hn10
            have hbody := run_new_line (c := 83) (b := [69, 84] ++ ps.flatMap (fun x => 32 :: x.1)) (ws := setL :: ps.map Prod.snd) (by decide) hn10 (by rw [← e10]; exact HPS.out.2.1) (by rw [← e10]; exact hline) (List.cons_ne_nil _ _)
            have HAC := Aside0.mk (And.intro hac haC)
            have HLEN : Aside0 ((setL :: ps.map Prod.snd).length ≤ 128 ∧ ∀ x ∈ setL :: ps.map Prod.snd, x.length ≤ 240) := ⟨by rw [List.length_cons, List.length_map]; omega, fun x hx => by
              rcases List.mem_cons.1 hx with rfl | hx
              · decide
              · obtain ⟨q, hq, rfl⟩ := List.mem_map.1 hx
                exact HTZ.out.sh q hq⟩
            obtain ⟨ws, hws⟩ : ∃ ws, ws = setL :: ps.map Prod.snd := ⟨_, rfl⟩
            rw [← hws] at hline hbody HAC HLEN
            rw [← hws]
            obtain ⟨L, hL⟩ : ∃ L, L = lineT ps := ⟨_, rfl⟩
            have hbody : (ParS.run ParS.new (L ++ [10])).out = [ws] ∧ (ParS.run ParS.new (L ++ [10])).broken = 0 := by rw [hL]; exact hbody
            have HL1 : Aside0 (S = strOfNums L ∧ L.length ≤ 1024 ∧ inB L) := ⟨by rw [hL]; exact ⟨HPS.out.1, HPS.out.2.1, line_in HTZ.out.ty⟩⟩
            rw [← hL] at hline
            have hl2 : (L ++ [10]).length ≤ 1025 := by have := HL1.out.2.1; rw [List.length_append, List.length_singleton]; omega
            have hin2 : inB (L ++ [10]) := fun x hx => by
              rcases List.mem_append.1 hx with hx | hx
              · exact HL1.out.2.2 x hx
              · rw [List.mem_singleton.1 hx]; decide
            have hS := HL1.out.1
            have hS2 : S ++ ⟨#[10]⟩ = strOfNums (L ++ [10]) := by rw [hS, show (⟨#[10]⟩ : ByteArray) = strOfNums [10] from rfl, StrR.str_append]
            obtain ⟨L2, hL2⟩ : ∃ L2, L2 = L ++ [10] := ⟨_, rfl⟩
            rw [← hL2] at hbody hin2 hS2 hl2
            have HBODY := Aside0.mk hbody
            have HIN2 := Aside0.mk (And.intro hin2 hl2)
            have HS2 := Aside0.mk hS2
            have hsz : S.size ≤ 1024 := by rw [hS, strOfNums_size]; exact HL1.out.2.1
            have HBW : Aside0 (Below W.heap.size W wz) := ⟨by
              have h1 : Below W.heap.size W Wb := HWB.out.1
              exact below_next h1 (HTZ.out.bel)⟩
            have HCV : Aside0 (∀ W', ∃ cap, (convert 9 26 (.string S)).run Try.prog W' = .ok (.slice (some ⟨W'.heap.size, 0, none⟩) L.length cap) (Lib.bytesWorld W' 5 S) ∧ L.length ≤ cap ∧ (Kd.int .u8).C (Lib.bytesWorld W' 5 S) (some ⟨W'.heap.size, 0, none⟩) L.length L ∧ Below W'.heap.size W' (Lib.bytesWorld W' 5 S)) := ⟨fun W' => by
              have h := StrR.conv_run W' S
              have hc := StrR.conv_cap W' L
              have hC := StrR.conv_C W' L HL1.out.2.2 (by have := HL1.out.2.1; omega)
              rw [← hS] at hc hC
              have e : S.size = L.length := by rw [hS, strOfNums_size]
              rw [e] at h hc
              exact ⟨_, h, hc, hC, StrR.conv_below W' S⟩⟩
            have HCV2 : Aside0 (∀ W', ∃ cap, (convert 9 26 (.string (S ++ ⟨#[10]⟩))).run Try.prog W' = .ok (.slice (some ⟨W'.heap.size, 0, none⟩) L2.length cap) (Lib.bytesWorld W' 5 (S ++ ⟨#[10]⟩)) ∧ (Kd.int .u8).C (Lib.bytesWorld W' 5 (S ++ ⟨#[10]⟩)) (some ⟨W'.heap.size, 0, none⟩) L2.length L2 ∧ Below W'.heap.size W' (Lib.bytesWorld W' 5 (S ++ ⟨#[10]⟩))) := ⟨fun W' => by
              have h := StrR.conv_run W' (strOfNums L2)
              have hC := StrR.conv_C W' L2 HIN2.out.1 (by have := HIN2.out.2; omega)
              rw [strOfNums_size] at h
              rw [HS2.out]
              exact ⟨_, h, hC, StrR.conv_below W' _⟩⟩
            obtain ⟨cap3, hcv1, hcp, hCL, hbl⟩ := HCV.out wz
            have HLINE := Aside0.mk (LinW.line.calls (some ⟨wz.heap.size, 0, none⟩) cap3 L _ hCL HL1.out.2.2 hcp)
            rw [hline] at HLINE
            have HBL := Aside0.mk hbl
            obtain ⟨w1, hw1⟩ : ∃ w1, w1 = Lib.bytesWorld wz 5 S := ⟨_, rfl⟩
            rw [← hw1] at hcv1 HLINE HBL
            clear hac haC hline hbody hn10 e10 hl2 hL2 hin2 hS hS2 hcp hCL hbl hL hws hw1 hpl
            go_upto_region 17 with (go_at_call 9; refine HLINE.out.mono ?_; rintro e w2 ⟨vl, Ol, rfl, k1, k2, k3, k4⟩; obtain ⟨Al, cl, rfl⟩ := k1.slice; have K1 := Aside0.mk k1; have K4 := Aside0.mk k4; clear k1 k2 k3 k4)
            clear hcv1
            have hck := LAt.C BtR.fit rfl BtR.K K1.out
            have HEQ : Aside0 (Calls Try.prog 11 #[.slice Al ws.length cl, .slice Aa ws.length ca] w2 fun e w' => e = .returned (.bool true) ∧ Drawn0 w2 w') := ⟨by
              have := IsG.listsG.calls hck.2.2 hck.2.1 (HAC.out.2 w2 (below_next HBL.out K4.out)) HAC.out.1 (by have := HLEN.out.1; omega) (by have := HLEN.out.1; omega) (fun x hx => by have := HLEN.out.2 x hx; omega)
              rw [decide_eq_true rfl] at this
              exact this⟩
            clear hck
            go_upto_region 19 with (first | (go_at_call 10; refine (num.calls _ _).mono ?_; rintro e w6 ⟨rfl, rfl⟩) | (go_at_call 11; refine HEQ.out.mono ?_; rintro e w3 ⟨rfl, hd3⟩; have HD3 := Aside0.mk hd3.below; clear hd3))
            rename World => w3
            go_upto_region 22 with (go_at_call 12; refine (new.calls _).mono ?_; rintro e w4 ⟨rfl, k1, k2⟩; have N1 := Aside0.mk k1; have N2 := Aside0.mk k2; clear k1 k2)
            rename World => w4
            obtain ⟨cap4, hcv2, hC2, hb5⟩ := HCV2.out w4
            have HB5 := Aside0.mk hb5
            have HF : Aside0 (Calls Try.prog 13 #[ptr w3.heap.size, .slice (some ⟨w4.heap.size, 0, none⟩) L2.length cap4] (Lib.bytesWorld w4 5 (S ++ ⟨#[10]⟩)) fun e w' => ∃ vt, e = .returned (.tuple #[vt, .int .i64 (ParS.run ParS.new L2).broken]) ∧ FQ (Lib.bytesWorld w4 5 (S ++ ⟨#[10]⟩)) w' (PO w3.heap.size (fun _ => 0) (fun _ => 0) (fun _ => 0)) w3.heap.size (ParS.feed ParS.new L2) vt (ParS.run ParS.new L2).out) := ⟨by
              have hp := N1.out.upd (S := fun _ => False) (Upd.of_below hb5) (fun _ _ hf => hf)
              exact feed.calls hp ParS.inv_new (fun x hx => by cases hx) rfl (Int.le_refl 0) (some ⟨w4.heap.size, 0, none⟩) cap4 L2 hC2 HIN2.out.1 (fun ad e => by
                obtain rfl := Option.some.inj e
                refine ⟨?_, ?_⟩
                · have h1 := N1.out.lt (a := w3.heap.size) (by unfold PO; rw [if_pos rfl]; omega)
                  unfold PO
                  rw [if_neg (by show ¬ w4.heap.size = w3.heap.size; omega)]
                  rfl
                · show w4.heap.size < _
                  rw [Lib.bytesWorld_size]
                  omega) (by have := HIN2.out.2; omega) (by decide)⟩
            rw [HBODY.out.1, HBODY.out.2] at HF
            obtain ⟨w5, hw5⟩ : ∃ w5, w5 = Lib.bytesWorld w4 5 (S ++ ⟨#[10]⟩) := ⟨_, rfl⟩
            rw [← hw5] at hcv2 HF HB5
            clear hC2 hb5 hw5
            go_upto_region 23 with (go_at_call 13; refine HF.out.mono ?_; rintro e w7 ⟨vt, rfl, va1, vc1, vx1, Oa1, Oc1, Oo1, Ott, m1, m2, m3, m4, m5⟩; have M2 := Aside0.mk m2; have M5 := Aside0.mk m5; clear m1 m2 m3 m4 m5)
            clear hcv2
            obtain ⟨gm, cm, ym, Ox, e1, e2, e3, _⟩ := LAt.get RwR.fit M2.out (i := 0) (x := ws) rfl
            replace e1 : _ = Value.slice (some ⟨gm, 0, none⟩) 1 cm := e1
            subst e1
            obtain ⟨Ax, cx, rfl⟩ := e3.slice
            have hck := LAt.C BtR.fit rfl BtR.K e3
            have HBW7 : Aside0 (Below wz.heap.size wz w7) := ⟨by
              have h1 := below_next (below_next (below_next (below_next HBL.out K4.out) HD3.out) N2.out) HB5.out
              refine Upd.to_below h1 M5.out h1.size (fun a ha => ?_)
              have h0 := (below_next (below_next HBL.out K4.out) HD3.out).size
              unfold PO at ha
              by_cases he : a = w3.heap.size
              · omega
              · rw [if_neg he] at ha
                exact absurd rfl ha⟩
            have HEQ2 : Aside0 (Calls Try.prog 11 #[.slice Ax ws.length cx, .slice Aa ws.length ca] w7 fun e w' => e = .returned (.bool true) ∧ Drawn0 w7 w') := ⟨by
              have := IsG.listsG.calls hck.2.2 hck.2.1 (HAC.out.2 w7 HBW7.out) HAC.out.1 (by have := HLEN.out.1; omega) (by have := HLEN.out.1; omega) (fun x hx => by have := HLEN.out.2 x hx; omega)
              rw [decide_eq_true rfl] at this
              exact this⟩
            clear hck e3
            go_wp2_with (first | (go_at_call 10; refine (num.calls _ _).mono ?_; rintro e w6 ⟨rfl, rfl⟩) | (go_at_call 11; refine HEQ2.out.mono ?_; rintro e w8 ⟨rfl, hd8⟩; have HD8 := Aside0.mk hd8.below; clear hd8))
            go_ret
            exact ⟨rfl, below_next (below_next HBW.out HBW7.out) HD8.out⟩
          · have hov2 : ¬ (1024 : Int) < (S.size : Int) + (R.size : Int) + 1 := by omega
            have hR9 : R.size ≤ 1024 := by omega
            have HOV : Aside0 (S.size + R.size + 1 ≤ 1024) := ⟨by omega⟩
            clear hov hSs hRs hS24
            go_wp2_with ((with_reducible refine gate_builtin (b := .append) (xs := #[.tmp 63, .tmp 65]) rfl ?_); at_builtin; refine wpList_gen2 _ rfl (.tmp 63) (.tmp 65) 22 26 rfl Try.underlying22 (.slice none 0 0) 24 (by kernel_rfl) rfl (by decide) va vals rfl ?hv ⟨wz.heap.size, 0, none⟩ (.slice Ax a.length cx) rfl ?hc rfl ?hb ?_; (case hv => exact HTZ.out.gv.upd (S := none_) (Upd.of_below (below_alloc (Below.refl _ _) _)) (fun _ _ h => h)); (case hc => exact cell_one_new _ _ _ 0 _ rfl); (case hb => have := HPS.out.2.2; rw [HTZ.out.len]; omega); intro v5 w5 hr5; have HT5 := Aside0.mk (HTZ.out.grow (below_alloc (Below.refl _ _) _) hr5 (p := (r, a)) HRLA.out HTYA.out HA.out.2.1); clear hr5)
            have hm := HM.out
            have hnew : Aside0 (S ++ ⟨#[32]⟩ ++ R = strOfNums (lineT (ps ++ [(r, a)])) ∧ (lineT (ps ++ [(r, a)])).length ≤ 1024 ∧ (ps ++ [(r, a)]).length ≤ 127) := ⟨by
              refine ⟨?_, ?_, by rw [List.length_append, List.length_singleton]; omega⟩
              · rw [lineT_snoc, HPS.out.1, HRE.out, show (⟨#[32]⟩ : ByteArray) = strOfNums [32] from rfl, StrR.str_append, StrR.str_append, List.append_assoc]
                rfl
              · rw [lineT_snoc, List.length_append, List.length_cons]
                dsimp only
                have h1 := HSS.out
                have h2 := HOV.out
                omega⟩
            have hlen5 : Value.int .i64 ((ps.length : Int) + 1) = .int .i64 (((ps ++ [(r, a)]).length : Nat) : Int) := by rw [List.length_append, List.length_singleton]; rfl
            refine ⟨?_, FinA.meas 127 _ _ (Int.natCast_nonneg ps.length) (by omega) (by first | rfl | omega)⟩
            first
              | exact ⟨_, _, _, ⟨_, rfl, _, ps ++ [(r, a)], rfl, hnew, HT5⟩, rfl, rfl, hlen5⟩
              | exact ⟨_, _, _, ps ++ [(r, a)], rfl, rfl, hlen5, hnew, HT5⟩
              | ((repeat apply Exists.intro); exact ⟨⟨_, _, _, ps ++ [(r, a)], rfl, rfl, hlen5, hnew, HT5⟩, rfl⟩)
      · have hlt3 : ¬ (ps.length : Int) < (Style.length : Int) := by omega
        clear hst
        go_upto_region 10 with fail
        clear hq0 hq1 hlt1 hlt3 hlt0
        by_cases h240 : 240 < x.length
        · have hal : a.length = 240 := by rw [HA.out.1, List.length_take]; omega
          have HTYP : Aside0 (Calls Try.prog 8 #[.slice Ax a.length cx, .int .i64 (0)] wr fun e w' => e = .returned (.string (strOfNums (typL a (0)))) ∧ Below wr.heap.size wr w') := ⟨TypW.typed.calls Ax cx a wr HCA.out (by have := HXC.out; omega) HA.out.2.1 HA.out.2.2 (0) (by decide)⟩
          rw [hal] at HTYP
          have HRLA : Aside0 (Rl Wb (.slice Ax 240 cx) a) := ⟨Ax, cx, by rw [hal], by have := HXC.out; omega, HCB.out⟩
          have h240i : (240 : Int) < (x.length : Int) := by omega
          have hcx9 : (240 : Int) ≤ (cx : Int) := by have := HXC.out; omega
          clear h240 hal
          go_upto_region 13 with (go_at_call 8; refine HTYP.out.mono ?_; rintro e wz ⟨rfl, hb3⟩; have HB3 := Aside0.mk hb3; clear hb3)
          clear h240i hcx9
          have HTZ := Aside0.mk (HTI.out.below HB3.out)
          have hty : Ty (typL a 0) a := typ_ok HA.out.2.2 0
          have HTYA := Aside0.mk hty
          have HLEN9 : Aside0 ((typL a 0).length ≤ 1000) := ⟨by have := typ_len a (0); have := HA.out.2.1; omega⟩
          obtain ⟨r, hr⟩ : ∃ r, r = typL a 0 := ⟨_, rfl⟩
          rw [← hr] at HTYA HLEN9
          rw [← hr]
          have hRs := strOfNums_size r
          obtain ⟨R, hR⟩ : ∃ R, R = strOfNums r := ⟨_, rfl⟩
          rw [← hR] at hRs
          rw [← hR]
          have HRE := Aside0.mk hR
          have hSs : S.size = (lineT ps).length := by rw [HPS.out.1, strOfNums_size]
          have hS24 := HPS.out.2.1
          have HSS := Aside0.mk (And.intro hSs hRs)
          have hs9 : S.size ≤ 1024 := by omega
          clear hr hR hty
          by_cases hov : 1024 < S.size + R.size + 1
          · have hov2 : (1024 : Int) < (S.size : Int) + (R.size : Int) + 1 := by omega
            have hR9 : R.size ≤ 100000 := by have := HLEN9.out; omega
            clear hov hSs hRs hS24
            go_upto_region 16 with fail
            clear hov2 hs9 hR9
            obtain ⟨Aa, ca, ea, hac, haC⟩ := HTZ.out.C
            subst ea
            have hpl : ps.length ≤ 127 := HPS.out.2.2
            have hline := line_line HTZ.out.ty HPS.out.2.1 hpl
            have hn10 := line_no10 HTZ.out.ty
            have e10 : lineT ps = 83 :: ([69, 84] ++ ps.flatMap (fun x => 32 :: x.1)) := rfl
            rw [e10] at hn10
            have hbody := run_new_line (c := 83) (b := [69, 84] ++ ps.flatMap (fun x => 32 :: x.1)) (ws := setL :: ps.map Prod.snd) (by decide) hn10 (by rw [← e10]; exact HPS.out.2.1) (by rw [← e10]; exact hline) (List.cons_ne_nil _ _)
            have HAC := Aside0.mk (And.intro hac haC)
            have HLEN : Aside0 ((setL :: ps.map Prod.snd).length ≤ 128 ∧ ∀ x ∈ setL :: ps.map Prod.snd, x.length ≤ 240) := ⟨by rw [List.length_cons, List.length_map]; omega, fun x hx => by
              rcases List.mem_cons.1 hx with rfl | hx
              · decide
              · obtain ⟨q, hq, rfl⟩ := List.mem_map.1 hx
                exact HTZ.out.sh q hq⟩
            obtain ⟨ws, hws⟩ : ∃ ws, ws = setL :: ps.map Prod.snd := ⟨_, rfl⟩
            rw [← hws] at hline hbody HAC HLEN
            rw [← hws]
            obtain ⟨L, hL⟩ : ∃ L, L = lineT ps := ⟨_, rfl⟩
            have hbody : (ParS.run ParS.new (L ++ [10])).out = [ws] ∧ (ParS.run ParS.new (L ++ [10])).broken = 0 := by rw [hL]; exact hbody
            have HL1 : Aside0 (S = strOfNums L ∧ L.length ≤ 1024 ∧ inB L) := ⟨by rw [hL]; exact ⟨HPS.out.1, HPS.out.2.1, line_in HTZ.out.ty⟩⟩
            rw [← hL] at hline
            have hl2 : (L ++ [10]).length ≤ 1025 := by have := HL1.out.2.1; rw [List.length_append, List.length_singleton]; omega
            have hin2 : inB (L ++ [10]) := fun x hx => by
              rcases List.mem_append.1 hx with hx | hx
              · exact HL1.out.2.2 x hx
              · rw [List.mem_singleton.1 hx]; decide
            have hS := HL1.out.1
            have hS2 : S ++ ⟨#[10]⟩ = strOfNums (L ++ [10]) := by rw [hS, show (⟨#[10]⟩ : ByteArray) = strOfNums [10] from rfl, StrR.str_append]
            obtain ⟨L2, hL2⟩ : ∃ L2, L2 = L ++ [10] := ⟨_, rfl⟩
            rw [← hL2] at hbody hin2 hS2 hl2
            have HBODY := Aside0.mk hbody
            have HIN2 := Aside0.mk (And.intro hin2 hl2)
            have HS2 := Aside0.mk hS2
            have hsz : S.size ≤ 1024 := by rw [hS, strOfNums_size]; exact HL1.out.2.1
            have HBW : Aside0 (Below W.heap.size W wz) := ⟨by
              have h1 : Below W.heap.size W Wb := HWB.out.1
              exact below_next h1 (HTZ.out.bel)⟩
            have HCV : Aside0 (∀ W', ∃ cap, (convert 9 26 (.string S)).run Try.prog W' = .ok (.slice (some ⟨W'.heap.size, 0, none⟩) L.length cap) (Lib.bytesWorld W' 5 S) ∧ L.length ≤ cap ∧ (Kd.int .u8).C (Lib.bytesWorld W' 5 S) (some ⟨W'.heap.size, 0, none⟩) L.length L ∧ Below W'.heap.size W' (Lib.bytesWorld W' 5 S)) := ⟨fun W' => by
              have h := StrR.conv_run W' S
              have hc := StrR.conv_cap W' L
              have hC := StrR.conv_C W' L HL1.out.2.2 (by have := HL1.out.2.1; omega)
              rw [← hS] at hc hC
              have e : S.size = L.length := by rw [hS, strOfNums_size]
              rw [e] at h hc
              exact ⟨_, h, hc, hC, StrR.conv_below W' S⟩⟩
            have HCV2 : Aside0 (∀ W', ∃ cap, (convert 9 26 (.string (S ++ ⟨#[10]⟩))).run Try.prog W' = .ok (.slice (some ⟨W'.heap.size, 0, none⟩) L2.length cap) (Lib.bytesWorld W' 5 (S ++ ⟨#[10]⟩)) ∧ (Kd.int .u8).C (Lib.bytesWorld W' 5 (S ++ ⟨#[10]⟩)) (some ⟨W'.heap.size, 0, none⟩) L2.length L2 ∧ Below W'.heap.size W' (Lib.bytesWorld W' 5 (S ++ ⟨#[10]⟩))) := ⟨fun W' => by
              have h := StrR.conv_run W' (strOfNums L2)
              have hC := StrR.conv_C W' L2 HIN2.out.1 (by have := HIN2.out.2; omega)
              rw [strOfNums_size] at h
              rw [HS2.out]
              exact ⟨_, h, hC, StrR.conv_below W' _⟩⟩
            obtain ⟨cap3, hcv1, hcp, hCL, hbl⟩ := HCV.out wz
            have HLINE := Aside0.mk (LinW.line.calls (some ⟨wz.heap.size, 0, none⟩) cap3 L _ hCL HL1.out.2.2 hcp)
            rw [hline] at HLINE
            have HBL := Aside0.mk hbl
            obtain ⟨w1, hw1⟩ : ∃ w1, w1 = Lib.bytesWorld wz 5 S := ⟨_, rfl⟩
            rw [← hw1] at hcv1 HLINE HBL
            clear hac haC hline hbody hn10 e10 hl2 hL2 hin2 hS hS2 hcp hCL hbl hL hws hw1 hpl
            go_upto_region 17 with (go_at_call 9; refine HLINE.out.mono ?_; rintro e w2 ⟨vl, Ol, rfl, k1, k2, k3, k4⟩; obtain ⟨Al, cl, rfl⟩ := k1.slice; have K1 := Aside0.mk k1; have K4 := Aside0.mk k4; clear k1 k2 k3 k4)
            clear hcv1
            have hck := LAt.C BtR.fit rfl BtR.K K1.out
            have HEQ : Aside0 (Calls Try.prog 11 #[.slice Al ws.length cl, .slice Aa ws.length ca] w2 fun e w' => e = .returned (.bool true) ∧ Drawn0 w2 w') := ⟨by
              have := IsG.listsG.calls hck.2.2 hck.2.1 (HAC.out.2 w2 (below_next HBL.out K4.out)) HAC.out.1 (by have := HLEN.out.1; omega) (by have := HLEN.out.1; omega) (fun x hx => by have := HLEN.out.2 x hx; omega)
              rw [decide_eq_true rfl] at this
              exact this⟩
            clear hck
            go_upto_region 19 with (first | (go_at_call 10; refine (num.calls _ _).mono ?_; rintro e w6 ⟨rfl, rfl⟩) | (go_at_call 11; refine HEQ.out.mono ?_; rintro e w3 ⟨rfl, hd3⟩; have HD3 := Aside0.mk hd3.below; clear hd3))
            rename World => w3
            go_upto_region 22 with (go_at_call 12; refine (new.calls _).mono ?_; rintro e w4 ⟨rfl, k1, k2⟩; have N1 := Aside0.mk k1; have N2 := Aside0.mk k2; clear k1 k2)
            rename World => w4
            obtain ⟨cap4, hcv2, hC2, hb5⟩ := HCV2.out w4
            have HB5 := Aside0.mk hb5
            have HF : Aside0 (Calls Try.prog 13 #[ptr w3.heap.size, .slice (some ⟨w4.heap.size, 0, none⟩) L2.length cap4] (Lib.bytesWorld w4 5 (S ++ ⟨#[10]⟩)) fun e w' => ∃ vt, e = .returned (.tuple #[vt, .int .i64 (ParS.run ParS.new L2).broken]) ∧ FQ (Lib.bytesWorld w4 5 (S ++ ⟨#[10]⟩)) w' (PO w3.heap.size (fun _ => 0) (fun _ => 0) (fun _ => 0)) w3.heap.size (ParS.feed ParS.new L2) vt (ParS.run ParS.new L2).out) := ⟨by
              have hp := N1.out.upd (S := fun _ => False) (Upd.of_below hb5) (fun _ _ hf => hf)
              exact feed.calls hp ParS.inv_new (fun x hx => by cases hx) rfl (Int.le_refl 0) (some ⟨w4.heap.size, 0, none⟩) cap4 L2 hC2 HIN2.out.1 (fun ad e => by
                obtain rfl := Option.some.inj e
                refine ⟨?_, ?_⟩
                · have h1 := N1.out.lt (a := w3.heap.size) (by unfold PO; rw [if_pos rfl]; omega)
                  unfold PO
                  rw [if_neg (by show ¬ w4.heap.size = w3.heap.size; omega)]
                  rfl
                · show w4.heap.size < _
                  rw [Lib.bytesWorld_size]
                  omega) (by have := HIN2.out.2; omega) (by decide)⟩
            rw [HBODY.out.1, HBODY.out.2] at HF
            obtain ⟨w5, hw5⟩ : ∃ w5, w5 = Lib.bytesWorld w4 5 (S ++ ⟨#[10]⟩) := ⟨_, rfl⟩
            rw [← hw5] at hcv2 HF HB5
            clear hC2 hb5 hw5
            go_upto_region 23 with (go_at_call 13; refine HF.out.mono ?_; rintro e w7 ⟨vt, rfl, va1, vc1, vx1, Oa1, Oc1, Oo1, Ott, m1, m2, m3, m4, m5⟩; have M2 := Aside0.mk m2; have M5 := Aside0.mk m5; clear m1 m2 m3 m4 m5)
            clear hcv2
            obtain ⟨gm, cm, ym, Ox, e1, e2, e3, _⟩ := LAt.get RwR.fit M2.out (i := 0) (x := ws) rfl
            replace e1 : _ = Value.slice (some ⟨gm, 0, none⟩) 1 cm := e1
            subst e1
            obtain ⟨Ax, cx, rfl⟩ := e3.slice
            have hck := LAt.C BtR.fit rfl BtR.K e3
            have HBW7 : Aside0 (Below wz.heap.size wz w7) := ⟨by
              have h1 := below_next (below_next (below_next (below_next HBL.out K4.out) HD3.out) N2.out) HB5.out
              refine Upd.to_below h1 M5.out h1.size (fun a ha => ?_)
              have h0 := (below_next (below_next HBL.out K4.out) HD3.out).size
              unfold PO at ha
              by_cases he : a = w3.heap.size
              · omega
              · rw [if_neg he] at ha
                exact absurd rfl ha⟩
            have HEQ2 : Aside0 (Calls Try.prog 11 #[.slice Ax ws.length cx, .slice Aa ws.length ca] w7 fun e w' => e = .returned (.bool true) ∧ Drawn0 w7 w') := ⟨by
              have := IsG.listsG.calls hck.2.2 hck.2.1 (HAC.out.2 w7 HBW7.out) HAC.out.1 (by have := HLEN.out.1; omega) (by have := HLEN.out.1; omega) (fun x hx => by have := HLEN.out.2 x hx; omega)
              rw [decide_eq_true rfl] at this
              exact this⟩
            clear hck e3
            go_wp2_with (first | (go_at_call 10; refine (num.calls _ _).mono ?_; rintro e w6 ⟨rfl, rfl⟩) | (go_at_call 11; refine HEQ2.out.mono ?_; rintro e w8 ⟨rfl, hd8⟩; have HD8 := Aside0.mk hd8.below; clear hd8))
            go_ret
            exact ⟨rfl, below_next (below_next HBW.out HBW7.out) HD8.out⟩
          · have hov2 : ¬ (1024 : Int) < (S.size : Int) + (R.size : Int) + 1 := by omega
            have hR9 : R.size ≤ 1024 := by omega
            have HOV : Aside0 (S.size + R.size + 1 ≤ 1024) := ⟨by omega⟩
            clear hov hSs hRs hS24
            go_wp2_with ((with_reducible refine gate_builtin (b := .append) (xs := #[.tmp 63, .tmp 65]) rfl ?_); at_builtin; refine wpList_gen2 _ rfl (.tmp 63) (.tmp 65) 22 26 rfl Try.underlying22 (.slice none 0 0) 24 (by kernel_rfl) rfl (by decide) va vals rfl ?hv ⟨wz.heap.size, 0, none⟩ (.slice Ax 240 cx) rfl ?hc rfl ?hb ?_; (case hv => exact HTZ.out.gv.upd (S := none_) (Upd.of_below (below_alloc (Below.refl _ _) _)) (fun _ _ h => h)); (case hc => exact cell_one_new _ _ _ 0 _ rfl); (case hb => have := HPS.out.2.2; rw [HTZ.out.len]; omega); intro v5 w5 hr5; have HT5 := Aside0.mk (HTZ.out.grow (below_alloc (Below.refl _ _) _) hr5 (p := (r, a)) HRLA.out HTYA.out HA.out.2.1); clear hr5)
            have hm := HM.out
            have hnew : Aside0 (S ++ ⟨#[32]⟩ ++ R = strOfNums (lineT (ps ++ [(r, a)])) ∧ (lineT (ps ++ [(r, a)])).length ≤ 1024 ∧ (ps ++ [(r, a)]).length ≤ 127) := ⟨by
              refine ⟨?_, ?_, by rw [List.length_append, List.length_singleton]; omega⟩
              · rw [lineT_snoc, HPS.out.1, HRE.out, show (⟨#[32]⟩ : ByteArray) = strOfNums [32] from rfl, StrR.str_append, StrR.str_append, List.append_assoc]
                rfl
              · rw [lineT_snoc, List.length_append, List.length_cons]
                dsimp only
                have h1 := HSS.out
                have h2 := HOV.out
                omega⟩
            have hlen5 : Value.int .i64 ((ps.length : Int) + 1) = .int .i64 (((ps ++ [(r, a)]).length : Nat) : Int) := by rw [List.length_append, List.length_singleton]; rfl
            refine ⟨?_, FinA.meas 127 _ _ (Int.natCast_nonneg ps.length) (by omega) (by first | rfl | omega)⟩
            first
              | exact ⟨_, _, _, ⟨_, rfl, _, ps ++ [(r, a)], rfl, hnew, HT5⟩, rfl, rfl, hlen5⟩
              | exact ⟨_, _, _, ps ++ [(r, a)], rfl, rfl, hlen5, hnew, HT5⟩
              | ((repeat apply Exists.intro); exact ⟨⟨_, _, _, ps ++ [(r, a)], rfl, rfl, hlen5, hnew, HT5⟩, rfl⟩)
        · have hax : a = x := by rw [HA.out.1, List.take_of_length_le (by omega)]
          have HTYP : Aside0 (Calls Try.prog 8 #[.slice Ax a.length cx, .int .i64 (0)] wr fun e w' => e = .returned (.string (strOfNums (typL a (0)))) ∧ Below wr.heap.size wr w') := ⟨TypW.typed.calls Ax cx a wr HCA.out (by have := HXC.out; omega) HA.out.2.1 HA.out.2.2 (0) (by decide)⟩
          have HRLA : Aside0 (Rl Wb (.slice Ax a.length cx) a) := ⟨Ax, cx, rfl, by have := HXC.out; omega, HCB.out⟩
          have h240i : ¬ (240 : Int) < (x.length : Int) := by omega
          rw [← hax] at h240i hcxa
          rw [← hax]
          clear h240 hax
          go_upto_region 13 with (go_at_call 8; refine HTYP.out.mono ?_; rintro e wz ⟨rfl, hb3⟩; have HB3 := Aside0.mk hb3; clear hb3)
          clear h240i
          have HTZ := Aside0.mk (HTI.out.below HB3.out)
          have hty : Ty (typL a 0) a := typ_ok HA.out.2.2 0
          have HTYA := Aside0.mk hty
          have HLEN9 : Aside0 ((typL a 0).length ≤ 1000) := ⟨by have := typ_len a (0); have := HA.out.2.1; omega⟩
          obtain ⟨r, hr⟩ : ∃ r, r = typL a 0 := ⟨_, rfl⟩
          rw [← hr] at HTYA HLEN9
          rw [← hr]
          have hRs := strOfNums_size r
          obtain ⟨R, hR⟩ : ∃ R, R = strOfNums r := ⟨_, rfl⟩
          rw [← hR] at hRs
          rw [← hR]
          have HRE := Aside0.mk hR
          have hSs : S.size = (lineT ps).length := by rw [HPS.out.1, strOfNums_size]
          have hS24 := HPS.out.2.1
          have HSS := Aside0.mk (And.intro hSs hRs)
          have hs9 : S.size ≤ 1024 := by omega
          clear hr hR hty
          by_cases hov : 1024 < S.size + R.size + 1
          · have hov2 : (1024 : Int) < (S.size : Int) + (R.size : Int) + 1 := by omega
            have hR9 : R.size ≤ 100000 := by have := HLEN9.out; omega
            clear hov hSs hRs hS24
            go_upto_region 16 with fail
            clear hov2 hs9 hR9
            obtain ⟨Aa, ca, ea, hac, haC⟩ := HTZ.out.C
            subst ea
            have hpl : ps.length ≤ 127 := HPS.out.2.2
            have hline := line_line HTZ.out.ty HPS.out.2.1 hpl
            have hn10 := line_no10 HTZ.out.ty
            have e10 : lineT ps = 83 :: ([69, 84] ++ ps.flatMap (fun x => 32 :: x.1)) := rfl
            rw [e10] at hn10
            have hbody := run_new_line (c := 83) (b := [69, 84] ++ ps.flatMap (fun x => 32 :: x.1)) (ws := setL :: ps.map Prod.snd) (by decide) hn10 (by rw [← e10]; exact HPS.out.2.1) (by rw [← e10]; exact hline) (List.cons_ne_nil _ _)
            have HAC := Aside0.mk (And.intro hac haC)
            have HLEN : Aside0 ((setL :: ps.map Prod.snd).length ≤ 128 ∧ ∀ x ∈ setL :: ps.map Prod.snd, x.length ≤ 240) := ⟨by rw [List.length_cons, List.length_map]; omega, fun x hx => by
              rcases List.mem_cons.1 hx with rfl | hx
              · decide
              · obtain ⟨q, hq, rfl⟩ := List.mem_map.1 hx
                exact HTZ.out.sh q hq⟩
            obtain ⟨ws, hws⟩ : ∃ ws, ws = setL :: ps.map Prod.snd := ⟨_, rfl⟩
            rw [← hws] at hline hbody HAC HLEN
            rw [← hws]
            obtain ⟨L, hL⟩ : ∃ L, L = lineT ps := ⟨_, rfl⟩
            have hbody : (ParS.run ParS.new (L ++ [10])).out = [ws] ∧ (ParS.run ParS.new (L ++ [10])).broken = 0 := by rw [hL]; exact hbody
            have HL1 : Aside0 (S = strOfNums L ∧ L.length ≤ 1024 ∧ inB L) := ⟨by rw [hL]; exact ⟨HPS.out.1, HPS.out.2.1, line_in HTZ.out.ty⟩⟩
            rw [← hL] at hline
            have hl2 : (L ++ [10]).length ≤ 1025 := by have := HL1.out.2.1; rw [List.length_append, List.length_singleton]; omega
            have hin2 : inB (L ++ [10]) := fun x hx => by
              rcases List.mem_append.1 hx with hx | hx
              · exact HL1.out.2.2 x hx
              · rw [List.mem_singleton.1 hx]; decide
            have hS := HL1.out.1
            have hS2 : S ++ ⟨#[10]⟩ = strOfNums (L ++ [10]) := by rw [hS, show (⟨#[10]⟩ : ByteArray) = strOfNums [10] from rfl, StrR.str_append]
            obtain ⟨L2, hL2⟩ : ∃ L2, L2 = L ++ [10] := ⟨_, rfl⟩
            rw [← hL2] at hbody hin2 hS2 hl2
            have HBODY := Aside0.mk hbody
            have HIN2 := Aside0.mk (And.intro hin2 hl2)
            have HS2 := Aside0.mk hS2
            have hsz : S.size ≤ 1024 := by rw [hS, strOfNums_size]; exact HL1.out.2.1
            have HBW : Aside0 (Below W.heap.size W wz) := ⟨by
              have h1 : Below W.heap.size W Wb := HWB.out.1
              exact below_next h1 (HTZ.out.bel)⟩
            have HCV : Aside0 (∀ W', ∃ cap, (convert 9 26 (.string S)).run Try.prog W' = .ok (.slice (some ⟨W'.heap.size, 0, none⟩) L.length cap) (Lib.bytesWorld W' 5 S) ∧ L.length ≤ cap ∧ (Kd.int .u8).C (Lib.bytesWorld W' 5 S) (some ⟨W'.heap.size, 0, none⟩) L.length L ∧ Below W'.heap.size W' (Lib.bytesWorld W' 5 S)) := ⟨fun W' => by
              have h := StrR.conv_run W' S
              have hc := StrR.conv_cap W' L
              have hC := StrR.conv_C W' L HL1.out.2.2 (by have := HL1.out.2.1; omega)
              rw [← hS] at hc hC
              have e : S.size = L.length := by rw [hS, strOfNums_size]
              rw [e] at h hc
              exact ⟨_, h, hc, hC, StrR.conv_below W' S⟩⟩
            have HCV2 : Aside0 (∀ W', ∃ cap, (convert 9 26 (.string (S ++ ⟨#[10]⟩))).run Try.prog W' = .ok (.slice (some ⟨W'.heap.size, 0, none⟩) L2.length cap) (Lib.bytesWorld W' 5 (S ++ ⟨#[10]⟩)) ∧ (Kd.int .u8).C (Lib.bytesWorld W' 5 (S ++ ⟨#[10]⟩)) (some ⟨W'.heap.size, 0, none⟩) L2.length L2 ∧ Below W'.heap.size W' (Lib.bytesWorld W' 5 (S ++ ⟨#[10]⟩))) := ⟨fun W' => by
              have h := StrR.conv_run W' (strOfNums L2)
              have hC := StrR.conv_C W' L2 HIN2.out.1 (by have := HIN2.out.2; omega)
              rw [strOfNums_size] at h
              rw [HS2.out]
              exact ⟨_, h, hC, StrR.conv_below W' _⟩⟩
            obtain ⟨cap3, hcv1, hcp, hCL, hbl⟩ := HCV.out wz
            have HLINE := Aside0.mk (LinW.line.calls (some ⟨wz.heap.size, 0, none⟩) cap3 L _ hCL HL1.out.2.2 hcp)
            rw [hline] at HLINE
            have HBL := Aside0.mk hbl
            obtain ⟨w1, hw1⟩ : ∃ w1, w1 = Lib.bytesWorld wz 5 S := ⟨_, rfl⟩
            rw [← hw1] at hcv1 HLINE HBL
            clear hac haC hline hbody hn10 e10 hl2 hL2 hin2 hS hS2 hcp hCL hbl hL hws hw1 hpl
            go_upto_region 17 with (go_at_call 9; refine HLINE.out.mono ?_; rintro e w2 ⟨vl, Ol, rfl, k1, k2, k3, k4⟩; obtain ⟨Al, cl, rfl⟩ := k1.slice; have K1 := Aside0.mk k1; have K4 := Aside0.mk k4; clear k1 k2 k3 k4)
            clear hcv1
            have hck := LAt.C BtR.fit rfl BtR.K K1.out
            have HEQ : Aside0 (Calls Try.prog 11 #[.slice Al ws.length cl, .slice Aa ws.length ca] w2 fun e w' => e = .returned (.bool true) ∧ Drawn0 w2 w') := ⟨by
              have := IsG.listsG.calls hck.2.2 hck.2.1 (HAC.out.2 w2 (below_next HBL.out K4.out)) HAC.out.1 (by have := HLEN.out.1; omega) (by have := HLEN.out.1; omega) (fun x hx => by have := HLEN.out.2 x hx; omega)
              rw [decide_eq_true rfl] at this
              exact this⟩
            clear hck
            go_upto_region 19 with (first | (go_at_call 10; refine (num.calls _ _).mono ?_; rintro e w6 ⟨rfl, rfl⟩) | (go_at_call 11; refine HEQ.out.mono ?_; rintro e w3 ⟨rfl, hd3⟩; have HD3 := Aside0.mk hd3.below; clear hd3))
            rename World => w3
            go_upto_region 22 with (go_at_call 12; refine (new.calls _).mono ?_; rintro e w4 ⟨rfl, k1, k2⟩; have N1 := Aside0.mk k1; have N2 := Aside0.mk k2; clear k1 k2)
            rename World => w4
            obtain ⟨cap4, hcv2, hC2, hb5⟩ := HCV2.out w4
            have HB5 := Aside0.mk hb5
            have HF : Aside0 (Calls Try.prog 13 #[ptr w3.heap.size, .slice (some ⟨w4.heap.size, 0, none⟩) L2.length cap4] (Lib.bytesWorld w4 5 (S ++ ⟨#[10]⟩)) fun e w' => ∃ vt, e = .returned (.tuple #[vt, .int .i64 (ParS.run ParS.new L2).broken]) ∧ FQ (Lib.bytesWorld w4 5 (S ++ ⟨#[10]⟩)) w' (PO w3.heap.size (fun _ => 0) (fun _ => 0) (fun _ => 0)) w3.heap.size (ParS.feed ParS.new L2) vt (ParS.run ParS.new L2).out) := ⟨by
              have hp := N1.out.upd (S := fun _ => False) (Upd.of_below hb5) (fun _ _ hf => hf)
              exact feed.calls hp ParS.inv_new (fun x hx => by cases hx) rfl (Int.le_refl 0) (some ⟨w4.heap.size, 0, none⟩) cap4 L2 hC2 HIN2.out.1 (fun ad e => by
                obtain rfl := Option.some.inj e
                refine ⟨?_, ?_⟩
                · have h1 := N1.out.lt (a := w3.heap.size) (by unfold PO; rw [if_pos rfl]; omega)
                  unfold PO
                  rw [if_neg (by show ¬ w4.heap.size = w3.heap.size; omega)]
                  rfl
                · show w4.heap.size < _
                  rw [Lib.bytesWorld_size]
                  omega) (by have := HIN2.out.2; omega) (by decide)⟩
            rw [HBODY.out.1, HBODY.out.2] at HF
            obtain ⟨w5, hw5⟩ : ∃ w5, w5 = Lib.bytesWorld w4 5 (S ++ ⟨#[10]⟩) := ⟨_, rfl⟩
            rw [← hw5] at hcv2 HF HB5
            clear hC2 hb5 hw5
            go_upto_region 23 with (go_at_call 13; refine HF.out.mono ?_; rintro e w7 ⟨vt, rfl, va1, vc1, vx1, Oa1, Oc1, Oo1, Ott, m1, m2, m3, m4, m5⟩; have M2 := Aside0.mk m2; have M5 := Aside0.mk m5; clear m1 m2 m3 m4 m5)
            clear hcv2
            obtain ⟨gm, cm, ym, Ox, e1, e2, e3, _⟩ := LAt.get RwR.fit M2.out (i := 0) (x := ws) rfl
            replace e1 : _ = Value.slice (some ⟨gm, 0, none⟩) 1 cm := e1
            subst e1
            obtain ⟨Ax, cx, rfl⟩ := e3.slice
            have hck := LAt.C BtR.fit rfl BtR.K e3
            have HBW7 : Aside0 (Below wz.heap.size wz w7) := ⟨by
              have h1 := below_next (below_next (below_next (below_next HBL.out K4.out) HD3.out) N2.out) HB5.out
              refine Upd.to_below h1 M5.out h1.size (fun a ha => ?_)
              have h0 := (below_next (below_next HBL.out K4.out) HD3.out).size
              unfold PO at ha
              by_cases he : a = w3.heap.size
              · omega
              · rw [if_neg he] at ha
                exact absurd rfl ha⟩
            have HEQ2 : Aside0 (Calls Try.prog 11 #[.slice Ax ws.length cx, .slice Aa ws.length ca] w7 fun e w' => e = .returned (.bool true) ∧ Drawn0 w7 w') := ⟨by
              have := IsG.listsG.calls hck.2.2 hck.2.1 (HAC.out.2 w7 HBW7.out) HAC.out.1 (by have := HLEN.out.1; omega) (by have := HLEN.out.1; omega) (fun x hx => by have := HLEN.out.2 x hx; omega)
              rw [decide_eq_true rfl] at this
              exact this⟩
            clear hck e3
            go_wp2_with (first | (go_at_call 10; refine (num.calls _ _).mono ?_; rintro e w6 ⟨rfl, rfl⟩) | (go_at_call 11; refine HEQ2.out.mono ?_; rintro e w8 ⟨rfl, hd8⟩; have HD8 := Aside0.mk hd8.below; clear hd8))
            go_ret
            exact ⟨rfl, below_next (below_next HBW.out HBW7.out) HD8.out⟩
          · have hov2 : ¬ (1024 : Int) < (S.size : Int) + (R.size : Int) + 1 := by omega
            have hR9 : R.size ≤ 1024 := by omega
            have HOV : Aside0 (S.size + R.size + 1 ≤ 1024) := ⟨by omega⟩
            clear hov hSs hRs hS24
            go_wp2_with ((with_reducible refine gate_builtin (b := .append) (xs := #[.tmp 63, .tmp 65]) rfl ?_); at_builtin; refine wpList_gen2 _ rfl (.tmp 63) (.tmp 65) 22 26 rfl Try.underlying22 (.slice none 0 0) 24 (by kernel_rfl) rfl (by decide) va vals rfl ?hv ⟨wz.heap.size, 0, none⟩ (.slice Ax a.length cx) rfl ?hc rfl ?hb ?_; (case hv => exact HTZ.out.gv.upd (S := none_) (Upd.of_below (below_alloc (Below.refl _ _) _)) (fun _ _ h => h)); (case hc => exact cell_one_new _ _ _ 0 _ rfl); (case hb => have := HPS.out.2.2; rw [HTZ.out.len]; omega); intro v5 w5 hr5; have HT5 := Aside0.mk (HTZ.out.grow (below_alloc (Below.refl _ _) _) hr5 (p := (r, a)) HRLA.out HTYA.out HA.out.2.1); clear hr5)
            have hm := HM.out
            have hnew : Aside0 (S ++ ⟨#[32]⟩ ++ R = strOfNums (lineT (ps ++ [(r, a)])) ∧ (lineT (ps ++ [(r, a)])).length ≤ 1024 ∧ (ps ++ [(r, a)]).length ≤ 127) := ⟨by
              refine ⟨?_, ?_, by rw [List.length_append, List.length_singleton]; omega⟩
              · rw [lineT_snoc, HPS.out.1, HRE.out, show (⟨#[32]⟩ : ByteArray) = strOfNums [32] from rfl, StrR.str_append, StrR.str_append, List.append_assoc]
                rfl
              · rw [lineT_snoc, List.length_append, List.length_cons]
                dsimp only
                have h1 := HSS.out
                have h2 := HOV.out
                omega⟩
            have hlen5 : Value.int .i64 ((ps.length : Int) + 1) = .int .i64 (((ps ++ [(r, a)]).length : Nat) : Int) := by rw [List.length_append, List.length_singleton]; rfl
            refine ⟨?_, FinA.meas 127 _ _ (Int.natCast_nonneg ps.length) (by omega) (by first | rfl | omega)⟩
            first
              | exact ⟨_, _, _, ⟨_, rfl, _, ps ++ [(r, a)], rfl, hnew, HT5⟩, rfl, rfl, hlen5⟩
              | exact ⟨_, _, _, ps ++ [(r, a)], rfl, rfl, hlen5, hnew, HT5⟩
              | ((repeat apply Exists.intro); exact ⟨⟨_, _, _, ps ++ [(r, a)], rfl, rfl, hlen5, hnew, HT5⟩, rfl⟩)
    · have hways : ¬ (ps.length : Int) < (Args.length : Int) ∨ (ps.length : Int) < (Args.length : Int) ∧ ¬ (ps.length : Int) < 127 := by omega
      clear hgo hp127
      rcases hways with hn | ⟨hn, hn2⟩
      · go_upto_region 16 with fail
        clear hq0 hq1 hn
        obtain ⟨Aa, ca, ea, hac, haC⟩ := HTI.out.C
        subst ea
        have hpl : ps.length ≤ 127 := HPS.out.2.2
        have hline := line_line HTI.out.ty HPS.out.2.1 hpl
        have hn10 := line_no10 HTI.out.ty
        have e10 : lineT ps = 83 :: ([69, 84] ++ ps.flatMap (fun x => 32 :: x.1)) := rfl
        rw [e10] at hn10
        have hbody := run_new_line (c := 83) (b := [69, 84] ++ ps.flatMap (fun x => 32 :: x.1)) (ws := setL :: ps.map Prod.snd) (by decide) hn10 (by rw [← e10]; exact HPS.out.2.1) (by rw [← e10]; exact hline) (List.cons_ne_nil _ _)
        have HAC := Aside0.mk (And.intro hac haC)
        have HLEN : Aside0 ((setL :: ps.map Prod.snd).length ≤ 128 ∧ ∀ x ∈ setL :: ps.map Prod.snd, x.length ≤ 240) := ⟨by rw [List.length_cons, List.length_map]; omega, fun x hx => by
          rcases List.mem_cons.1 hx with rfl | hx
          · decide
          · obtain ⟨q, hq, rfl⟩ := List.mem_map.1 hx
            exact HTI.out.sh q hq⟩
        obtain ⟨ws, hws⟩ : ∃ ws, ws = setL :: ps.map Prod.snd := ⟨_, rfl⟩
        rw [← hws] at hline hbody HAC HLEN
        rw [← hws]
        obtain ⟨L, hL⟩ : ∃ L, L = lineT ps := ⟨_, rfl⟩
        have hbody : (ParS.run ParS.new (L ++ [10])).out = [ws] ∧ (ParS.run ParS.new (L ++ [10])).broken = 0 := by rw [hL]; exact hbody
        have HL1 : Aside0 (S = strOfNums L ∧ L.length ≤ 1024 ∧ inB L) := ⟨by rw [hL]; exact ⟨HPS.out.1, HPS.out.2.1, line_in HTI.out.ty⟩⟩
        rw [← hL] at hline
        have hl2 : (L ++ [10]).length ≤ 1025 := by have := HL1.out.2.1; rw [List.length_append, List.length_singleton]; omega
        have hin2 : inB (L ++ [10]) := fun x hx => by
          rcases List.mem_append.1 hx with hx | hx
          · exact HL1.out.2.2 x hx
          · rw [List.mem_singleton.1 hx]; decide
        have hS := HL1.out.1
        have hS2 : S ++ ⟨#[10]⟩ = strOfNums (L ++ [10]) := by rw [hS, show (⟨#[10]⟩ : ByteArray) = strOfNums [10] from rfl, StrR.str_append]
        obtain ⟨L2, hL2⟩ : ∃ L2, L2 = L ++ [10] := ⟨_, rfl⟩
        rw [← hL2] at hbody hin2 hS2 hl2
        have HBODY := Aside0.mk hbody
        have HIN2 := Aside0.mk (And.intro hin2 hl2)
        have HS2 := Aside0.mk hS2
        have hsz : S.size ≤ 1024 := by rw [hS, strOfNums_size]; exact HL1.out.2.1
        have HBW : Aside0 (Below W.heap.size W wr) := ⟨by
          have h1 : Below W.heap.size W Wb := HWB.out.1
          exact below_next h1 (HTI.out.bel)⟩
        have HCV : Aside0 (∀ W', ∃ cap, (convert 9 26 (.string S)).run Try.prog W' = .ok (.slice (some ⟨W'.heap.size, 0, none⟩) L.length cap) (Lib.bytesWorld W' 5 S) ∧ L.length ≤ cap ∧ (Kd.int .u8).C (Lib.bytesWorld W' 5 S) (some ⟨W'.heap.size, 0, none⟩) L.length L ∧ Below W'.heap.size W' (Lib.bytesWorld W' 5 S)) := ⟨fun W' => by
          have h := StrR.conv_run W' S
          have hc := StrR.conv_cap W' L
          have hC := StrR.conv_C W' L HL1.out.2.2 (by have := HL1.out.2.1; omega)
          rw [← hS] at hc hC
          have e : S.size = L.length := by rw [hS, strOfNums_size]
          rw [e] at h hc
          exact ⟨_, h, hc, hC, StrR.conv_below W' S⟩⟩
        have HCV2 : Aside0 (∀ W', ∃ cap, (convert 9 26 (.string (S ++ ⟨#[10]⟩))).run Try.prog W' = .ok (.slice (some ⟨W'.heap.size, 0, none⟩) L2.length cap) (Lib.bytesWorld W' 5 (S ++ ⟨#[10]⟩)) ∧ (Kd.int .u8).C (Lib.bytesWorld W' 5 (S ++ ⟨#[10]⟩)) (some ⟨W'.heap.size, 0, none⟩) L2.length L2 ∧ Below W'.heap.size W' (Lib.bytesWorld W' 5 (S ++ ⟨#[10]⟩))) := ⟨fun W' => by
          have h := StrR.conv_run W' (strOfNums L2)
          have hC := StrR.conv_C W' L2 HIN2.out.1 (by have := HIN2.out.2; omega)
          rw [strOfNums_size] at h
          rw [HS2.out]
          exact ⟨_, h, hC, StrR.conv_below W' _⟩⟩
        obtain ⟨cap3, hcv1, hcp, hCL, hbl⟩ := HCV.out wr
        have HLINE := Aside0.mk (LinW.line.calls (some ⟨wr.heap.size, 0, none⟩) cap3 L _ hCL HL1.out.2.2 hcp)
        rw [hline] at HLINE
        have HBL := Aside0.mk hbl
        obtain ⟨w1, hw1⟩ : ∃ w1, w1 = Lib.bytesWorld wr 5 S := ⟨_, rfl⟩
        rw [← hw1] at hcv1 HLINE HBL
        clear hac haC hline hbody hn10 e10 hl2 hL2 hin2 hS hS2 hcp hCL hbl hL hws hw1 hpl
        go_upto_region 17 with (go_at_call 9; refine HLINE.out.mono ?_; rintro e w2 ⟨vl, Ol, rfl, k1, k2, k3, k4⟩; obtain ⟨Al, cl, rfl⟩ := k1.slice; have K1 := Aside0.mk k1; have K4 := Aside0.mk k4; clear k1 k2 k3 k4)
        clear hcv1
        have hck := LAt.C BtR.fit rfl BtR.K K1.out
        have HEQ : Aside0 (Calls Try.prog 11 #[.slice Al ws.length cl, .slice Aa ws.length ca] w2 fun e w' => e = .returned (.bool true) ∧ Drawn0 w2 w') := ⟨by
          have := IsG.listsG.calls hck.2.2 hck.2.1 (HAC.out.2 w2 (below_next HBL.out K4.out)) HAC.out.1 (by have := HLEN.out.1; omega) (by have := HLEN.out.1; omega) (fun x hx => by have := HLEN.out.2 x hx; omega)
          rw [decide_eq_true rfl] at this
          exact this⟩
        clear hck
        go_upto_region 19 with (first | (go_at_call 10; refine (num.calls _ _).mono ?_; rintro e w6 ⟨rfl, rfl⟩) | (go_at_call 11; refine HEQ.out.mono ?_; rintro e w3 ⟨rfl, hd3⟩; have HD3 := Aside0.mk hd3.below; clear hd3))
        rename World => w3
        go_upto_region 22 with (go_at_call 12; refine (new.calls _).mono ?_; rintro e w4 ⟨rfl, k1, k2⟩; have N1 := Aside0.mk k1; have N2 := Aside0.mk k2; clear k1 k2)
        rename World => w4
        obtain ⟨cap4, hcv2, hC2, hb5⟩ := HCV2.out w4
        have HB5 := Aside0.mk hb5
        have HF : Aside0 (Calls Try.prog 13 #[ptr w3.heap.size, .slice (some ⟨w4.heap.size, 0, none⟩) L2.length cap4] (Lib.bytesWorld w4 5 (S ++ ⟨#[10]⟩)) fun e w' => ∃ vt, e = .returned (.tuple #[vt, .int .i64 (ParS.run ParS.new L2).broken]) ∧ FQ (Lib.bytesWorld w4 5 (S ++ ⟨#[10]⟩)) w' (PO w3.heap.size (fun _ => 0) (fun _ => 0) (fun _ => 0)) w3.heap.size (ParS.feed ParS.new L2) vt (ParS.run ParS.new L2).out) := ⟨by
          have hp := N1.out.upd (S := fun _ => False) (Upd.of_below hb5) (fun _ _ hf => hf)
          exact feed.calls hp ParS.inv_new (fun x hx => by cases hx) rfl (Int.le_refl 0) (some ⟨w4.heap.size, 0, none⟩) cap4 L2 hC2 HIN2.out.1 (fun ad e => by
            obtain rfl := Option.some.inj e
            refine ⟨?_, ?_⟩
            · have h1 := N1.out.lt (a := w3.heap.size) (by unfold PO; rw [if_pos rfl]; omega)
              unfold PO
              rw [if_neg (by show ¬ w4.heap.size = w3.heap.size; omega)]
              rfl
            · show w4.heap.size < _
              rw [Lib.bytesWorld_size]
              omega) (by have := HIN2.out.2; omega) (by decide)⟩
        rw [HBODY.out.1, HBODY.out.2] at HF
        obtain ⟨w5, hw5⟩ : ∃ w5, w5 = Lib.bytesWorld w4 5 (S ++ ⟨#[10]⟩) := ⟨_, rfl⟩
        rw [← hw5] at hcv2 HF HB5
        clear hC2 hb5 hw5
        go_upto_region 23 with (go_at_call 13; refine HF.out.mono ?_; rintro e w7 ⟨vt, rfl, va1, vc1, vx1, Oa1, Oc1, Oo1, Ott, m1, m2, m3, m4, m5⟩; have M2 := Aside0.mk m2; have M5 := Aside0.mk m5; clear m1 m2 m3 m4 m5)
        clear hcv2
        obtain ⟨gm, cm, ym, Ox, e1, e2, e3, _⟩ := LAt.get RwR.fit M2.out (i := 0) (x := ws) rfl
        replace e1 : _ = Value.slice (some ⟨gm, 0, none⟩) 1 cm := e1
        subst e1
        obtain ⟨Ax, cx, rfl⟩ := e3.slice
        have hck := LAt.C BtR.fit rfl BtR.K e3
        have HBW7 : Aside0 (Below wr.heap.size wr w7) := ⟨by
          have h1 := below_next (below_next (below_next (below_next HBL.out K4.out) HD3.out) N2.out) HB5.out
          refine Upd.to_below h1 M5.out h1.size (fun a ha => ?_)
          have h0 := (below_next (below_next HBL.out K4.out) HD3.out).size
          unfold PO at ha
          by_cases he : a = w3.heap.size
          · omega
          · rw [if_neg he] at ha
            exact absurd rfl ha⟩
        have HEQ2 : Aside0 (Calls Try.prog 11 #[.slice Ax ws.length cx, .slice Aa ws.length ca] w7 fun e w' => e = .returned (.bool true) ∧ Drawn0 w7 w') := ⟨by
          have := IsG.listsG.calls hck.2.2 hck.2.1 (HAC.out.2 w7 HBW7.out) HAC.out.1 (by have := HLEN.out.1; omega) (by have := HLEN.out.1; omega) (fun x hx => by have := HLEN.out.2 x hx; omega)
          rw [decide_eq_true rfl] at this
          exact this⟩
        clear hck e3
        go_wp2_with (first | (go_at_call 10; refine (num.calls _ _).mono ?_; rintro e w6 ⟨rfl, rfl⟩) | (go_at_call 11; refine HEQ2.out.mono ?_; rintro e w8 ⟨rfl, hd8⟩; have HD8 := Aside0.mk hd8.below; clear hd8))
        go_ret
        exact ⟨rfl, below_next (below_next HBW.out HBW7.out) HD8.out⟩
      · go_upto_region 16 with fail
        clear hq0 hq1 hn hn2
        obtain ⟨Aa, ca, ea, hac, haC⟩ := HTI.out.C
        subst ea
        have hpl : ps.length ≤ 127 := HPS.out.2.2
        have hline := line_line HTI.out.ty HPS.out.2.1 hpl
        have hn10 := line_no10 HTI.out.ty
        have e10 : lineT ps = 83 :: ([69, 84] ++ ps.flatMap (fun x => 32 :: x.1)) := rfl
        rw [e10] at hn10
        have hbody := run_new_line (c := 83) (b := [69, 84] ++ ps.flatMap (fun x => 32 :: x.1)) (ws := setL :: ps.map Prod.snd) (by decide) hn10 (by rw [← e10]; exact HPS.out.2.1) (by rw [← e10]; exact hline) (List.cons_ne_nil _ _)
        have HAC := Aside0.mk (And.intro hac haC)
        have HLEN : Aside0 ((setL :: ps.map Prod.snd).length ≤ 128 ∧ ∀ x ∈ setL :: ps.map Prod.snd, x.length ≤ 240) := ⟨by rw [List.length_cons, List.length_map]; omega, fun x hx => by
          rcases List.mem_cons.1 hx with rfl | hx
          · decide
          · obtain ⟨q, hq, rfl⟩ := List.mem_map.1 hx
            exact HTI.out.sh q hq⟩
        obtain ⟨ws, hws⟩ : ∃ ws, ws = setL :: ps.map Prod.snd := ⟨_, rfl⟩
        rw [← hws] at hline hbody HAC HLEN
        rw [← hws]
        obtain ⟨L, hL⟩ : ∃ L, L = lineT ps := ⟨_, rfl⟩
        have hbody : (ParS.run ParS.new (L ++ [10])).out = [ws] ∧ (ParS.run ParS.new (L ++ [10])).broken = 0 := by rw [hL]; exact hbody
        have HL1 : Aside0 (S = strOfNums L ∧ L.length ≤ 1024 ∧ inB L) := ⟨by rw [hL]; exact ⟨HPS.out.1, HPS.out.2.1, line_in HTI.out.ty⟩⟩
        rw [← hL] at hline
        have hl2 : (L ++ [10]).length ≤ 1025 := by have := HL1.out.2.1; rw [List.length_append, List.length_singleton]; omega
        have hin2 : inB (L ++ [10]) := fun x hx => by
          rcases List.mem_append.1 hx with hx | hx
          · exact HL1.out.2.2 x hx
          · rw [List.mem_singleton.1 hx]; decide
        have hS := HL1.out.1
        have hS2 : S ++ ⟨#[10]⟩ = strOfNums (L ++ [10]) := by rw [hS, show (⟨#[10]⟩ : ByteArray) = strOfNums [10] from rfl, StrR.str_append]
        obtain ⟨L2, hL2⟩ : ∃ L2, L2 = L ++ [10] := ⟨_, rfl⟩
        rw [← hL2] at hbody hin2 hS2 hl2
        have HBODY := Aside0.mk hbody
        have HIN2 := Aside0.mk (And.intro hin2 hl2)
        have HS2 := Aside0.mk hS2
        have hsz : S.size ≤ 1024 := by rw [hS, strOfNums_size]; exact HL1.out.2.1
        have HBW : Aside0 (Below W.heap.size W wr) := ⟨by
          have h1 : Below W.heap.size W Wb := HWB.out.1
          exact below_next h1 (HTI.out.bel)⟩
        have HCV : Aside0 (∀ W', ∃ cap, (convert 9 26 (.string S)).run Try.prog W' = .ok (.slice (some ⟨W'.heap.size, 0, none⟩) L.length cap) (Lib.bytesWorld W' 5 S) ∧ L.length ≤ cap ∧ (Kd.int .u8).C (Lib.bytesWorld W' 5 S) (some ⟨W'.heap.size, 0, none⟩) L.length L ∧ Below W'.heap.size W' (Lib.bytesWorld W' 5 S)) := ⟨fun W' => by
          have h := StrR.conv_run W' S
          have hc := StrR.conv_cap W' L
          have hC := StrR.conv_C W' L HL1.out.2.2 (by have := HL1.out.2.1; omega)
          rw [← hS] at hc hC
          have e : S.size = L.length := by rw [hS, strOfNums_size]
          rw [e] at h hc
          exact ⟨_, h, hc, hC, StrR.conv_below W' S⟩⟩
        have HCV2 : Aside0 (∀ W', ∃ cap, (convert 9 26 (.string (S ++ ⟨#[10]⟩))).run Try.prog W' = .ok (.slice (some ⟨W'.heap.size, 0, none⟩) L2.length cap) (Lib.bytesWorld W' 5 (S ++ ⟨#[10]⟩)) ∧ (Kd.int .u8).C (Lib.bytesWorld W' 5 (S ++ ⟨#[10]⟩)) (some ⟨W'.heap.size, 0, none⟩) L2.length L2 ∧ Below W'.heap.size W' (Lib.bytesWorld W' 5 (S ++ ⟨#[10]⟩))) := ⟨fun W' => by
          have h := StrR.conv_run W' (strOfNums L2)
          have hC := StrR.conv_C W' L2 HIN2.out.1 (by have := HIN2.out.2; omega)
          rw [strOfNums_size] at h
          rw [HS2.out]
          exact ⟨_, h, hC, StrR.conv_below W' _⟩⟩
        obtain ⟨cap3, hcv1, hcp, hCL, hbl⟩ := HCV.out wr
        have HLINE := Aside0.mk (LinW.line.calls (some ⟨wr.heap.size, 0, none⟩) cap3 L _ hCL HL1.out.2.2 hcp)
        rw [hline] at HLINE
        have HBL := Aside0.mk hbl
        obtain ⟨w1, hw1⟩ : ∃ w1, w1 = Lib.bytesWorld wr 5 S := ⟨_, rfl⟩
        rw [← hw1] at hcv1 HLINE HBL
        clear hac haC hline hbody hn10 e10 hl2 hL2 hin2 hS hS2 hcp hCL hbl hL hws hw1 hpl
        go_upto_region 17 with (go_at_call 9; refine HLINE.out.mono ?_; rintro e w2 ⟨vl, Ol, rfl, k1, k2, k3, k4⟩; obtain ⟨Al, cl, rfl⟩ := k1.slice; have K1 := Aside0.mk k1; have K4 := Aside0.mk k4; clear k1 k2 k3 k4)
        clear hcv1
        have hck := LAt.C BtR.fit rfl BtR.K K1.out
        have HEQ : Aside0 (Calls Try.prog 11 #[.slice Al ws.length cl, .slice Aa ws.length ca] w2 fun e w' => e = .returned (.bool true) ∧ Drawn0 w2 w') := ⟨by
          have := IsG.listsG.calls hck.2.2 hck.2.1 (HAC.out.2 w2 (below_next HBL.out K4.out)) HAC.out.1 (by have := HLEN.out.1; omega) (by have := HLEN.out.1; omega) (fun x hx => by have := HLEN.out.2 x hx; omega)
          rw [decide_eq_true rfl] at this
          exact this⟩
        clear hck
        go_upto_region 19 with (first | (go_at_call 10; refine (num.calls _ _).mono ?_; rintro e w6 ⟨rfl, rfl⟩) | (go_at_call 11; refine HEQ.out.mono ?_; rintro e w3 ⟨rfl, hd3⟩; have HD3 := Aside0.mk hd3.below; clear hd3))
        rename World => w3
        go_upto_region 22 with (go_at_call 12; refine (new.calls _).mono ?_; rintro e w4 ⟨rfl, k1, k2⟩; have N1 := Aside0.mk k1; have N2 := Aside0.mk k2; clear k1 k2)
        rename World => w4
        obtain ⟨cap4, hcv2, hC2, hb5⟩ := HCV2.out w4
        have HB5 := Aside0.mk hb5
        have HF : Aside0 (Calls Try.prog 13 #[ptr w3.heap.size, .slice (some ⟨w4.heap.size, 0, none⟩) L2.length cap4] (Lib.bytesWorld w4 5 (S ++ ⟨#[10]⟩)) fun e w' => ∃ vt, e = .returned (.tuple #[vt, .int .i64 (ParS.run ParS.new L2).broken]) ∧ FQ (Lib.bytesWorld w4 5 (S ++ ⟨#[10]⟩)) w' (PO w3.heap.size (fun _ => 0) (fun _ => 0) (fun _ => 0)) w3.heap.size (ParS.feed ParS.new L2) vt (ParS.run ParS.new L2).out) := ⟨by
          have hp := N1.out.upd (S := fun _ => False) (Upd.of_below hb5) (fun _ _ hf => hf)
          exact feed.calls hp ParS.inv_new (fun x hx => by cases hx) rfl (Int.le_refl 0) (some ⟨w4.heap.size, 0, none⟩) cap4 L2 hC2 HIN2.out.1 (fun ad e => by
            obtain rfl := Option.some.inj e
            refine ⟨?_, ?_⟩
            · have h1 := N1.out.lt (a := w3.heap.size) (by unfold PO; rw [if_pos rfl]; omega)
              unfold PO
              rw [if_neg (by show ¬ w4.heap.size = w3.heap.size; omega)]
              rfl
            · show w4.heap.size < _
              rw [Lib.bytesWorld_size]
              omega) (by have := HIN2.out.2; omega) (by decide)⟩
        rw [HBODY.out.1, HBODY.out.2] at HF
        obtain ⟨w5, hw5⟩ : ∃ w5, w5 = Lib.bytesWorld w4 5 (S ++ ⟨#[10]⟩) := ⟨_, rfl⟩
        rw [← hw5] at hcv2 HF HB5
        clear hC2 hb5 hw5
        go_upto_region 23 with (go_at_call 13; refine HF.out.mono ?_; rintro e w7 ⟨vt, rfl, va1, vc1, vx1, Oa1, Oc1, Oo1, Ott, m1, m2, m3, m4, m5⟩; have M2 := Aside0.mk m2; have M5 := Aside0.mk m5; clear m1 m2 m3 m4 m5)
        clear hcv2
        obtain ⟨gm, cm, ym, Ox, e1, e2, e3, _⟩ := LAt.get RwR.fit M2.out (i := 0) (x := ws) rfl
        replace e1 : _ = Value.slice (some ⟨gm, 0, none⟩) 1 cm := e1
        subst e1
        obtain ⟨Ax, cx, rfl⟩ := e3.slice
        have hck := LAt.C BtR.fit rfl BtR.K e3
        have HBW7 : Aside0 (Below wr.heap.size wr w7) := ⟨by
          have h1 := below_next (below_next (below_next (below_next HBL.out K4.out) HD3.out) N2.out) HB5.out
          refine Upd.to_below h1 M5.out h1.size (fun a ha => ?_)
          have h0 := (below_next (below_next HBL.out K4.out) HD3.out).size
          unfold PO at ha
          by_cases he : a = w3.heap.size
          · omega
          · rw [if_neg he] at ha
            exact absurd rfl ha⟩
        have HEQ2 : Aside0 (Calls Try.prog 11 #[.slice Ax ws.length cx, .slice Aa ws.length ca] w7 fun e w' => e = .returned (.bool true) ∧ Drawn0 w7 w') := ⟨by
          have := IsG.listsG.calls hck.2.2 hck.2.1 (HAC.out.2 w7 HBW7.out) HAC.out.1 (by have := HLEN.out.1; omega) (by have := HLEN.out.1; omega) (fun x hx => by have := HLEN.out.2 x hx; omega)
          rw [decide_eq_true rfl] at this
          exact this⟩
        clear hck e3
        go_wp2_with (first | (go_at_call 10; refine (num.calls _ _).mono ?_; rintro e w6 ⟨rfl, rfl⟩) | (go_at_call 11; refine HEQ2.out.mono ?_; rintro e w8 ⟨rfl, hd8⟩; have HD8 := Aside0.mk hd8.below; clear hd8))
        go_ret
        exact ⟨rfl, below_next (below_next HBW.out HBW7.out) HD8.out⟩
end Go.Proofs.Ytfdkcnbkoagmiaa.TydW
end

section
namespace Go.Proofs.Ytfdkcnbkoagmiaa.LawWireTyped
open Go.ChangeShapes Go.WideShapes Go.ChangeAt Go.RowKit
open Go.ChangeMaps (open_string shut_string)
theorem own : ownKnob Try.prog.godebug = none := by kernel_rfl
theorem laidOut : laidOutB Try.prog = true := by kernel_rfl
set_option maxRecDepth 100000 in
theorem lifted (os : Os) (started : os.Started) (H : Type) (enc : TypeId × Value → H) :
    ReturnsInHanded {} Try.checked os 3 .any (Rows.wireTypedSpec.pre6 enc Try.prog Try.f3 Rows.wireTypedRow.domain false) (Rows.wireTypedSpec.post enc Try.prog Try.f3 false true false false) := by
  refine returnsInHanded_of_change_sized (C := Try.checked) own started (by kernel_rfl) Try.func3
    (ChangeSpec.witness6 (enc := enc) (C := Try.checked) false ⟨#[], #[.agg #[.slice none 0 0, .slice none 0 0]], []⟩ 8 (by kernel_rfl) (by kernel_rfl) (by kernel_rfl) (by kernel_rfl)) ?_
  intro W base args ds gs before hval0 hW _ hsz0 _
  have hsz : (DataW.weightsEach Try.prog (Try.f3.params.toList ++ Rows.wireTypedSpec.plain.varTypes Try.prog) (ds ++ gs)).all (· ≤ reachBytes) = true := hsz0
  have hval : ∀ (j : Nat) t v, Try.f3.params[j]? = some t → args[j]? = some v → Value.okWide Try.prog W .any base t v := hval0
  have hW' := hW
  obtain ⟨p, q, hA0, hV, rfl, _, _⟩ := hW
  have hA : DataW.TrodAll enc Try.prog W 0 (fun _ => true) true Try.f3.params.toList args.toList ds p := hA0
  rw [Try.params3] at hA hval hsz
  obtain ⟨v0, vs0, d0, ds0, p0, q0, hargs, rfl, rfl, h0, r0⟩ := trodAll_cons hA
  obtain ⟨rfl, rfl, rfl⟩ := trodAll_nil r0
  obtain rfl : args = #[v0] := by cases args; simp_all
  obtain ⟨rfl, rfl⟩ := trodVars_none hV
  have k0 := h0
  have lt0 : ∀ x ∈ p0, x.block < W.heap.size := by obtain ⟨m, hm⟩ := k0; exact DataW.trod_lt m _ _ _ hm
  obtain ⟨y, hK, hg⟩ := Open.open_arg TydW.o_wds hsz (j := 0) rfl rfl h0
  obtain ⟨ca, rfl, _⟩ := okWide_struct Try.underlying25 (hval 0 _ v0 rfl rfl)
  clear hA0 hval0 hsz0 hsz
  refine (TydW.walk y ca W hK hg).mono fun e W' ⟨he, bel⟩ => ?_
  subst he
  exact ⟨_, rfl, _, _, _, [], _, [], hW', trodAll_mk1 (shut_bool Try.underlying4 _), (trodAll_cons_mk (Below.trod laidOut (by kernel_rfl) (of_decide_eq_true (by kernel_rfl)) k0 bel lt0) trodAll_mk0), rfl, bel.frame _, fun h => by cases h⟩
theorem over : Rows.wireTypedRow.holds Try.pinned (OpenSpec.ofChange Rows.wireTypedSpec) :=
  OpenClaim.holds_of_wide 3 Try.f3 rfl rfl rfl rfl rfl rfl rfl ⟨rfl, rfl, rfl, rfl, rfl⟩ rfl rfl rfl rfl rfl (by kernel_rfl) Try.func3 (by kernel_rfl)
    (of_decide_eq_true (by kernel_rfl)) (by unfold Func.isWrapper; first | (rw [if_pos (by decide +kernel)]; kernel_rfl) | (rw [if_neg (by decide +kernel)]; exact ⟨rfl, rfl⟩))
    (fun os started H enc _ => lifted os started H enc)
theorem proved : Rows.WireTypedSaid := over
#print axioms proved
end Go.Proofs.Ytfdkcnbkoagmiaa.LawWireTyped
namespace Go.Proofs.Ytfdkcnbkoagmiaa
theorem wireTyped_holds : Rows.WireTypedSaid := LawWireTyped.proved
end Go.Proofs.Ytfdkcnbkoagmiaa
end
