-- JOINED by tailmerge3.py: PAx6 PAx7 PAx8 PAx18 EqR IsW Open OpenB StrB ApnF BndS FnW ChkW LawWireChunks
import Derived.Test.YtfdkcnbkoagmiaaPAx0
import Derived.Test.YtfdkcnbkoagmiaaLinQ
import Derived.Test.YtfdkcnbkoagmiaaOwnL
import Derived.Lib.ConvBytes
import Derived.Lib.SmallJoins
import Derived.Test.YtfdkcnbkoagmiaaWWords
import Derived.OpenShut
import Derived.SizedLaws
import Derived.ChangeSlices
import Derived.DataElems
import Derived.Test.YtfdkcnbkoagmiaaRows
import Derived.Test.YtfdkcnbkoagmiaaLinS
import Derived.Test.YtfdkcnbkoagmiaaCopL
import Derived.Lib.SlBytesConst
import Derived.ArgAppend
import Derived.Test.YtfdkcnbkoagmiaaChkS
import Derived.Test.YtfdkcnbkoagmiaaFedW
import Derived.Test.YtfdkcnbkoagmiaaFedX
import Derived.WalkKit
import Derived.ProofKit
import Derived.ShutString
import Derived.ChangeOld
import Derived.Below
import Derived.Deep.DeepHandedRow
import Derived.Lib.LaidTab

section
namespace Go.Proofs.Ytfdkcnbkoagmiaa.PA
open Go.RowKit Go.Proofs.YtfdkcnbkoagmiaaW.PrintWords Go.Proofs.YtfdkcnbkoagmiaaW.PrintLast Go.Proofs.YtfdkcnbkoagmiaaW.PrintMore
attribute [local go_sem] max2_int min2_int max_two min_two max_three min_three max_four min_four   -- for this text's walks alone
set_option linter.unusedVariables false
set_option linter.unusedSimpArgs false
mutual
def larderref0_Cmp.l0 : Nat → List Int → List Int → Int → Option (Int)
  | 0, _, _, _ => none
  | k + 1, x0, x1, x5 => if x5 < (x0.length : Int) then (larderref0_Cmp.j1 k x0 x1 x5 (decide (x5 < (x1.length : Int)))) else (larderref0_Cmp.j1 k x0 x1 x5 false)
def larderref0_Cmp.j1 : Nat → List Int → List Int → Int → Bool → Option (Int)
  | 0, _, _, _, _ => none
  | k + 1, x0, x1, x5, x15 => if x15 = true then (if 0 ≤ x5 then (if x5 < (x0.length : Int) then (if x5 < (x1.length : Int) then (if (rd x0 x5) < (rd x1 x5) then (some (-1)) else (if (rd x0 x5) > (rd x1 x5) then (some 1) else (larderref0_Cmp.l0 k x0 x1 (wrap64 (x5 + 1))))) else (none)) else (none)) else (none)) else (if (x0.length : Int) < (x1.length : Int) then (some (-1)) else (if (x0.length : Int) > (x1.length : Int) then (some 1) else (some 0)))
end
def larderref0_Cmp.f (k : Nat) (l0 : List Int) (l1 : List Int) : Option (Int) := larderref0_Cmp.l0 k l0 l1 0
theorem larderref0_Cmp.mono_l : ∀ k, (∀ y0 y1 y2, LeO (larderref0_Cmp.l0 k y0 y1 y2) (larderref0_Cmp.l0 (k + 1) y0 y1 y2)) ∧ (∀ y0 y1 y2 y3, LeO (larderref0_Cmp.j1 k y0 y1 y2 y3) (larderref0_Cmp.j1 (k + 1) y0 y1 y2 y3))
  | 0 => ⟨fun _ _ _ r h => by simp [larderref0_Cmp.l0] at h, fun _ _ _ _ r h => by simp [larderref0_Cmp.j1] at h⟩
  | k + 1 => by
    obtain ⟨ih0, ih1⟩ := larderref0_Cmp.mono_l k
    refine ⟨?_, ?_⟩
    · intro y0 y1 y2
      unfold larderref0_Cmp.l0
      repeat' first
      | (with_reducible exact ih0 _ _ _)
      | (with_reducible exact ih1 _ _ _ _)
      | (with_reducible exact LeO.refl _)
      | (with_reducible exact LeO.none _)
      | (with_reducible refine LeO.ite ?_ ?_)
      | (with_reducible refine LeO.bind ?_ (fun _ => ?_))
      | exact ih0 _ _ _
      | exact ih1 _ _ _ _
      | exact LeO.none _
      | refine LeO.ite ?_ ?_
      | refine LeO.bind ?_ (fun _ => ?_)
    · intro y0 y1 y2 y3
      unfold larderref0_Cmp.j1
      repeat' first
      | (with_reducible exact ih0 _ _ _)
      | (with_reducible exact ih1 _ _ _ _)
      | (with_reducible exact LeO.refl _)
      | (with_reducible exact LeO.none _)
      | (with_reducible refine LeO.ite ?_ ?_)
      | (with_reducible refine LeO.bind ?_ (fun _ => ?_))
      | exact ih0 _ _ _
      | exact ih1 _ _ _ _
      | exact LeO.none _
      | refine LeO.ite ?_ ?_
      | refine LeO.bind ?_ (fun _ => ?_)
theorem larderref0_Cmp.mono : ∀ a0 a1 k, LeO (larderref0_Cmp.f k a0 a1) (larderref0_Cmp.f (k + 1) a0 a1) := by
  intro a0 a1 k
  obtain ⟨ih0, ih1⟩ := larderref0_Cmp.mono_l k
  unfold larderref0_Cmp.f
  repeat' first
      | (with_reducible exact ih0 _ _ _)
      | (with_reducible exact ih1 _ _ _ _)
      | (with_reducible exact LeO.refl _)
      | (with_reducible exact LeO.none _)
      | (with_reducible refine LeO.ite ?_ ?_)
      | (with_reducible refine LeO.bind ?_ (fun _ => ?_))
      | exact ih0 _ _ _
      | exact ih1 _ _ _ _
      | exact LeO.none _
      | refine LeO.ite ?_ ?_
      | refine LeO.bind ?_ (fun _ => ?_)
set_option maxHeartbeats 8000000 in
set_option maxRecDepth 100000 in
theorem larderref0_Cmp.calls (k : Nat) (A0 : Option Addr) (c0 : Nat) (l0 : List Int) (A1 : Option Addr) (c1 : Nat) (l1 : List Int) (r : Int) (w : World) (hr0 : Kd.C (Kd.int .u8) w A0 l0.length l0) (hc0 : l0.length ≤ c0) (hr1 : Kd.C (Kd.int .u8) w A1 l1.length l1) (hc1 : l1.length ≤ c1) (h : larderref0_Cmp.f k l0 l1 = some r) :
    Calls Try.prog 31 #[.slice A0 l0.length c0, .slice A1 l1.length c1] w fun e w' => e = .returned (.int .i64 r) ∧ Drawn0 w w' := by
  have HR0 := Aside0.mk hr0
  have HC0 := Aside0.mk hc0
  clear hr0 hc0
  have HR1 := Aside0.mk hr1
  have HC1 := Aside0.mk hc1
  clear hr1 hc1
  have H : (larderref0_Cmp.l0 k l0 l1 0) = some r := h
  clear h
  have H' := Aside0.mk H
  clear H
  go_enter Try.func31, Try.ntmps31
  go_wp2
  repeat (go_quiet (fail); try go_wp2)
  go_loopg [5] k (fun kq v5 w' => ∃ (x5_1 : Int), v5 = .int .i64 x5_1 ∧ Aside0 (larderref0_Cmp.l0 kq l0 l1 x5_1 = some r) ∧ Aside0 (kq ≤ k) ∧ Drawn0 w w')
  case atStart => exact ⟨(0), (by first | rfl | (simp; done) | (simp [*]; done)), H', ⟨Nat.le_refl _⟩, by repeat (first | exact Drawn0.refl _ | apply Drawn0.step)⟩
  case round =>
    clear H'
    try clear c1
    try clear p2
    obtain ⟨x5_1, rfl, HA, HK1, ⟨m1, rfl⟩⟩ := hrel
    cases gk with
    | zero => exact absurd HA.out (by simp [larderref0_Cmp.l0])
    | succ k1 =>
      have H := HA.out
      clear HA
      simp only [larderref0_Cmp.l0] at H
      have HC3 := Aside0.mk H
      clear H
      go_upto_region 2 with (fail)
      repeat (go_quiet (fail); go_upto_region 2 with (fail))
      go_cut [15] (fun v15 wc => ∃ (kq : Nat) (x15_2 : Bool), v15 = .bool x15_2 ∧ Aside0 (larderref0_Cmp.j1 kq l0 l1 x5_1 x15_2 = some r) ∧ Aside0 (kq ≤ k1) ∧ Drawn0 w wc)
      case first =>
        have H := HC3.out
        clear HC3
        by_cases c4 : x5_1 < (l0.length : Int)
        · rw [if_pos c4] at H
          have c4b0 : decide (x5_1 < (l0.length : Int)) = true := decide_eq_true c4
          clear c4
          (first | rw [c4b0] | (simp only [i64_w, i32_w]; rw [c4b0]) | skip)
          have H' := Aside0.mk H
          clear H
          go_wp2
          repeat (go_quiet (fail); try go_wp2)
          go_meet
          case rel => exact ⟨_, (decide (x5_1 < (l1.length : Int))), (by first | rfl | (simp; done) | (simp [*]; done)), H', ⟨by have := HK1.out; first | omega | exact Nat.le_refl _⟩, by repeat (first | exact Drawn0.refl _ | apply Drawn0.step)⟩
        · rw [if_neg c4] at H
          have c4b0 : decide (x5_1 < (l0.length : Int)) = false := decide_eq_false c4
          clear c4
          (first | rw [c4b0] | (simp only [i64_w, i32_w]; rw [c4b0]) | skip)
          have H' := Aside0.mk H
          clear H
          go_wp2
          repeat (go_quiet (fail); try go_wp2)
          go_meet
          case rel => exact ⟨_, (false), (by first | rfl | (simp; done) | (simp [*]; done)), H', ⟨by have := HK1.out; first | omega | exact Nat.le_refl _⟩, by repeat (first | exact Drawn0.refl _ | apply Drawn0.step)⟩
      case rest =>
        clear HC3
        try clear c1
        try clear p2
        try clear c3
        try clear c4
        try clear c4b0
        try clear p2
        obtain ⟨kq, x15_2, rfl, HA, HJ2, ⟨mc2, rfl⟩⟩ := hcut
        cases kq with
        | zero => exact absurd HA.out (by simp [larderref0_Cmp.j1])
        | succ kj2 =>
          have H := HA.out
          clear HA
          simp only [larderref0_Cmp.j1] at H
          by_cases c5 : x15_2 = true
          · subst c5
            have H1 : (if 0 ≤ x5_1 then (if x5_1 < (l0.length : Int) then (if x5_1 < (l1.length : Int) then (if (rd l0 x5_1) < (rd l1 x5_1) then (some (-1)) else (if (rd l0 x5_1) > (rd l1 x5_1) then (some 1) else (larderref0_Cmp.l0 kj2 l0 l1 (wrap64 (x5_1 + 1))))) else (none)) else (none)) else (none)) = some r := by rw [if_pos rfl] at H; exact H
            clear H
            have H := H1
            clear H1
            by_cases c6 : 0 ≤ x5_1
            · rw [if_pos c6] at H
              have c6b0 : decide (0 ≤ x5_1) = true := decide_eq_true c6
              clear c6
              by_cases c7 : x5_1 < (l0.length : Int)
              · rw [if_pos c7] at H
                have c7b0 : decide (x5_1 < (l0.length : Int)) = true := decide_eq_true c7
                clear c7
                by_cases c8 : x5_1 < (l1.length : Int)
                · rw [if_pos c8] at H
                  have c8b0 : decide (x5_1 < (l1.length : Int)) = true := decide_eq_true c8
                  clear c8
                  by_cases c9 : (rd l0 x5_1) < (rd l1 x5_1)
                  · rw [if_pos c9] at H
                    have c9b0 : decide ((rd l0 x5_1) < (rd l1 x5_1)) = true := decide_eq_true c9
                    clear c9
                    obtain rfl := Option.some.inj H
                    have p131 : 0 ≤ (x5_1 : Int) := of_decide_eq_true (by first | (with_reducible assumption) | assumption)
                    have q131 : x5_1 < (l0.length : Int) := of_decide_eq_true (by first | (with_reducible assumption) | assumption)
                    obtain ⟨ad131, e131, hx131_0⟩ := Kd.at_int HR0.out x5_1 p131 q131
                    cases e131
                    replace p131 := eq_true p131
                    replace q131 := eq_true q131
                    have p132 : 0 ≤ (x5_1 : Int) := of_decide_eq_true (by first | (with_reducible assumption) | assumption)
                    have q132 : x5_1 < (l1.length : Int) := of_decide_eq_true (by first | (with_reducible assumption) | assumption)
                    obtain ⟨ad132, e132, hx132_0⟩ := Kd.at_int HR1.out x5_1 p132 q132
                    cases e132
                    replace p132 := eq_true p132
                    replace q132 := eq_true q132
                    go_wp2
                    repeat (go_quiet (fail); try go_wp2)
                    go_ret
                    exact ⟨by first | rfl | (simp; done) | (simp [*]; done), by repeat (first | exact Drawn0.refl _ | apply Drawn0.step)⟩
                  · rw [if_neg c9] at H
                    have c9b0 : decide ((rd l0 x5_1) < (rd l1 x5_1)) = false := decide_eq_false c9
                    clear c9
                    by_cases c10 : (rd l0 x5_1) > (rd l1 x5_1)
                    · rw [if_pos c10] at H
                      have c10b0 : decide ((rd l1 x5_1) < (rd l0 x5_1)) = true := decide_eq_true c10
                      clear c10
                      obtain rfl := Option.some.inj H
                      have p131 : 0 ≤ (x5_1 : Int) := of_decide_eq_true (by first | (with_reducible assumption) | assumption)
                      have q131 : x5_1 < (l0.length : Int) := of_decide_eq_true (by first | (with_reducible assumption) | assumption)
                      obtain ⟨ad131, e131, hx131_0⟩ := Kd.at_int HR0.out x5_1 p131 q131
                      cases e131
                      replace p131 := eq_true p131
                      replace q131 := eq_true q131
                      have p132 : 0 ≤ (x5_1 : Int) := of_decide_eq_true (by first | (with_reducible assumption) | assumption)
                      have q132 : x5_1 < (l1.length : Int) := of_decide_eq_true (by first | (with_reducible assumption) | assumption)
                      obtain ⟨ad132, e132, hx132_0⟩ := Kd.at_int HR1.out x5_1 p132 q132
                      cases e132
                      replace p132 := eq_true p132
                      replace q132 := eq_true q132
                      have p133 : 0 ≤ (x5_1 : Int) := of_decide_eq_true (by first | (with_reducible assumption) | assumption)
                      have q133 : x5_1 < (l0.length : Int) := of_decide_eq_true (by first | (with_reducible assumption) | assumption)
                      obtain ⟨ad133, e133, hx133_0⟩ := Kd.at_int HR0.out x5_1 p133 q133
                      obtain rfl : ad131 = ad133 := (by injection e133)
                      replace p133 := eq_true p133
                      replace q133 := eq_true q133
                      have p134 : 0 ≤ (x5_1 : Int) := of_decide_eq_true (by first | (with_reducible assumption) | assumption)
                      have q134 : x5_1 < (l1.length : Int) := of_decide_eq_true (by first | (with_reducible assumption) | assumption)
                      obtain ⟨ad134, e134, hx134_0⟩ := Kd.at_int HR1.out x5_1 p134 q134
                      obtain rfl : ad132 = ad134 := (by injection e134)
                      replace p134 := eq_true p134
                      replace q134 := eq_true q134
                      go_wp2
                      repeat (go_quiet (fail); try go_wp2)
                      go_ret
                      exact ⟨by first | rfl | (simp; done) | (simp [*]; done), by repeat (first | exact Drawn0.refl _ | apply Drawn0.step)⟩
                    · rw [if_neg c10] at H
                      have c10b0 : decide ((rd l1 x5_1) < (rd l0 x5_1)) = false := decide_eq_false c10
                      clear c10
                      have H' := Aside0.mk H
                      clear H
                      have p131 : 0 ≤ (x5_1 : Int) := of_decide_eq_true (by first | (with_reducible assumption) | assumption)
                      have q131 : x5_1 < (l0.length : Int) := of_decide_eq_true (by first | (with_reducible assumption) | assumption)
                      obtain ⟨ad131, e131, hx131_0⟩ := Kd.at_int HR0.out x5_1 p131 q131
                      cases e131
                      replace p131 := eq_true p131
                      replace q131 := eq_true q131
                      have p132 : 0 ≤ (x5_1 : Int) := of_decide_eq_true (by first | (with_reducible assumption) | assumption)
                      have q132 : x5_1 < (l1.length : Int) := of_decide_eq_true (by first | (with_reducible assumption) | assumption)
                      obtain ⟨ad132, e132, hx132_0⟩ := Kd.at_int HR1.out x5_1 p132 q132
                      cases e132
                      replace p132 := eq_true p132
                      replace q132 := eq_true q132
                      have p133 : 0 ≤ (x5_1 : Int) := of_decide_eq_true (by first | (with_reducible assumption) | assumption)
                      have q133 : x5_1 < (l0.length : Int) := of_decide_eq_true (by first | (with_reducible assumption) | assumption)
                      obtain ⟨ad133, e133, hx133_0⟩ := Kd.at_int HR0.out x5_1 p133 q133
                      obtain rfl : ad131 = ad133 := (by injection e133)
                      replace p133 := eq_true p133
                      replace q133 := eq_true q133
                      have p134 : 0 ≤ (x5_1 : Int) := of_decide_eq_true (by first | (with_reducible assumption) | assumption)
                      have q134 : x5_1 < (l1.length : Int) := of_decide_eq_true (by first | (with_reducible assumption) | assumption)
                      obtain ⟨ad134, e134, hx134_0⟩ := Kd.at_int HR1.out x5_1 p134 q134
                      obtain rfl : ad132 = ad134 := (by injection e134)
                      replace p134 := eq_true p134
                      replace q134 := eq_true q134
                      go_wp2
                      repeat (go_quiet (fail); try go_wp2)
                      go_roundg kj2
                      case measure => have := HK1.out; have := HJ2.out; omega
                      case rel => exact ⟨(wrap64 (x5_1 + 1)), (by first | rfl | (simp; done) | (simp [*]; done)), H', ⟨by have := HK1.out; have := HJ2.out; omega⟩, by repeat (first | exact Drawn0.refl _ | apply Drawn0.step)⟩
                · rw [if_neg c8] at H
                  exact absurd H (by simp)
              · rw [if_neg c7] at H
                exact absurd H (by simp)
            · rw [if_neg c6] at H
              exact absurd H (by simp)
          · replace c5 := Bool.eq_false_iff.mpr c5
            subst c5
            have H1 : (if (l0.length : Int) < (l1.length : Int) then (some (-1)) else (if (l0.length : Int) > (l1.length : Int) then (some 1) else (some 0))) = some r := by rw [if_neg (show ¬ (false = true) by decide)] at H; exact H
            clear H
            have H := H1
            clear H1
            by_cases c11 : (l0.length : Int) < (l1.length : Int)
            · rw [if_pos c11] at H
              have c11b0 : decide ((l0.length : Int) < (l1.length : Int)) = true := decide_eq_true c11
              have c11b1 : decide (l0.length < l1.length) = true := decide_eq_true (Int.ofNat_lt.mp c11)
              clear c11
              obtain rfl := Option.some.inj H
              go_wp2
              repeat (go_quiet (fail); try go_wp2)
              go_ret
              exact ⟨by first | rfl | (simp; done) | (simp [*]; done), by repeat (first | exact Drawn0.refl _ | apply Drawn0.step)⟩
            · rw [if_neg c11] at H
              have c11b0 : decide ((l0.length : Int) < (l1.length : Int)) = false := decide_eq_false c11
              have c11b1 : decide (l0.length < l1.length) = false := decide_eq_false (fun h => c11 (Int.ofNat_lt.mpr h))
              clear c11
              by_cases c12 : (l0.length : Int) > (l1.length : Int)
              · rw [if_pos c12] at H
                have c12b0 : decide ((l1.length : Int) < (l0.length : Int)) = true := decide_eq_true c12
                have c12b1 : decide (l1.length < l0.length) = true := decide_eq_true (Int.ofNat_lt.mp c12)
                clear c12
                obtain rfl := Option.some.inj H
                go_wp2
                repeat (go_quiet (fail); try go_wp2)
                go_ret
                exact ⟨by first | rfl | (simp; done) | (simp [*]; done), by repeat (first | exact Drawn0.refl _ | apply Drawn0.step)⟩
              · rw [if_neg c12] at H
                have c12b0 : decide ((l1.length : Int) < (l0.length : Int)) = false := decide_eq_false c12
                have c12b1 : decide (l1.length < l0.length) = false := decide_eq_false (fun h => c12 (Int.ofNat_lt.mpr h))
                clear c12
                obtain rfl := Option.some.inj H
                go_wp2
                repeat (go_quiet (fail); try go_wp2)
                go_ret
                exact ⟨by first | rfl | (simp; done) | (simp [*]; done), by repeat (first | exact Drawn0.refl _ | apply Drawn0.step)⟩
end Go.Proofs.Ytfdkcnbkoagmiaa.PA
end

section
namespace Go.Proofs.Ytfdkcnbkoagmiaa.PA
open Go.RowKit Go.Proofs.YtfdkcnbkoagmiaaW.PrintWords Go.Proofs.YtfdkcnbkoagmiaaW.PrintLast Go.Proofs.YtfdkcnbkoagmiaaW.PrintMore
attribute [local go_sem] max2_int min2_int max_two min_two max_three min_three max_four min_four   -- for this text's walks alone
set_option linter.unusedVariables false
set_option linter.unusedSimpArgs false
def larderref0_Eq.f (k : Nat) (l0 : List Int) (l1 : List Int) : Option (Bool) := (larderref0_Cmp.f k l0 l1).bind fun t135 => (some (t135 == 0))
theorem larderref0_Eq.mono : ∀ a0 a1 k, LeO (larderref0_Eq.f k a0 a1) (larderref0_Eq.f (k + 1) a0 a1) := by
  intro a0 a1 k
  unfold larderref0_Eq.f
  repeat' first
      | (with_reducible exact larderref0_Cmp.mono _ _ _)
      | (with_reducible exact LeO.refl _)
      | (with_reducible exact LeO.none _)
      | (with_reducible refine LeO.ite ?_ ?_)
      | (with_reducible refine LeO.bind ?_ (fun _ => ?_))
      | exact larderref0_Cmp.mono _ _ _
      | exact LeO.none _
      | refine LeO.ite ?_ ?_
      | refine LeO.bind ?_ (fun _ => ?_)
set_option maxHeartbeats 8000000 in
set_option maxRecDepth 100000 in
theorem larderref0_Eq.calls (k : Nat) (A0 : Option Addr) (c0 : Nat) (l0 : List Int) (A1 : Option Addr) (c1 : Nat) (l1 : List Int) (r : Bool) (w : World) (hr0 : Kd.C (Kd.int .u8) w A0 l0.length l0) (hc0 : l0.length ≤ c0) (hr1 : Kd.C (Kd.int .u8) w A1 l1.length l1) (hc1 : l1.length ≤ c1) (h : larderref0_Eq.f k l0 l1 = some r) :
    Calls Try.prog 37 #[.slice A0 l0.length c0, .slice A1 l1.length c1] w fun e w' => e = .returned (.bool r) ∧ Drawn0 w w' := by
  have HR0 := Aside0.mk hr0
  have HC0 := Aside0.mk hc0
  clear hr0 hc0
  have HR1 := Aside0.mk hr1
  have HC1 := Aside0.mk hc1
  clear hr1 hc1
  have H : ((larderref0_Cmp.f k l0 l1).bind fun t135 => (some (t135 == 0))) = some r := h
  clear h
  replace H := Option.bind_eq_some_iff.mp H
  obtain ⟨t135, A30, H⟩ := H
  replace H : (some (t135 == 0)) = some r := H
  have A3 := Aside0.mk A30
  clear A30
  obtain rfl := Option.some.inj H
  go_enter Try.func37, Try.ntmps37
  go_wp2_with (first | ((with_reducible refine gate_callee (f := 31) rfl ?_); refine goesL_ (some 7) rfl rfl Try.func31 (by kernel_rfl) rfl #[.slice A0 l0.length c0, .slice A1 l1.length c1] rfl (by (try simp only [List.map_toArray, List.map_cons, List.map_nil]); first | done | rfl | (simp only [List.length_drop, List.length_take]; rfl)) ?_; (with_reducible refine (larderref0_Cmp.calls k _ _ l0 _ _ l1 t135 _ ?side1 ?side2 ?side3 ?side4 A3.out).mono ?_); (case side1 => repeat (first | exact HR0.out | (with_reducible refine Kd.C_alloc ?_ _) | (with_reducible refine Kd.C_drewN ?_ _) | (with_reducible refine Kd.C_drew ?_))); (case side2 => exact HC0.out); (case side3 => repeat (first | exact HR1.out | (with_reducible refine Kd.C_alloc ?_ _) | (with_reducible refine Kd.C_drewN ?_ _) | (with_reducible refine Kd.C_drew ?_))); (case side4 => exact HC1.out); rintro e w' ⟨rfl, ⟨nd, rfl⟩⟩; refine ⟨_, rfl, ?_⟩))
  go_ret
  exact ⟨by first | rfl | (simp; done) | (simp [*]; done), by repeat (first | exact Drawn0.refl _ | apply Drawn0.step)⟩
end Go.Proofs.Ytfdkcnbkoagmiaa.PA
end

section
namespace Go.Proofs.Ytfdkcnbkoagmiaa.PA
open Go.RowKit Go.Proofs.YtfdkcnbkoagmiaaW.PrintWords Go.Proofs.YtfdkcnbkoagmiaaW.PrintLast Go.Proofs.YtfdkcnbkoagmiaaW.PrintMore
attribute [local go_sem] max2_int min2_int max_two min_two max_three min_three max_four min_four   -- for this text's walks alone
set_option linter.unusedVariables false
set_option linter.unusedSimpArgs false
def larderref0_EqLists.l0 : Nat → List (List Int) → List (List Int) → Int → Option (Bool)
  | 0, _, _, _ => none
  | k + 1, x0, x1, x5 => if x5 < (x0.length : Int) then (if 0 ≤ x5 then (if x5 < (x1.length : Int) then ((larderref0_Cmp.f k (rd_L1 x0 x5) (rd_L1 x1 x5)).bind fun t138 => (if t138 = 0 then (larderref0_EqLists.l0 k x0 x1 (wrap64 (x5 + 1))) else (some false))) else (none)) else (none)) else (some true)
def larderref0_EqLists.f (k : Nat) (l0 : List (List Int)) (l1 : List (List Int)) : Option (Bool) := if (l0.length : Int) = (l1.length : Int) then (larderref0_EqLists.l0 k l0 l1 0) else (some false)
theorem larderref0_EqLists.mono_l : ∀ k, (∀ y0 y1 y2, LeO (larderref0_EqLists.l0 k y0 y1 y2) (larderref0_EqLists.l0 (k + 1) y0 y1 y2))
  | 0 => fun _ _ _ r h => by simp [larderref0_EqLists.l0] at h
  | k + 1 => by
    have ih0 := larderref0_EqLists.mono_l k
    · intro y0 y1 y2
      unfold larderref0_EqLists.l0
      repeat' first
      | (with_reducible exact ih0 _ _ _)
      | (with_reducible exact larderref0_Cmp.mono _ _ _)
      | (with_reducible exact LeO.refl _)
      | (with_reducible exact LeO.none _)
      | (with_reducible refine LeO.ite ?_ ?_)
      | (with_reducible refine LeO.bind ?_ (fun _ => ?_))
      | exact ih0 _ _ _
      | exact larderref0_Cmp.mono _ _ _
      | exact LeO.none _
      | refine LeO.ite ?_ ?_
      | refine LeO.bind ?_ (fun _ => ?_)
theorem larderref0_EqLists.mono : ∀ a0 a1 k, LeO (larderref0_EqLists.f k a0 a1) (larderref0_EqLists.f (k + 1) a0 a1) := by
  intro a0 a1 k
  have ih0 := larderref0_EqLists.mono_l k
  unfold larderref0_EqLists.f
  repeat' first
      | (with_reducible exact ih0 _ _ _)
      | (with_reducible exact larderref0_Cmp.mono _ _ _)
      | (with_reducible exact LeO.refl _)
      | (with_reducible exact LeO.none _)
      | (with_reducible refine LeO.ite ?_ ?_)
      | (with_reducible refine LeO.bind ?_ (fun _ => ?_))
      | exact ih0 _ _ _
      | exact larderref0_Cmp.mono _ _ _
      | exact LeO.none _
      | refine LeO.ite ?_ ?_
      | refine LeO.bind ?_ (fun _ => ?_)
set_option maxHeartbeats 8000000 in
set_option maxRecDepth 100000 in
theorem larderref0_EqLists.calls (k : Nat) (A0 : Option Addr) (c0 : Nat) (l0 : List (List Int)) (A1 : Option Addr) (c1 : Nat) (l1 : List (List Int)) (r : Bool) (w : World) (hr0 : Kd.C (Kd.slice 5 (Kd.int .u8)) w A0 l0.length l0) (hc0 : l0.length ≤ c0) (hr1 : Kd.C (Kd.slice 5 (Kd.int .u8)) w A1 l1.length l1) (hc1 : l1.length ≤ c1) (h : larderref0_EqLists.f k l0 l1 = some r) :
    Calls Try.prog 11 #[.slice A0 l0.length c0, .slice A1 l1.length c1] w fun e w' => e = .returned (.bool r) ∧ Drawn0 w w' := by
  have HR0 := Aside0.mk hr0
  have HC0 := Aside0.mk hc0
  clear hr0 hc0
  have HR1 := Aside0.mk hr1
  have HC1 := Aside0.mk hc1
  clear hr1 hc1
  have H : (if (l0.length : Int) = (l1.length : Int) then (larderref0_EqLists.l0 k l0 l1 0) else (some false)) = some r := h
  clear h
  by_cases c3 : (l0.length : Int) = (l1.length : Int)
  · rw [if_pos c3] at H
    have c3b0 : ((l0.length : Int) == (l1.length : Int)) = true := beq_iff_eq.mpr c3
    have c3b1 : ((l0.length : Int) != (l1.length : Int)) = false := bne_eq_false_iff_eq.mpr c3
    have c3b2 : (l0.length == l1.length) = true := by first | simpa using c3 | (simp at c3 ⊢; omega)
    clear c3
    have H' := Aside0.mk H
    clear H
    go_enter Try.func11, Try.ntmps11
    go_wp2
    repeat (go_quiet (fail); try go_wp2)
    go_loopg [5] k (fun kq v5 w' => ∃ (x5_1 : Int), v5 = .int .i64 x5_1 ∧ Aside0 (larderref0_EqLists.l0 kq l0 l1 x5_1 = some r) ∧ Aside0 (kq ≤ k) ∧ Drawn0 w w')
    case atStart => exact ⟨(0), (by first | rfl | (simp; done) | (simp [*]; done)), H', ⟨Nat.le_refl _⟩, by repeat (first | exact Drawn0.refl _ | apply Drawn0.step)⟩
    case round =>
      clear H'
      try clear c1
      try clear p2
      try clear c3
      try clear c3b0
      try clear c3b1
      try clear c3b2
      obtain ⟨x5_1, rfl, HA, HK1, ⟨m1, rfl⟩⟩ := hrel
      cases gk with
      | zero => exact absurd HA.out (by simp [larderref0_EqLists.l0])
      | succ k1 =>
        have H := HA.out
        clear HA
        simp only [larderref0_EqLists.l0] at H
        by_cases c4 : x5_1 < (l0.length : Int)
        · rw [if_pos c4] at H
          have c4b0 : decide (x5_1 < (l0.length : Int)) = true := decide_eq_true c4
          clear c4
          by_cases c5 : 0 ≤ x5_1
          · rw [if_pos c5] at H
            have c5b0 : decide (0 ≤ x5_1) = true := decide_eq_true c5
            clear c5
            by_cases c6 : x5_1 < (l1.length : Int)
            · rw [if_pos c6] at H
              have c6b0 : decide (x5_1 < (l1.length : Int)) = true := decide_eq_true c6
              clear c6
              replace H := Option.bind_eq_some_iff.mp H
              obtain ⟨t138, A70, H⟩ := H
              replace H : (if t138 = 0 then (larderref0_EqLists.l0 k1 l0 l1 (wrap64 (x5_1 + 1))) else (some false)) = some r := H
              have A7 := Aside0.mk A70
              clear A70
              by_cases c8 : t138 = 0
              · rw [if_pos c8] at H
                have c8b0 : (t138 == 0) = true := beq_iff_eq.mpr c8
                have c8b1 : (t138 != 0) = false := bne_eq_false_iff_eq.mpr c8
                clear c8
                have H' := Aside0.mk H
                clear H
                have p136 : 0 ≤ (x5_1 : Int) := of_decide_eq_true (by first | (with_reducible assumption) | assumption)
                have q136 : x5_1 < (l0.length : Int) := of_decide_eq_true (by first | (with_reducible assumption) | assumption)
                obtain ⟨ad136, A136_0, c136_0, e136, hx136_0, hl136_0, hi136_0⟩ := at_L1 HR0.out x5_1 p136 q136
                cases e136
                have HR136_0 := Aside0.mk hi136_0
                have HC136_0 := Aside0.mk hl136_0
                clear hi136_0 hl136_0
                replace p136 := eq_true p136
                replace q136 := eq_true q136
                have p137 : 0 ≤ (x5_1 : Int) := of_decide_eq_true (by first | (with_reducible assumption) | assumption)
                have q137 : x5_1 < (l1.length : Int) := of_decide_eq_true (by first | (with_reducible assumption) | assumption)
                obtain ⟨ad137, A137_0, c137_0, e137, hx137_0, hl137_0, hi137_0⟩ := at_L1 HR1.out x5_1 p137 q137
                cases e137
                have HR137_0 := Aside0.mk hi137_0
                have HC137_0 := Aside0.mk hl137_0
                clear hi137_0 hl137_0
                replace p137 := eq_true p137
                replace q137 := eq_true q137
                go_wp2_with (first | (go_at_call 31; (with_reducible refine (larderref0_Cmp.calls k1 _ _ (rd_L1 l0 x5_1) _ _ (rd_L1 l1 x5_1) t138 _ ?side1 ?side2 ?side3 ?side4 A7.out).mono ?_); (case side1 => repeat (first | exact HR136_0.out | (with_reducible refine Kd.C_alloc ?_ _) | (with_reducible refine Kd.C_drewN ?_ _) | (with_reducible refine Kd.C_drew ?_))); (case side2 => exact HC136_0.out); (case side3 => repeat (first | exact HR137_0.out | (with_reducible refine Kd.C_alloc ?_ _) | (with_reducible refine Kd.C_drewN ?_ _) | (with_reducible refine Kd.C_drew ?_))); (case side4 => exact HC137_0.out); rintro e w' ⟨rfl, ⟨nd, rfl⟩⟩; (try first | exact ⟨rfl, _, World.drewN_drewN _ _ _⟩ | exact ⟨rfl, _, Eq.trans (World.drewN_drewN _ _ _) (congrArg (World.drewN _) (Nat.add_assoc _ _ _))⟩)))
                repeat (go_quiet (first | (go_at_call 31; (with_reducible refine (larderref0_Cmp.calls k1 _ _ (rd_L1 l0 x5_1) _ _ (rd_L1 l1 x5_1) t138 _ ?side1 ?side2 ?side3 ?side4 A7.out).mono ?_); (case side1 => repeat (first | exact HR136_0.out | (with_reducible refine Kd.C_alloc ?_ _) | (with_reducible refine Kd.C_drewN ?_ _) | (with_reducible refine Kd.C_drew ?_))); (case side2 => exact HC136_0.out); (case side3 => repeat (first | exact HR137_0.out | (with_reducible refine Kd.C_alloc ?_ _) | (with_reducible refine Kd.C_drewN ?_ _) | (with_reducible refine Kd.C_drew ?_))); (case side4 => exact HC137_0.out); rintro e w' ⟨rfl, ⟨nd, rfl⟩⟩; (try first | exact ⟨rfl, _, World.drewN_drewN _ _ _⟩ | exact ⟨rfl, _, Eq.trans (World.drewN_drewN _ _ _) (congrArg (World.drewN _) (Nat.add_assoc _ _ _))⟩))); try go_wp2_with (first | (go_at_call 31; (with_reducible refine (larderref0_Cmp.calls k1 _ _ (rd_L1 l0 x5_1) _ _ (rd_L1 l1 x5_1) t138 _ ?side1 ?side2 ?side3 ?side4 A7.out).mono ?_); (case side1 => repeat (first | exact HR136_0.out | (with_reducible refine Kd.C_alloc ?_ _) | (with_reducible refine Kd.C_drewN ?_ _) | (with_reducible refine Kd.C_drew ?_))); (case side2 => exact HC136_0.out); (case side3 => repeat (first | exact HR137_0.out | (with_reducible refine Kd.C_alloc ?_ _) | (with_reducible refine Kd.C_drewN ?_ _) | (with_reducible refine Kd.C_drew ?_))); (case side4 => exact HC137_0.out); rintro e w' ⟨rfl, ⟨nd, rfl⟩⟩; (try first | exact ⟨rfl, _, World.drewN_drewN _ _ _⟩ | exact ⟨rfl, _, Eq.trans (World.drewN_drewN _ _ _) (congrArg (World.drewN _) (Nat.add_assoc _ _ _))⟩))))
                go_roundg k1
                case measure => have := HK1.out; omega
                case rel => exact ⟨(wrap64 (x5_1 + 1)), (by first | rfl | (simp; done) | (simp [*]; done)), H', ⟨by have := HK1.out; omega⟩, by repeat (first | exact Drawn0.refl _ | apply Drawn0.step)⟩
              · rw [if_neg c8] at H
                have c8b0 : (t138 == 0) = false := beq_eq_false_iff_ne.mpr c8
                have c8b1 : (t138 != 0) = true := bne_iff_ne.mpr c8
                obtain rfl := Option.some.inj H
                have p136 : 0 ≤ (x5_1 : Int) := of_decide_eq_true (by first | (with_reducible assumption) | assumption)
                have q136 : x5_1 < (l0.length : Int) := of_decide_eq_true (by first | (with_reducible assumption) | assumption)
                obtain ⟨ad136, A136_0, c136_0, e136, hx136_0, hl136_0, hi136_0⟩ := at_L1 HR0.out x5_1 p136 q136
                cases e136
                have HR136_0 := Aside0.mk hi136_0
                have HC136_0 := Aside0.mk hl136_0
                clear hi136_0 hl136_0
                replace p136 := eq_true p136
                replace q136 := eq_true q136
                have p137 : 0 ≤ (x5_1 : Int) := of_decide_eq_true (by first | (with_reducible assumption) | assumption)
                have q137 : x5_1 < (l1.length : Int) := of_decide_eq_true (by first | (with_reducible assumption) | assumption)
                obtain ⟨ad137, A137_0, c137_0, e137, hx137_0, hl137_0, hi137_0⟩ := at_L1 HR1.out x5_1 p137 q137
                cases e137
                have HR137_0 := Aside0.mk hi137_0
                have HC137_0 := Aside0.mk hl137_0
                clear hi137_0 hl137_0
                replace p137 := eq_true p137
                replace q137 := eq_true q137
                go_wp2_with (first | (go_at_call 31; (with_reducible refine (larderref0_Cmp.calls k1 _ _ (rd_L1 l0 x5_1) _ _ (rd_L1 l1 x5_1) t138 _ ?side1 ?side2 ?side3 ?side4 A7.out).mono ?_); (case side1 => repeat (first | exact HR136_0.out | (with_reducible refine Kd.C_alloc ?_ _) | (with_reducible refine Kd.C_drewN ?_ _) | (with_reducible refine Kd.C_drew ?_))); (case side2 => exact HC136_0.out); (case side3 => repeat (first | exact HR137_0.out | (with_reducible refine Kd.C_alloc ?_ _) | (with_reducible refine Kd.C_drewN ?_ _) | (with_reducible refine Kd.C_drew ?_))); (case side4 => exact HC137_0.out); rintro e w' ⟨rfl, ⟨nd, rfl⟩⟩; (try first | exact ⟨rfl, _, World.drewN_drewN _ _ _⟩ | exact ⟨rfl, _, Eq.trans (World.drewN_drewN _ _ _) (congrArg (World.drewN _) (Nat.add_assoc _ _ _))⟩)))
                repeat (go_quiet (first | (go_at_call 31; (with_reducible refine (larderref0_Cmp.calls k1 _ _ (rd_L1 l0 x5_1) _ _ (rd_L1 l1 x5_1) t138 _ ?side1 ?side2 ?side3 ?side4 A7.out).mono ?_); (case side1 => repeat (first | exact HR136_0.out | (with_reducible refine Kd.C_alloc ?_ _) | (with_reducible refine Kd.C_drewN ?_ _) | (with_reducible refine Kd.C_drew ?_))); (case side2 => exact HC136_0.out); (case side3 => repeat (first | exact HR137_0.out | (with_reducible refine Kd.C_alloc ?_ _) | (with_reducible refine Kd.C_drewN ?_ _) | (with_reducible refine Kd.C_drew ?_))); (case side4 => exact HC137_0.out); rintro e w' ⟨rfl, ⟨nd, rfl⟩⟩; (try first | exact ⟨rfl, _, World.drewN_drewN _ _ _⟩ | exact ⟨rfl, _, Eq.trans (World.drewN_drewN _ _ _) (congrArg (World.drewN _) (Nat.add_assoc _ _ _))⟩))); try go_wp2_with (first | (go_at_call 31; (with_reducible refine (larderref0_Cmp.calls k1 _ _ (rd_L1 l0 x5_1) _ _ (rd_L1 l1 x5_1) t138 _ ?side1 ?side2 ?side3 ?side4 A7.out).mono ?_); (case side1 => repeat (first | exact HR136_0.out | (with_reducible refine Kd.C_alloc ?_ _) | (with_reducible refine Kd.C_drewN ?_ _) | (with_reducible refine Kd.C_drew ?_))); (case side2 => exact HC136_0.out); (case side3 => repeat (first | exact HR137_0.out | (with_reducible refine Kd.C_alloc ?_ _) | (with_reducible refine Kd.C_drewN ?_ _) | (with_reducible refine Kd.C_drew ?_))); (case side4 => exact HC137_0.out); rintro e w' ⟨rfl, ⟨nd, rfl⟩⟩; (try first | exact ⟨rfl, _, World.drewN_drewN _ _ _⟩ | exact ⟨rfl, _, Eq.trans (World.drewN_drewN _ _ _) (congrArg (World.drewN _) (Nat.add_assoc _ _ _))⟩))))
                go_ret
                exact ⟨by first | rfl | (simp; done) | (simp [*]; done), by repeat (first | exact Drawn0.refl _ | apply Drawn0.step)⟩
            · rw [if_neg c6] at H
              exact absurd H (by simp)
          · rw [if_neg c5] at H
            exact absurd H (by simp)
        · rw [if_neg c4] at H
          have c4b0 : decide (x5_1 < (l0.length : Int)) = false := decide_eq_false c4
          clear c4
          obtain rfl := Option.some.inj H
          go_wp2
          repeat (go_quiet (fail); try go_wp2)
          go_ret
          exact ⟨by first | rfl | (simp; done) | (simp [*]; done), by repeat (first | exact Drawn0.refl _ | apply Drawn0.step)⟩
  · rw [if_neg c3] at H
    have c3b0 : ((l0.length : Int) == (l1.length : Int)) = false := beq_eq_false_iff_ne.mpr c3
    have c3b1 : ((l0.length : Int) != (l1.length : Int)) = true := bne_iff_ne.mpr c3
    have c3b2 : (l0.length == l1.length) = false := by first | simpa using c3 | (simp at c3 ⊢; omega)
    obtain rfl := Option.some.inj H
    go_enter Try.func11, Try.ntmps11
    go_wp2
    repeat (go_quiet (fail); try go_wp2)
    go_ret
    exact ⟨by first | rfl | (simp; done) | (simp [*]; done), by repeat (first | exact Drawn0.refl _ | apply Drawn0.step)⟩
end Go.Proofs.Ytfdkcnbkoagmiaa.PA
end

section
namespace Go.Proofs.Ytfdkcnbkoagmiaa.PA
open Go.RowKit Go.Proofs.YtfdkcnbkoagmiaaW.PrintWords Go.Proofs.YtfdkcnbkoagmiaaW.PrintLast Go.Proofs.YtfdkcnbkoagmiaaW.PrintMore
attribute [local go_sem] max2_int min2_int max_two min_two max_three min_three max_four min_four   -- for this text's walks alone
set_option linter.unusedVariables false
set_option linter.unusedSimpArgs false
def larderlaw8_sameCommands.l0 : Nat → List (List (List Int)) → List (List (List Int)) → Int → Option (Bool)
  | 0, _, _, _ => none
  | k + 1, x0, x1, x5 => if x5 < (x0.length : Int) then (if 0 ≤ x5 then (if x5 < (x1.length : Int) then ((larderref0_EqLists.f k (rd_L2 x0 x5) (rd_L2 x1 x5)).bind fun t170 => (if t170 = true then (larderlaw8_sameCommands.l0 k x0 x1 (wrap64 (x5 + 1))) else (some false))) else (none)) else (none)) else (some true)
def larderlaw8_sameCommands.f (k : Nat) (l0 : List (List (List Int))) (l1 : List (List (List Int))) : Option (Bool) := if (l0.length : Int) = (l1.length : Int) then (larderlaw8_sameCommands.l0 k l0 l1 0) else (some false)
theorem larderlaw8_sameCommands.mono_l : ∀ k, (∀ y0 y1 y2, LeO (larderlaw8_sameCommands.l0 k y0 y1 y2) (larderlaw8_sameCommands.l0 (k + 1) y0 y1 y2))
  | 0 => fun _ _ _ r h => by simp [larderlaw8_sameCommands.l0] at h
  | k + 1 => by
    have ih0 := larderlaw8_sameCommands.mono_l k
    · intro y0 y1 y2
      unfold larderlaw8_sameCommands.l0
      repeat' first
      | (with_reducible exact ih0 _ _ _)
      | (with_reducible exact larderref0_EqLists.mono _ _ _)
      | (with_reducible exact LeO.refl _)
      | (with_reducible exact LeO.none _)
      | (with_reducible refine LeO.ite ?_ ?_)
      | (with_reducible refine LeO.bind ?_ (fun _ => ?_))
      | exact ih0 _ _ _
      | exact larderref0_EqLists.mono _ _ _
      | exact LeO.none _
      | refine LeO.ite ?_ ?_
      | refine LeO.bind ?_ (fun _ => ?_)
theorem larderlaw8_sameCommands.mono : ∀ a0 a1 k, LeO (larderlaw8_sameCommands.f k a0 a1) (larderlaw8_sameCommands.f (k + 1) a0 a1) := by
  intro a0 a1 k
  have ih0 := larderlaw8_sameCommands.mono_l k
  unfold larderlaw8_sameCommands.f
  repeat' first
      | (with_reducible exact ih0 _ _ _)
      | (with_reducible exact larderref0_EqLists.mono _ _ _)
      | (with_reducible exact LeO.refl _)
      | (with_reducible exact LeO.none _)
      | (with_reducible refine LeO.ite ?_ ?_)
      | (with_reducible refine LeO.bind ?_ (fun _ => ?_))
      | exact ih0 _ _ _
      | exact larderref0_EqLists.mono _ _ _
      | exact LeO.none _
      | refine LeO.ite ?_ ?_
      | refine LeO.bind ?_ (fun _ => ?_)
set_option maxHeartbeats 8000000 in
set_option maxRecDepth 100000 in
theorem larderlaw8_sameCommands.calls (k : Nat) (A0 : Option Addr) (c0 : Nat) (l0 : List (List (List Int))) (A1 : Option Addr) (c1 : Nat) (l1 : List (List (List Int))) (r : Bool) (w : World) (hr0 : Kd.C (Kd.slice 26 (Kd.slice 5 (Kd.int .u8))) w A0 l0.length l0) (hc0 : l0.length ≤ c0) (hr1 : Kd.C (Kd.slice 26 (Kd.slice 5 (Kd.int .u8))) w A1 l1.length l1) (hc1 : l1.length ≤ c1) (h : larderlaw8_sameCommands.f k l0 l1 = some r) :
    Calls Try.prog 19 #[.slice A0 l0.length c0, .slice A1 l1.length c1] w fun e w' => e = .returned (.bool r) ∧ Drawn0 w w' := by
  have HR0 := Aside0.mk hr0
  have HC0 := Aside0.mk hc0
  clear hr0 hc0
  have HR1 := Aside0.mk hr1
  have HC1 := Aside0.mk hc1
  clear hr1 hc1
  have H : (if (l0.length : Int) = (l1.length : Int) then (larderlaw8_sameCommands.l0 k l0 l1 0) else (some false)) = some r := h
  clear h
  by_cases c3 : (l0.length : Int) = (l1.length : Int)
  · rw [if_pos c3] at H
    have c3b0 : ((l0.length : Int) == (l1.length : Int)) = true := beq_iff_eq.mpr c3
    have c3b1 : ((l0.length : Int) != (l1.length : Int)) = false := bne_eq_false_iff_eq.mpr c3
    have c3b2 : (l0.length == l1.length) = true := by first | simpa using c3 | (simp at c3 ⊢; omega)
    clear c3
    have H' := Aside0.mk H
    clear H
    go_enter Try.func19, Try.ntmps19
    go_wp2
    repeat (go_quiet (fail); try go_wp2)
    go_loopg [5] k (fun kq v5 w' => ∃ (x5_1 : Int), v5 = .int .i64 x5_1 ∧ Aside0 (larderlaw8_sameCommands.l0 kq l0 l1 x5_1 = some r) ∧ Aside0 (kq ≤ k) ∧ Drawn0 w w')
    case atStart => exact ⟨(0), (by first | rfl | (simp; done) | (simp [*]; done)), H', ⟨Nat.le_refl _⟩, by repeat (first | exact Drawn0.refl _ | apply Drawn0.step)⟩
    case round =>
      clear H'
      try clear c1
      try clear p2
      try clear c3
      try clear c3b0
      try clear c3b1
      try clear c3b2
      obtain ⟨x5_1, rfl, HA, HK1, ⟨m1, rfl⟩⟩ := hrel
      cases gk with
      | zero => exact absurd HA.out (by simp [larderlaw8_sameCommands.l0])
      | succ k1 =>
        have H := HA.out
        clear HA
        simp only [larderlaw8_sameCommands.l0] at H
        by_cases c4 : x5_1 < (l0.length : Int)
        · rw [if_pos c4] at H
          have c4b0 : decide (x5_1 < (l0.length : Int)) = true := decide_eq_true c4
          clear c4
          by_cases c5 : 0 ≤ x5_1
          · rw [if_pos c5] at H
            have c5b0 : decide (0 ≤ x5_1) = true := decide_eq_true c5
            clear c5
            by_cases c6 : x5_1 < (l1.length : Int)
            · rw [if_pos c6] at H
              have c6b0 : decide (x5_1 < (l1.length : Int)) = true := decide_eq_true c6
              clear c6
              replace H := Option.bind_eq_some_iff.mp H
              obtain ⟨t170, A70, H⟩ := H
              replace H : (if t170 = true then (larderlaw8_sameCommands.l0 k1 l0 l1 (wrap64 (x5_1 + 1))) else (some false)) = some r := H
              have A7 := Aside0.mk A70
              clear A70
              by_cases c8 : t170 = true
              · subst c8
                have H1 : (larderlaw8_sameCommands.l0 k1 l0 l1 (wrap64 (x5_1 + 1))) = some r := by rw [if_pos rfl] at H; exact H
                clear H
                have H := H1
                clear H1
                have H' := Aside0.mk H
                clear H
                have p168 : 0 ≤ (x5_1 : Int) := of_decide_eq_true (by first | (with_reducible assumption) | assumption)
                have q168 : x5_1 < (l0.length : Int) := of_decide_eq_true (by first | (with_reducible assumption) | assumption)
                obtain ⟨ad168, A168_0, c168_0, e168, hx168_0, hl168_0, hi168_0⟩ := at_L2 HR0.out x5_1 p168 q168
                cases e168
                have HR168_0 := Aside0.mk hi168_0
                have HC168_0 := Aside0.mk hl168_0
                clear hi168_0 hl168_0
                replace p168 := eq_true p168
                replace q168 := eq_true q168
                have p169 : 0 ≤ (x5_1 : Int) := of_decide_eq_true (by first | (with_reducible assumption) | assumption)
                have q169 : x5_1 < (l1.length : Int) := of_decide_eq_true (by first | (with_reducible assumption) | assumption)
                obtain ⟨ad169, A169_0, c169_0, e169, hx169_0, hl169_0, hi169_0⟩ := at_L2 HR1.out x5_1 p169 q169
                cases e169
                have HR169_0 := Aside0.mk hi169_0
                have HC169_0 := Aside0.mk hl169_0
                clear hi169_0 hl169_0
                replace p169 := eq_true p169
                replace q169 := eq_true q169
                go_wp2_with (first | (go_at_call 11; (with_reducible refine (larderref0_EqLists.calls k1 _ _ (rd_L2 l0 x5_1) _ _ (rd_L2 l1 x5_1) true _ ?side1 ?side2 ?side3 ?side4 A7.out).mono ?_); (case side1 => repeat (first | exact HR168_0.out | (with_reducible refine Kd.C_alloc ?_ _) | (with_reducible refine Kd.C_drewN ?_ _) | (with_reducible refine Kd.C_drew ?_))); (case side2 => exact HC168_0.out); (case side3 => repeat (first | exact HR169_0.out | (with_reducible refine Kd.C_alloc ?_ _) | (with_reducible refine Kd.C_drewN ?_ _) | (with_reducible refine Kd.C_drew ?_))); (case side4 => exact HC169_0.out); rintro e w' ⟨rfl, ⟨nd, rfl⟩⟩; (try first | exact ⟨rfl, _, World.drewN_drewN _ _ _⟩ | exact ⟨rfl, _, Eq.trans (World.drewN_drewN _ _ _) (congrArg (World.drewN _) (Nat.add_assoc _ _ _))⟩)))
                repeat (go_quiet (first | (go_at_call 11; (with_reducible refine (larderref0_EqLists.calls k1 _ _ (rd_L2 l0 x5_1) _ _ (rd_L2 l1 x5_1) true _ ?side1 ?side2 ?side3 ?side4 A7.out).mono ?_); (case side1 => repeat (first | exact HR168_0.out | (with_reducible refine Kd.C_alloc ?_ _) | (with_reducible refine Kd.C_drewN ?_ _) | (with_reducible refine Kd.C_drew ?_))); (case side2 => exact HC168_0.out); (case side3 => repeat (first | exact HR169_0.out | (with_reducible refine Kd.C_alloc ?_ _) | (with_reducible refine Kd.C_drewN ?_ _) | (with_reducible refine Kd.C_drew ?_))); (case side4 => exact HC169_0.out); rintro e w' ⟨rfl, ⟨nd, rfl⟩⟩; (try first | exact ⟨rfl, _, World.drewN_drewN _ _ _⟩ | exact ⟨rfl, _, Eq.trans (World.drewN_drewN _ _ _) (congrArg (World.drewN _) (Nat.add_assoc _ _ _))⟩))); try go_wp2_with (first | (go_at_call 11; (with_reducible refine (larderref0_EqLists.calls k1 _ _ (rd_L2 l0 x5_1) _ _ (rd_L2 l1 x5_1) true _ ?side1 ?side2 ?side3 ?side4 A7.out).mono ?_); (case side1 => repeat (first | exact HR168_0.out | (with_reducible refine Kd.C_alloc ?_ _) | (with_reducible refine Kd.C_drewN ?_ _) | (with_reducible refine Kd.C_drew ?_))); (case side2 => exact HC168_0.out); (case side3 => repeat (first | exact HR169_0.out | (with_reducible refine Kd.C_alloc ?_ _) | (with_reducible refine Kd.C_drewN ?_ _) | (with_reducible refine Kd.C_drew ?_))); (case side4 => exact HC169_0.out); rintro e w' ⟨rfl, ⟨nd, rfl⟩⟩; (try first | exact ⟨rfl, _, World.drewN_drewN _ _ _⟩ | exact ⟨rfl, _, Eq.trans (World.drewN_drewN _ _ _) (congrArg (World.drewN _) (Nat.add_assoc _ _ _))⟩))))
                go_roundg k1
                case measure => have := HK1.out; omega
                case rel => exact ⟨(wrap64 (x5_1 + 1)), (by first | rfl | (simp; done) | (simp [*]; done)), H', ⟨by have := HK1.out; omega⟩, by repeat (first | exact Drawn0.refl _ | apply Drawn0.step)⟩
              · replace c8 := Bool.eq_false_iff.mpr c8
                subst c8
                have H1 : (some false) = some r := by rw [if_neg (show ¬ (false = true) by decide)] at H; exact H
                clear H
                have H := H1
                clear H1
                obtain rfl := Option.some.inj H
                have p168 : 0 ≤ (x5_1 : Int) := of_decide_eq_true (by first | (with_reducible assumption) | assumption)
                have q168 : x5_1 < (l0.length : Int) := of_decide_eq_true (by first | (with_reducible assumption) | assumption)
                obtain ⟨ad168, A168_0, c168_0, e168, hx168_0, hl168_0, hi168_0⟩ := at_L2 HR0.out x5_1 p168 q168
                cases e168
                have HR168_0 := Aside0.mk hi168_0
                have HC168_0 := Aside0.mk hl168_0
                clear hi168_0 hl168_0
                replace p168 := eq_true p168
                replace q168 := eq_true q168
                have p169 : 0 ≤ (x5_1 : Int) := of_decide_eq_true (by first | (with_reducible assumption) | assumption)
                have q169 : x5_1 < (l1.length : Int) := of_decide_eq_true (by first | (with_reducible assumption) | assumption)
                obtain ⟨ad169, A169_0, c169_0, e169, hx169_0, hl169_0, hi169_0⟩ := at_L2 HR1.out x5_1 p169 q169
                cases e169
                have HR169_0 := Aside0.mk hi169_0
                have HC169_0 := Aside0.mk hl169_0
                clear hi169_0 hl169_0
                replace p169 := eq_true p169
                replace q169 := eq_true q169
                go_wp2_with (first | (go_at_call 11; (with_reducible refine (larderref0_EqLists.calls k1 _ _ (rd_L2 l0 x5_1) _ _ (rd_L2 l1 x5_1) false _ ?side1 ?side2 ?side3 ?side4 A7.out).mono ?_); (case side1 => repeat (first | exact HR168_0.out | (with_reducible refine Kd.C_alloc ?_ _) | (with_reducible refine Kd.C_drewN ?_ _) | (with_reducible refine Kd.C_drew ?_))); (case side2 => exact HC168_0.out); (case side3 => repeat (first | exact HR169_0.out | (with_reducible refine Kd.C_alloc ?_ _) | (with_reducible refine Kd.C_drewN ?_ _) | (with_reducible refine Kd.C_drew ?_))); (case side4 => exact HC169_0.out); rintro e w' ⟨rfl, ⟨nd, rfl⟩⟩; (try first | exact ⟨rfl, _, World.drewN_drewN _ _ _⟩ | exact ⟨rfl, _, Eq.trans (World.drewN_drewN _ _ _) (congrArg (World.drewN _) (Nat.add_assoc _ _ _))⟩)))
                repeat (go_quiet (first | (go_at_call 11; (with_reducible refine (larderref0_EqLists.calls k1 _ _ (rd_L2 l0 x5_1) _ _ (rd_L2 l1 x5_1) false _ ?side1 ?side2 ?side3 ?side4 A7.out).mono ?_); (case side1 => repeat (first | exact HR168_0.out | (with_reducible refine Kd.C_alloc ?_ _) | (with_reducible refine Kd.C_drewN ?_ _) | (with_reducible refine Kd.C_drew ?_))); (case side2 => exact HC168_0.out); (case side3 => repeat (first | exact HR169_0.out | (with_reducible refine Kd.C_alloc ?_ _) | (with_reducible refine Kd.C_drewN ?_ _) | (with_reducible refine Kd.C_drew ?_))); (case side4 => exact HC169_0.out); rintro e w' ⟨rfl, ⟨nd, rfl⟩⟩; (try first | exact ⟨rfl, _, World.drewN_drewN _ _ _⟩ | exact ⟨rfl, _, Eq.trans (World.drewN_drewN _ _ _) (congrArg (World.drewN _) (Nat.add_assoc _ _ _))⟩))); try go_wp2_with (first | (go_at_call 11; (with_reducible refine (larderref0_EqLists.calls k1 _ _ (rd_L2 l0 x5_1) _ _ (rd_L2 l1 x5_1) false _ ?side1 ?side2 ?side3 ?side4 A7.out).mono ?_); (case side1 => repeat (first | exact HR168_0.out | (with_reducible refine Kd.C_alloc ?_ _) | (with_reducible refine Kd.C_drewN ?_ _) | (with_reducible refine Kd.C_drew ?_))); (case side2 => exact HC168_0.out); (case side3 => repeat (first | exact HR169_0.out | (with_reducible refine Kd.C_alloc ?_ _) | (with_reducible refine Kd.C_drewN ?_ _) | (with_reducible refine Kd.C_drew ?_))); (case side4 => exact HC169_0.out); rintro e w' ⟨rfl, ⟨nd, rfl⟩⟩; (try first | exact ⟨rfl, _, World.drewN_drewN _ _ _⟩ | exact ⟨rfl, _, Eq.trans (World.drewN_drewN _ _ _) (congrArg (World.drewN _) (Nat.add_assoc _ _ _))⟩))))
                go_ret
                exact ⟨by first | rfl | (simp; done) | (simp [*]; done), by repeat (first | exact Drawn0.refl _ | apply Drawn0.step)⟩
            · rw [if_neg c6] at H
              exact absurd H (by simp)
          · rw [if_neg c5] at H
            exact absurd H (by simp)
        · rw [if_neg c4] at H
          have c4b0 : decide (x5_1 < (l0.length : Int)) = false := decide_eq_false c4
          clear c4
          obtain rfl := Option.some.inj H
          go_wp2
          repeat (go_quiet (fail); try go_wp2)
          go_ret
          exact ⟨by first | rfl | (simp; done) | (simp [*]; done), by repeat (first | exact Drawn0.refl _ | apply Drawn0.step)⟩
  · rw [if_neg c3] at H
    have c3b0 : ((l0.length : Int) == (l1.length : Int)) = false := beq_eq_false_iff_ne.mpr c3
    have c3b1 : ((l0.length : Int) != (l1.length : Int)) = true := bne_iff_ne.mpr c3
    have c3b2 : (l0.length == l1.length) = false := by first | simpa using c3 | (simp at c3 ⊢; omega)
    obtain rfl := Option.some.inj H
    go_enter Try.func19, Try.ntmps19
    go_wp2
    repeat (go_quiet (fail); try go_wp2)
    go_ret
    exact ⟨by first | rfl | (simp; done) | (simp [*]; done), by repeat (first | exact Drawn0.refl _ | apply Drawn0.step)⟩
end Go.Proofs.Ytfdkcnbkoagmiaa.PA
end

section
namespace Go.Proofs.Ytfdkcnbkoagmiaa.EqR
open Go Go.RowKit Go.Proofs.YtfdkcnbkoagmiaaW.PrintWords Go.Proofs.YtfdkcnbkoagmiaaW.PrintLast Go.Proofs.YtfdkcnbkoagmiaaW.PrintMore Go.Proofs.Ytfdkcnbkoagmiaa.PA
set_option linter.unusedVariables false
set_option maxRecDepth 100000
theorem cmp_self (l : List Int) (hl : l.length ≤ 1000000000) : ∀ (m i k : Nat), l.length - i ≤ m → i ≤ l.length → 2 * m + 2 ≤ k → larderref0_Cmp.l0 k l l (i : Int) = some 0 := by
  intro m
  induction m with
  | zero =>
    intro i k hm hi hk
    obtain ⟨k, rfl⟩ : ∃ k', k = k' + 2 := ⟨k - 2, by omega⟩
    have h1 : ¬ (i : Int) < (l.length : Int) := by omega
    have h2 : ¬ (l.length : Int) < (l.length : Int) := by omega
    rw [larderref0_Cmp.l0, if_neg h1, larderref0_Cmp.j1, if_neg (by decide), if_neg h2]
    first | rfl | (rw [if_neg h2]) | simp
  | succ m ih =>
    intro i k hm hi hk
    obtain ⟨k, rfl⟩ : ∃ k', k = k' + 2 := ⟨k - 2, by omega⟩
    by_cases h : i < l.length
    · have h1 : (i : Int) < (l.length : Int) := by omega
      have h0 : (0 : Int) ≤ (i : Int) := by omega
      have hr := ih (i + 1) k (by omega) (by omega) (by omega)
      rw [larderref0_Cmp.l0, if_pos h1, decide_eq_true h1, larderref0_Cmp.j1, if_pos rfl, if_pos h0, if_pos h1, if_pos h1, if_neg (Int.lt_irrefl _), if_neg (Int.lt_irrefl _), LinQ.wr1 i (by omega)]
      exact hr
    · have h1 : ¬ (i : Int) < (l.length : Int) := by omega
      have h2 : ¬ (l.length : Int) < (l.length : Int) := by omega
      rw [larderref0_Cmp.l0, if_neg h1, larderref0_Cmp.j1, if_neg (by decide), if_neg h2]
      first | rfl | (rw [if_neg h2]) | simp
theorem cmp_f (l : List Int) (hl : l.length ≤ 1000000000) (k : Nat) (hk : 2 * l.length + 2 ≤ k) : larderref0_Cmp.f k l l = some 0 := cmp_self l hl l.length 0 k (by omega) (by omega) hk
theorem eq_f (l : List Int) (hl : l.length ≤ 1000000000) (k : Nat) (hk : 2 * l.length + 2 ≤ k) : larderref0_Eq.f k l l = some true := by
  unfold larderref0_Eq.f
  rw [cmp_f l hl k hk]
  rfl
theorem lists_self (xs : List (List Int)) (B : Nat) (hB : ∀ x ∈ xs, x.length ≤ B) (hB9 : B ≤ 1000000000) (hl : xs.length ≤ 1000000000) : ∀ (m i k : Nat), xs.length - i ≤ m → i ≤ xs.length → 2 * B + 3 + m ≤ k → larderref0_EqLists.l0 k xs xs (i : Int) = some true := by
  intro m
  induction m with
  | zero =>
    intro i k hm hi hk
    obtain ⟨k, rfl⟩ : ∃ k', k = k' + 1 := ⟨k - 1, by omega⟩
    rw [larderref0_EqLists.l0, if_neg (show ¬ (i : Int) < (xs.length : Int) by omega)]
  | succ m ih =>
    intro i k hm hi hk
    obtain ⟨k, rfl⟩ : ∃ k', k = k' + 1 := ⟨k - 1, by omega⟩
    by_cases h : i < xs.length
    · have h1 : (i : Int) < (xs.length : Int) := by omega
      have h0 : (0 : Int) ≤ (i : Int) := by omega
      have hx : (rd_L1 xs (i : Int)).length ≤ B := by
        unfold rd_L1
        rw [Int.toNat_natCast, List.getD_eq_getElem?_getD, List.getElem?_eq_getElem h]
        exact hB _ (List.getElem_mem h)
      have hr := ih (i + 1) k (by omega) (by omega) (by omega)
      rw [larderref0_EqLists.l0, if_pos h1, if_pos h0, if_pos h1, cmp_f _ (by omega) k (by omega)]
      rw [Option.bind_some, if_pos rfl, LinQ.wr1 i (by omega)]
      exact hr
    · rw [larderref0_EqLists.l0, if_neg (show ¬ (i : Int) < (xs.length : Int) by omega)]
theorem lists_f (xs : List (List Int)) (B : Nat) (hB : ∀ x ∈ xs, x.length ≤ B) (hB9 : B ≤ 1000000000) (hl : xs.length ≤ B) (k : Nat) (hk : 3 * B + 3 ≤ k) : larderref0_EqLists.f k xs xs = some true := by
  unfold larderref0_EqLists.f
  rw [if_pos rfl]
  exact lists_self xs B hB hB9 (by omega) xs.length 0 k (by omega) (by omega) (by omega)
theorem cmds_self (xs : List (List (List Int))) (B : Nat) (hB : ∀ x ∈ xs, x.length ≤ B ∧ ∀ y ∈ x, y.length ≤ B) (hB9 : B ≤ 1000000000) (hl : xs.length ≤ 1000000000) : ∀ (m i k : Nat), xs.length - i ≤ m → i ≤ xs.length → 3 * B + 4 + m ≤ k → larderlaw8_sameCommands.l0 k xs xs (i : Int) = some true := by
  intro m
  induction m with
  | zero =>
    intro i k hm hi hk
    obtain ⟨k, rfl⟩ : ∃ k', k = k' + 1 := ⟨k - 1, by omega⟩
    rw [larderlaw8_sameCommands.l0, if_neg (show ¬ (i : Int) < (xs.length : Int) by omega)]
  | succ m ih =>
    intro i k hm hi hk
    obtain ⟨k, rfl⟩ : ∃ k', k = k' + 1 := ⟨k - 1, by omega⟩
    by_cases h : i < xs.length
    · have h1 : (i : Int) < (xs.length : Int) := by omega
      have h0 : (0 : Int) ≤ (i : Int) := by omega
      have hx : (rd_L2 xs (i : Int)).length ≤ B ∧ ∀ y ∈ rd_L2 xs (i : Int), y.length ≤ B := by
        unfold rd_L2
        rw [Int.toNat_natCast, List.getD_eq_getElem?_getD, List.getElem?_eq_getElem h]
        exact hB _ (List.getElem_mem h)
      have hr := ih (i + 1) k (by omega) (by omega) (by omega)
      rw [larderlaw8_sameCommands.l0, if_pos h1, if_pos h0, if_pos h1, lists_f _ B hx.2 hB9 hx.1 k (by omega)]
      rw [Option.bind_some, if_pos rfl, LinQ.wr1 i (by omega)]
      exact hr
    · rw [larderlaw8_sameCommands.l0, if_neg (show ¬ (i : Int) < (xs.length : Int) by omega)]
theorem cmds_f (xs : List (List (List Int))) (B : Nat) (hB : ∀ x ∈ xs, x.length ≤ B ∧ ∀ y ∈ x, y.length ≤ B) (hB9 : B ≤ 1000000000) (hl : xs.length ≤ B) : larderlaw8_sameCommands.f (4 * B + 4) xs xs = some true := by
  unfold larderlaw8_sameCommands.f
  rw [if_pos rfl]
  exact cmds_self xs B hB hB9 (by omega) xs.length 0 (4 * B + 4) (by omega) (by omega) (by omega)
theorem bound1 : ∀ (xs : List (List Int)), ∃ B, xs.length ≤ B ∧ ∀ y ∈ xs, y.length ≤ B := by
  intro xs
  induction xs with
  | nil => exact ⟨0, Nat.le_refl _, fun _ h => by cases h⟩
  | cons x xs ih =>
    obtain ⟨B, h1, h2⟩ := ih
    refine ⟨B + x.length + 1, by simp only [List.length_cons]; omega, fun y hy => ?_⟩
    rcases List.mem_cons.1 hy with rfl | hy
    · omega
    · have := h2 y hy; omega
theorem same.calls {xs : List (List (List Int))} {A0 A1 : Option Addr} {c0 c1 : Nat} {w : World} (h0 : Kd.C (Kd.slice 26 (Kd.slice 5 (Kd.int .u8))) w A0 xs.length xs) (hc0 : xs.length ≤ c0) (h1 : Kd.C (Kd.slice 26 (Kd.slice 5 (Kd.int .u8))) w A1 xs.length xs) (hc1 : xs.length ≤ c1) (B : Nat) (hB : ∀ x ∈ xs, x.length ≤ B ∧ ∀ y ∈ x, y.length ≤ B) (hB9 : B ≤ 1000000000) (hl : xs.length ≤ B) :
    Calls Try.prog 19 #[.slice A0 xs.length c0, .slice A1 xs.length c1] w fun e w' => e = .returned (.bool true) ∧ Drawn0 w w' :=
  larderlaw8_sameCommands.calls (4 * B + 4) A0 c0 xs A1 c1 xs true w h0 hc0 h1 hc1 (cmds_f xs B hB hB9 hl)
end Go.Proofs.Ytfdkcnbkoagmiaa.EqR
end

section
namespace Go.Proofs.Ytfdkcnbkoagmiaa.IsW
open Go Go.RowKit Go.Proofs.YtfdkcnbkoagmiaaW.PrintWords Go.Proofs.YtfdkcnbkoagmiaaW.PrintLast Go.Proofs.YtfdkcnbkoagmiaaW.PrintMore Go.Proofs.Ytfdkcnbkoagmiaa.PA Go.Proofs.Ytfdkcnbkoagmiaa.RowU Go.Proofs.Ytfdkcnbkoagmiaa.ArS Go.Proofs.Ytfdkcnbkoagmiaa.ArM Go.Proofs.Ytfdkcnbkoagmiaa.EqR
set_option linter.unusedVariables false
set_option maxRecDepth 100000
def pingS : ByteArray := ⟨#[80, 73, 78, 71]⟩
def pingL : List Int := [80, 73, 78, 71]
theorem pingC (w : World) : (Kd.int .u8).C (Lib.bytesWorld w 5 pingS) (some ⟨w.heap.size, 0, none⟩) 4 pingL := by
  refine ⟨rfl, by decide, fun _ => ⟨_, rfl, fun j p hp => ⟨[.int .u8 p], rfl, rfl, fun i u hu => ?_⟩⟩⟩
  cases i with
  | zero =>
    obtain rfl : Value.int .u8 p = u := by simpa using hu
    have hj : j < 4 := (List.getElem?_eq_some_iff.1 hp).1
    have := Lib.bytesWorld_cell w 5 pingS j hj
    show (Lib.bytesWorld w 5 pingS).cell? ((⟨w.heap.size, 0, none⟩ : Addr).add (j * 1 + 0)) = _
    rw [Nat.mul_one, Nat.add_zero, Addr.add_lit, Nat.zero_add, this]
    match j, hj, hp with
    | 0, _, hp => obtain rfl : 80 = p := by simpa [pingL] using hp
                  rfl
    | 1, _, hp => obtain rfl : 73 = p := by simpa [pingL] using hp
                  rfl
    | 2, _, hp => obtain rfl : 78 = p := by simpa [pingL] using hp
                  rfl
    | 3, _, hp => obtain rfl : 71 = p := by simpa [pingL] using hp
                  rfl
  | succ i => simp at hu
set_option maxHeartbeats 4000000 in
theorem is.calls (A : Option Addr) (c : Nat) (w : World) (hr : (Kd.int .u8).C w A 4 pingL) (hc : 4 ≤ c) : Calls Try.prog 27 #[.slice A 4 c, .string pingS] w fun e w' => e = .returned (.bool true) ∧ Below w.heap.size w w' := by
  have kb := fun (W : World) => Lib.run_convert_string_bytes (P := Try.prog) W 9 26 5 pingS Try.underlying9 Try.underlying26 Try.underlying5
  have hB : Below w.heap.size w (Lib.bytesWorld w 5 pingS) := Joins.below_bytesWorld _ w _ _ (Nat.le_refl _)
  have HB := Aside0.mk hB
  have hg : 4 ≤ grownCap w pingS.size 0 5 := grownCap_ge w pingS.size 0 5
  have HE : Aside0 (Calls Try.prog 37 #[.slice A 4 c, .slice (some ⟨w.heap.size, 0, none⟩) 4 (grownCap w pingS.size 0 5)] (Lib.bytesWorld w 5 pingS) fun e w' => e = .returned (.bool true) ∧ Drawn0 (Lib.bytesWorld w 5 pingS) w') := ⟨larderref0_Eq.calls 10 A c pingL (some ⟨w.heap.size, 0, none⟩) _ pingL true _ (Kd.C_below hr hB) hc (pingC w) hg (eq_f pingL (by decide) 10 (by decide))⟩
  clear hB hr hg
  go_enter Try.func27, Try.ntmps27
  go_wp2_with (go_at_call 37; refine HE.out.mono ?_; rintro e w2 ⟨rfl, hd⟩; have HD := Aside0.mk hd; clear hd)
  go_ret
  exact ⟨rfl, below_next HB.out HD.out.below⟩
end Go.Proofs.Ytfdkcnbkoagmiaa.IsW
end

section
namespace Go.Proofs.Ytfdkcnbkoagmiaa.Open
open Go Go.RowKit Go.ChangeShapes Go.Proofs.YtfdkcnbkoagmiaaW.PrintWords
structure OpensAt {α : Type} (F : Nat) (P : Program) (t : TypeId) (kd : Kd α) (good : α → Prop) : Prop where
  sz : kd.sz = P.cellsOf t
  op : ∀ {H : Type} {enc : TypeId × Value → H} {W : World} {base : Nat} {spare : Nat → Bool} {held : Bool} {fuel : Nat} {cs : List Value} {x : DataW H × List MemPlace},
    fuel ≤ F → DataW.trod enc P W base spare held fuel t cs = some x → (∀ m ∈ x.1.weights P t, m ≤ reachBytes) → ∃ y : α, kd.K W y cs ∧ good y
def Opens {α : Type} (P : Program) (t : TypeId) (kd : Kd α) (good : α → Prop) : Prop := ∀ F, OpensAt F P t kd good
variable {P : Program} {t e : TypeId} {F : Nat}
theorem at_int {k : IntKind} (hu : P.underlying t = some (.int k)) (hc : P.cellsOf t = 1) : OpensAt F P t (Kd.int k) (fun x => (Lit.int k x).wf = true) where
  sz := hc.symm
  op := fun _ h _ => by
    obtain ⟨n, rfl, _, hw⟩ := DataW.trod_int hu h
    exact ⟨n, rfl, hw⟩
theorem at_bool (hu : P.underlying t = some .bool) (hc : P.cellsOf t = 1) : OpensAt F P t Kd.bool (fun _ => True) where
  sz := hc.symm
  op := fun _ h _ => by
    obtain ⟨n, rfl, _⟩ := DataW.trod_bool hu h
    exact ⟨n, rfl, trivial⟩
theorem at_string (hu : P.underlying t = some .string) (hc : P.cellsOf t = 1) : OpensAt F P t Kd.string (fun s => s.size ≤ 140737488351232) where
  sz := hc.symm
  op := fun _ h hw => by
    obtain ⟨s, rfl, hx, _⟩ := DataW.trod_string hu h
    refine ⟨s, rfl, ?_⟩
    have := hw s.data.toList.length (by rw [hx]; simp [DataW.weights])
    simpa [reachBytes] using this
theorem choose_list {β : Type} (n : Nat) (p : Nat → β → Prop) (h : ∀ i, i < n → ∃ y, p i y) : ∃ ys : List β, ys.length = n ∧ ∀ i y, ys[i]? = some y → p i y := by
  induction n with
  | zero => exact ⟨[], rfl, fun i y hy => by simp at hy⟩
  | succ n ih =>
    obtain ⟨ys, hl, hp⟩ := ih (fun i hi => h i (by omega))
    obtain ⟨y, hy⟩ := h n (by omega)
    refine ⟨ys ++ [y], by simp [hl], fun i z hz => ?_⟩
    rcases Nat.lt_or_ge i ys.length with hi | hi
    · rw [List.getElem?_append_left hi] at hz
      exact hp i z hz
    · rw [List.getElem?_append_right hi] at hz
      have : i - ys.length = 0 := by
        rcases Nat.eq_zero_or_pos (i - ys.length) with h0 | h0
        · exact h0
        · rw [List.getElem?_eq_none (by simp; omega)] at hz
          cases hz
      rw [this] at hz
      simp at hz
      subst hz
      have : i = n := by omega
      subst this
      exact hy
theorem weightsAll_mem {H : Type} {e : TypeId} : ∀ {l : List (DataW H)} {d : DataW H}, d ∈ l → ∀ m ∈ d.weights P e, m ∈ DataW.weightsAll P e l
  | [], _, h, _, _ => by simp at h
  | a :: r, d, h, m, hm => by
    simp only [DataW.weightsAll]
    rcases List.mem_cons.1 h with rfl | h
    · exact List.mem_append_left _ hm
    · exact List.mem_append_right _ (weightsAll_mem h m hm)
def GoodL {α : Type} (B : Nat) (g : α → Prop) (ys : List α) : Prop := ys.length * B ≤ 140737488351232 ∧ ∀ y ∈ ys, g y
theorem at_slice {α : Type} {kd : Kd α} {g : α → Prop} {B : Nat} (hu : P.underlying t = some (.slice e)) (hc : P.cellsOf t = 1) (hB : P.bytesOf e = B) (he : OpensAt F P e kd g) :
    OpensAt (F + 1) P t (Kd.slice e kd) (GoodL B g) where
  sz := hc.symm
  op := by
    intro H enc W base spare held fuel cs x hf h hw
    rcases DataW.trod_slice hu h with ⟨rfl, rfl⟩ | ⟨a, len, cap, elems, rest, n, rfl, rfl, rfl, hb, hl, hm, hlen, hel, _⟩
    · exact ⟨[], ⟨none, 0, rfl, Nat.le_refl _, Kd.C_nil kd W⟩, by simp [GoodL]⟩
    · have hwt : ∀ m ∈ (elems.length + rest.length) * P.bytesOf e :: (DataW.weightsAll P e (elems.map (·.1)) ++ DataW.weightsAll P e (rest.map (·.1))), m ≤ reachBytes := by
        intro m hm'
        refine hw m ?_
        show m ∈ DataW.weights P t (DataW.slice (elems.map (·.1)) (rest.map (·.1)))
        simp only [DataW.weights, hu, List.length_map]
        exact hm'
      have each : ∀ i, i < len → ∃ y, g y ∧ ∃ c, c.length = kd.sz ∧ kd.K W y c ∧ ∀ j u, c[j]? = some u → W.cell? (a.add (i * kd.sz + j)) = some u := by
        intro i hi
        have h1 := hel i hi
        obtain ⟨x1, hx1⟩ : ∃ x1, elems[i]? = some x1 := ⟨elems[i]'(by omega), List.getElem?_eq_getElem (by omega)⟩
        rw [hx1, Option.bind_eq_some_iff] at h1
        obtain ⟨c, hcs, htr⟩ := h1
        obtain ⟨y, hy, hg⟩ := he.op (by omega) htr (fun m hm' => hwt m (List.mem_cons_of_mem _ (List.mem_append_left _
          (weightsAll_mem (List.mem_map.2 ⟨x1, List.mem_of_getElem? hx1, rfl⟩) m hm'))))
        refine ⟨y, hg, c, kd.K_len hy, hy, fun j u hj => ?_⟩
        unfold World.cells? at hcs
        split at hcs
        · have hjl : j < c.length := (List.getElem?_eq_some_iff.1 hj).1
          have hcl := kd.K_len hy
          have := mapM_some_get hcs j j (List.getElem?_range (by rw [← he.sz]; omega))
          rw [hj, Addr.add_add, ← he.sz] at this
          exact this
        · cases hcs
      obtain ⟨ys, hyl, hys⟩ := choose_list len _ each
      refine ⟨ys, ⟨some a, cap, by rw [hyl], by omega, ?_⟩, ?_, ?_⟩
      · refine ⟨rfl, by simp only [maxLen] at hm; omega, fun _ => ⟨a, rfl, fun j p hp => ?_⟩⟩
        obtain ⟨_, c, h1, h2, h3⟩ := hys j p hp
        exact ⟨c, h1, h2, h3⟩
      · have := hwt _ (List.mem_cons_self ..)
        rw [hB] at this
        rw [hyl, ← hlen]
        have h2 : elems.length * B ≤ (elems.length + rest.length) * B := Nat.mul_le_mul_right _ (by omega)
        simp only [reachBytes] at this
        omega
      · intro y hy
        obtain ⟨i, hi⟩ := List.getElem?_of_mem hy
        exact (hys i y hi).1
def FieldsAt {α : Type} (F : Nat) (P : Program) (fs : List Field) (o : Nat) (kd : Kd α) (good : α → Prop) : Prop :=
  ∀ {H : Type} {enc : TypeId × Value → H} {W : World} {base : Nat} {spare : Nat → Bool} {held : Bool} {n : Nat} {cs : List Value} {xs : List (DataW H × List MemPlace)},
    n ≤ F → cs.length = o + kd.sz → xs.length = fs.length →
    (∀ (i : Nat) (f : Field), fs[i]? = some f → DataW.trod enc P W base spare held n f.type ((cs.drop f.offset).take (P.cellsOf f.type)) = xs[i]?) →
    (∀ m ∈ DataW.weightsEach P (fs.map (·.type)) (xs.map (·.1)), m ≤ reachBytes) → ∃ y : α, kd.K W y (cs.drop o) ∧ good y
theorem fields_one {α : Type} {f : Field} {o : Nat} {kd : Kd α} {g : α → Prop} (ho : f.offset = o) (h : OpensAt F P f.type kd g) : FieldsAt F P [f] o kd g := by
  intro H enc W base spare held n cs xs hn hl hx hf hw
  have h1 := hf 0 f rfl
  match xs, hx with
  | [x], _ =>
    rw [ho, List.take_of_length_le (by rw [List.length_drop, ← h.sz]; omega)] at h1
    exact h.op hn h1 (fun m hm => hw m (by simp only [List.map, DataW.weightsEach]; exact List.mem_append_left _ hm))
theorem fields_cons {α β : Type} {f : Field} {fs : List Field} {o : Nat} {kd : Kd α} {kd' : Kd β} {g : α → Prop} {g' : β → Prop} (ho : f.offset = o) (h : OpensAt F P f.type kd g)
    (h' : FieldsAt F P fs (o + kd.sz) kd' g') : FieldsAt F P (f :: fs) o (Kd.pair kd kd') (fun y => g y.1 ∧ g' y.2) := by
  intro H enc W base spare held n cs xs hn hl hx hf hw
  match xs, hx with
  | x :: xs, hx =>
    have h1 := hf 0 f rfl
    rw [ho] at h1
    obtain ⟨y, hy, hg⟩ := h.op hn h1 (fun m hm => hw m (by simp only [List.map, DataW.weightsEach]; exact List.mem_append_left _ hm))
    have hsz : (Kd.pair kd kd').sz = kd.sz + kd'.sz := rfl
    obtain ⟨z, hz, hg'⟩ := h' (xs := xs) hn (by rw [hl, hsz]; omega) (by simpa using hx) (fun i f' hf' => by simpa using hf (i + 1) f' (by simpa using hf'))
      (fun m hm => hw m (by simp only [List.map, DataW.weightsEach]; exact List.mem_append_right _ hm))
    refine ⟨(y, z), ⟨_, _, ?_, hy, hz⟩, hg, hg'⟩
    rw [← h.sz, ← List.drop_drop, List.take_append_drop]
theorem at_struct {α : Type} {fs : Array Field} {fl : List Field} {kd : Kd α} {g : α → Prop} (hu : P.underlying t = some (.struct fs)) (hl : fs.toList = fl) (hc : P.cellsOf t = kd.sz) (h : FieldsAt F P fl 0 kd g) : OpensAt (F + 1) P t kd g where
  sz := hc.symm
  op := by
    intro H enc W base spare held fuel cs x hf h0 hw
    obtain ⟨xs, n, rfl, rfl, hcl, hxl, hx⟩ := DataW.trod_struct hu h0
    have := h (xs := xs) (n := n) (by omega) (by rw [hcl, hc]; omega) (by rw [hxl, ← hl]; simp) (fun i f hf => hx i f (by rw [← hl] at hf; simpa using hf)) (fun m hm => hw m (by
      simp only [DataW.weights, hu]
      rw [hl]
      exact hm))
    simpa using this
theorem at_iso {α β : Type} {kd : Kd α} {g : α → Prop} (f : β → α) (inv : α → β) (hi : ∀ x, f (inv x) = x) (h : OpensAt F P t kd g) : OpensAt F P t (Kd.iso kd f) (fun b => g (f b)) where
  sz := h.sz
  op := by
    intro H enc W base spare held fuel cs x hf h0 hw
    obtain ⟨y, hy, hg⟩ := h.op hf h0 hw
    refine ⟨inv y, ?_, ?_⟩
    · show kd.K W (f (inv y)) cs
      rw [hi]
      exact hy
    · show g (f (inv y))
      rw [hi]
      exact hg
theorem OpensAt.good_imp {α : Type} {kd : Kd α} {g g' : α → Prop} (h : OpensAt F P t kd g) (hg : ∀ x, g x → g' x) : OpensAt F P t kd g' where
  sz := h.sz
  op := fun hf h0 hw => by
    obtain ⟨y, hy, hgy⟩ := h.op hf h0 hw
    exact ⟨y, hy, hg y hgy⟩
theorem OpensAt.weaken {α : Type} {kd : Kd α} {g : α → Prop} (h : OpensAt (F + 1) P t kd g) : OpensAt F P t kd g where
  sz := h.sz
  op := fun hf h0 hw => h.op (Nat.le_succ_of_le hf) h0 hw
theorem opens_int {k : IntKind} (hu : P.underlying t = some (.int k)) (hc : P.cellsOf t = 1) : Opens P t (Kd.int k) (fun x => (Lit.int k x).wf = true) := fun _ => at_int hu hc
theorem opens_bool (hu : P.underlying t = some .bool) (hc : P.cellsOf t = 1) : Opens P t Kd.bool (fun _ => True) := fun _ => at_bool hu hc
theorem opens_string (hu : P.underlying t = some .string) (hc : P.cellsOf t = 1) : Opens P t Kd.string (fun s => s.size ≤ 140737488351232) := fun _ => at_string hu hc
theorem opens_slice {α : Type} {kd : Kd α} {g : α → Prop} {B : Nat} (hu : P.underlying t = some (.slice e)) (hc : P.cellsOf t = 1) (hB : P.bytesOf e = B) (he : Opens P e kd g) :
    Opens P t (Kd.slice e kd) (GoodL B g) := fun F => (at_slice hu hc hB (he F)).weaken
def Fields {α : Type} (P : Program) (fs : List Field) (o : Nat) (kd : Kd α) (good : α → Prop) : Prop := ∀ F, FieldsAt F P fs o kd good
theorem fields1 {α : Type} {f : Field} {o : Nat} {kd : Kd α} {g : α → Prop} (ho : f.offset = o) (h : Opens P f.type kd g) : Fields P [f] o kd g := fun F => fields_one ho (h F)
theorem fields2 {α β : Type} {f : Field} {fs : List Field} {o : Nat} {kd : Kd α} {kd' : Kd β} {g : α → Prop} {g' : β → Prop} (ho : f.offset = o) (h : Opens P f.type kd g)
    (h' : Fields P fs (o + kd.sz) kd' g') : Fields P (f :: fs) o (Kd.pair kd kd') (fun y => g y.1 ∧ g' y.2) := fun F => fields_cons ho (h F) (h' F)
theorem opens_struct {α : Type} {fs : Array Field} {fl : List Field} {kd : Kd α} {g : α → Prop} (hu : P.underlying t = some (.struct fs)) (hl : fs.toList = fl) (hc : P.cellsOf t = kd.sz) (h : Fields P fl 0 kd g) : Opens P t kd g :=
  fun F => (at_struct hu hl hc (h F)).weaken
theorem open_arg {α : Type} {kd : Kd α} {g : α → Prop} (h : ∀ F, OpensAt F P t kd g) {H : Type} {enc : TypeId × Value → H} {W : World} {base : Nat} {spare : Nat → Bool} {held : Bool} {v : Value} {d : DataW H} {ps : List MemPlace}
    {ts : List TypeId} {ds : List (DataW H)} {j : Nat} (hsz : (DataW.weightsEach P ts ds).all (· ≤ reachBytes) = true) (ht : ts[j]? = some t) (hd : ds[j]? = some d)
    (hr : DataW.Trod enc P W base spare held t v d ps) : ∃ y : α, kd.K W y v.cells.toList ∧ g y := by
  obtain ⟨fuel, hf⟩ := hr
  exact (h fuel).op (Nat.le_refl _) hf (fun m hm => by
    have := List.all_eq_true.1 hsz m (DataW.weights_mem_each ht hd m hm)
    simpa using this)
end Go.Proofs.Ytfdkcnbkoagmiaa.Open
end

section
namespace Go.Proofs.Ytfdkcnbkoagmiaa.OpenB
open Go Go.RowKit Go.ChangeShapes Go.Proofs.YtfdkcnbkoagmiaaW.PrintWords Go.Proofs.Ytfdkcnbkoagmiaa.Open
structure OpensAt {α : Type} (F : Nat) (P : Program) (t : TypeId) (kd : Kd α) (good : α → Prop) : Prop where
  sz : kd.sz = P.cellsOf t
  op : ∀ {H : Type} {enc : TypeId × Value → H} {W : World} {base : Nat} {spare : Nat → Bool} {held : Bool} {fuel : Nat} {cs : List Value} {x : DataW H × List MemPlace},
    fuel ≤ F → DataW.trod enc P W base spare held fuel t cs = some x → (∀ m ∈ x.1.weights P t, m ≤ reachBytes) → Rows.uptoBulk x.1 ≤ 1048576 → ∃ y : α, kd.K W y cs ∧ good y
def Opens {α : Type} (P : Program) (t : TypeId) (kd : Kd α) (good : α → Prop) : Prop := ∀ F, OpensAt F P t kd good
theorem one_le {H : Type} (d : DataW H) : 1 ≤ Rows.uptoBulk d := by
  cases d with
  | lit l => cases l <;> simp [Rows.uptoBulk]
  | nil => simp [Rows.uptoBulk]
  | ptr d => simp [Rows.uptoBulk]
  | slice elems spare => simp [Rows.uptoBulk]
  | agg parts => simp [Rows.uptoBulk]
  | iface t d => simp [Rows.uptoBulk]
  | map entries => simp [Rows.uptoBulk]
  | held h => simp [Rows.uptoBulk]
theorem part_le {H : Type} {d : DataW H} {l : List (DataW H)} (h : d ∈ l) : Rows.uptoBulk d ≤ Rows.uptoBulkAll l := by
  induction l with
  | nil => cases h
  | cons x r ih =>
    simp only [Rows.uptoBulkAll]
    cases List.mem_cons.1 h with
    | inl e => subst e; omega
    | inr e => have := ih e; omega
theorem length_le {H : Type} (l : List (DataW H)) : l.length ≤ Rows.uptoBulkAll l := by
  induction l with
  | nil => simp [Rows.uptoBulkAll]
  | cons x r ih => have := one_le x; simp only [Rows.uptoBulkAll, List.length_cons]; omega
theorem slice_le {H : Type} (elems spare : List (DataW H)) : Rows.uptoBulkAll elems + 1 ≤ Rows.uptoBulk (.slice elems spare) := by
  simp only [Rows.uptoBulk]
  omega
theorem bound {H : Type} {l : List (DataW H)} (hk : Rows.uptoSmall H l = true) : Rows.uptoBulkAll l ≤ 1048576 := of_decide_eq_true hk
variable {P : Program} {t e : TypeId} {F : Nat}
theorem at_int {k : IntKind} (hu : P.underlying t = some (.int k)) (hc : P.cellsOf t = 1) : OpensAt F P t (Kd.int k) (fun x => (Lit.int k x).wf = true) where
  sz := hc.symm
  op := fun _ h _ _ => by
    obtain ⟨n, rfl, _, hw⟩ := DataW.trod_int hu h
    exact ⟨n, rfl, hw⟩
theorem at_bool (hu : P.underlying t = some .bool) (hc : P.cellsOf t = 1) : OpensAt F P t Kd.bool (fun _ => True) where
  sz := hc.symm
  op := fun _ h _ _ => by
    obtain ⟨n, rfl, _⟩ := DataW.trod_bool hu h
    exact ⟨n, rfl, trivial⟩
def GoodB {α : Type} (B : Nat) (g : α → Prop) (ys : List α) : Prop := ys.length ≤ 1048576 ∧ GoodL B g ys
theorem at_slice {α : Type} {kd : Kd α} {g : α → Prop} {B : Nat} (hu : P.underlying t = some (.slice e)) (hc : P.cellsOf t = 1) (hB : P.bytesOf e = B) (he : OpensAt F P e kd g) :
    OpensAt (F + 1) P t (Kd.slice e kd) (GoodB B g) where
  sz := hc.symm
  op := by
    intro H enc W base spare held fuel cs x hf h hw hk
    rcases DataW.trod_slice hu h with ⟨rfl, rfl⟩ | ⟨a, len, cap, elems, rest, n, rfl, rfl, rfl, hb, hl, hm, hlen, hel, _⟩
    · exact ⟨[], ⟨none, 0, rfl, Nat.le_refl _, Kd.C_nil kd W⟩, by simp [GoodB, GoodL]⟩
    · have hwt : ∀ m ∈ (elems.length + rest.length) * P.bytesOf e :: (DataW.weightsAll P e (elems.map (·.1)) ++ DataW.weightsAll P e (rest.map (·.1))), m ≤ reachBytes := by
        intro m hm'
        refine hw m ?_
        show m ∈ DataW.weights P t (DataW.slice (elems.map (·.1)) (rest.map (·.1)))
        simp only [DataW.weights, hu, List.length_map]
        exact hm'
      have each : ∀ i, i < len → ∃ y, g y ∧ ∃ c, c.length = kd.sz ∧ kd.K W y c ∧ ∀ j u, c[j]? = some u → W.cell? (a.add (i * kd.sz + j)) = some u := by
        intro i hi
        have h1 := hel i hi
        obtain ⟨x1, hx1⟩ : ∃ x1, elems[i]? = some x1 := ⟨elems[i]'(by omega), List.getElem?_eq_getElem (by omega)⟩
        rw [hx1, Option.bind_eq_some_iff] at h1
        obtain ⟨c, hcs, htr⟩ := h1
        obtain ⟨y, hy, hg⟩ := he.op (by omega) htr (fun m hm' => hwt m (List.mem_cons_of_mem _ (List.mem_append_left _
          (weightsAll_mem (List.mem_map.2 ⟨x1, List.mem_of_getElem? hx1, rfl⟩) m hm'))))
          (Nat.le_trans (part_le (List.mem_map.2 ⟨x1, List.mem_of_getElem? hx1, rfl⟩)) (Nat.le_of_succ_le (Nat.le_trans (slice_le _ _) hk)))
        refine ⟨y, hg, c, kd.K_len hy, hy, fun j u hj => ?_⟩
        unfold World.cells? at hcs
        split at hcs
        · have hjl : j < c.length := (List.getElem?_eq_some_iff.1 hj).1
          have hcl := kd.K_len hy
          have := mapM_some_get hcs j j (List.getElem?_range (by rw [← he.sz]; omega))
          rw [hj, Addr.add_add, ← he.sz] at this
          exact this
        · cases hcs
      obtain ⟨ys, hyl, hys⟩ := choose_list len _ each
      refine ⟨ys, ⟨some a, cap, by rw [hyl], by omega, ?_⟩, ?_, ?_, ?_⟩
      · refine ⟨rfl, by simp only [maxLen] at hm; omega, fun _ => ⟨a, rfl, fun j p hp => ?_⟩⟩
        obtain ⟨_, c, h1, h2, h3⟩ := hys j p hp
        exact ⟨c, h1, h2, h3⟩
      · have h1 := length_le (elems.map (·.1))
        have h2 := slice_le (elems.map (·.1)) (rest.map (·.1))
        rw [List.length_map] at h1
        have hk' : Rows.uptoBulk (DataW.slice (elems.map (·.1)) (rest.map (·.1))) ≤ 1048576 := hk
        omega
      · have := hwt _ (List.mem_cons_self ..)
        rw [hB] at this
        rw [hyl, ← hlen]
        have h2 : elems.length * B ≤ (elems.length + rest.length) * B := Nat.mul_le_mul_right _ (by omega)
        simp only [reachBytes] at this
        omega
      · intro y hy
        obtain ⟨i, hi⟩ := List.getElem?_of_mem hy
        exact (hys i y hi).1
def FieldsAt {α : Type} (F : Nat) (P : Program) (fs : List Field) (o : Nat) (kd : Kd α) (good : α → Prop) : Prop :=
  ∀ {H : Type} {enc : TypeId × Value → H} {W : World} {base : Nat} {spare : Nat → Bool} {held : Bool} {n : Nat} {cs : List Value} {xs : List (DataW H × List MemPlace)},
    n ≤ F → cs.length = o + kd.sz → xs.length = fs.length →
    (∀ (i : Nat) (f : Field), fs[i]? = some f → DataW.trod enc P W base spare held n f.type ((cs.drop f.offset).take (P.cellsOf f.type)) = xs[i]?) →
    (∀ m ∈ DataW.weightsEach P (fs.map (·.type)) (xs.map (·.1)), m ≤ reachBytes) → Rows.uptoBulkAll (xs.map (·.1)) ≤ 1048576 → ∃ y : α, kd.K W y (cs.drop o) ∧ good y
theorem fields_one {α : Type} {f : Field} {o : Nat} {kd : Kd α} {g : α → Prop} (ho : f.offset = o) (h : OpensAt F P f.type kd g) : FieldsAt F P [f] o kd g := by
  intro H enc W base spare held n cs xs hn hl hx hf hw hk
  have h1 := hf 0 f rfl
  match xs, hx with
  | [x], _ =>
    rw [ho, List.take_of_length_le (by rw [List.length_drop, ← h.sz]; omega)] at h1
    exact h.op hn h1 (fun m hm => hw m (by simp only [List.map, DataW.weightsEach]; exact List.mem_append_left _ hm)) (Nat.le_trans (part_le (by simp)) hk)
theorem fields_cons {α β : Type} {f : Field} {fs : List Field} {o : Nat} {kd : Kd α} {kd' : Kd β} {g : α → Prop} {g' : β → Prop} (ho : f.offset = o) (h : OpensAt F P f.type kd g)
    (h' : FieldsAt F P fs (o + kd.sz) kd' g') : FieldsAt F P (f :: fs) o (Kd.pair kd kd') (fun y => g y.1 ∧ g' y.2) := by
  intro H enc W base spare held n cs xs hn hl hx hf hw hk
  match xs, hx with
  | x :: xs, hx =>
    have h1 := hf 0 f rfl
    rw [ho] at h1
    obtain ⟨y, hy, hg⟩ := h.op hn h1 (fun m hm => hw m (by simp only [List.map, DataW.weightsEach]; exact List.mem_append_left _ hm)) (Nat.le_trans (part_le (by simp)) hk)
    have hsz : (Kd.pair kd kd').sz = kd.sz + kd'.sz := rfl
    obtain ⟨z, hz, hg'⟩ := h' (xs := xs) hn (by rw [hl, hsz]; omega) (by simpa using hx) (fun i f' hf' => by simpa using hf (i + 1) f' (by simpa using hf'))
      (fun m hm => hw m (by simp only [List.map, DataW.weightsEach]; exact List.mem_append_right _ hm)) (by
      simp only [List.map, Rows.uptoBulkAll] at hk
      omega)
    refine ⟨(y, z), ⟨_, _, ?_, hy, hz⟩, hg, hg'⟩
    rw [← h.sz, ← List.drop_drop, List.take_append_drop]
theorem at_struct {α : Type} {fs : Array Field} {fl : List Field} {kd : Kd α} {g : α → Prop} (hu : P.underlying t = some (.struct fs)) (hl : fs.toList = fl) (hc : P.cellsOf t = kd.sz) (h : FieldsAt F P fl 0 kd g) : OpensAt (F + 1) P t kd g where
  sz := hc.symm
  op := by
    intro H enc W base spare held fuel cs x hf h0 hw hk
    obtain ⟨xs, n, rfl, rfl, hcl, hxl, hx⟩ := DataW.trod_struct hu h0
    have := h (xs := xs) (n := n) (by omega) (by rw [hcl, hc]; omega) (by rw [hxl, ← hl]; simp) (fun i f hf => hx i f (by rw [← hl] at hf; simpa using hf)) (fun m hm => hw m (by
      simp only [DataW.weights, hu]
      rw [hl]
      exact hm)) (by
      simp only [Rows.uptoBulk] at hk
      omega)
    simpa using this
theorem OpensAt.good_imp {α : Type} {kd : Kd α} {g g' : α → Prop} (h : OpensAt F P t kd g) (hg : ∀ x, g x → g' x) : OpensAt F P t kd g' where
  sz := h.sz
  op := fun hf h0 hw hk => by
    obtain ⟨y, hy, hgy⟩ := h.op hf h0 hw hk
    exact ⟨y, hy, hg y hgy⟩
theorem OpensAt.weaken {α : Type} {kd : Kd α} {g : α → Prop} (h : OpensAt (F + 1) P t kd g) : OpensAt F P t kd g where
  sz := h.sz
  op := fun hf h0 hw hk => h.op (Nat.le_succ_of_le hf) h0 hw hk
theorem opens_int {k : IntKind} (hu : P.underlying t = some (.int k)) (hc : P.cellsOf t = 1) : Opens P t (Kd.int k) (fun x => (Lit.int k x).wf = true) := fun _ => at_int hu hc
theorem opens_bool (hu : P.underlying t = some .bool) (hc : P.cellsOf t = 1) : Opens P t Kd.bool (fun _ => True) := fun _ => at_bool hu hc
theorem opens_slice {α : Type} {kd : Kd α} {g : α → Prop} {B : Nat} (hu : P.underlying t = some (.slice e)) (hc : P.cellsOf t = 1) (hB : P.bytesOf e = B) (he : Opens P e kd g) :
    Opens P t (Kd.slice e kd) (GoodB B g) := fun F => (at_slice hu hc hB (he F)).weaken
def Fields {α : Type} (P : Program) (fs : List Field) (o : Nat) (kd : Kd α) (good : α → Prop) : Prop := ∀ F, FieldsAt F P fs o kd good
theorem fields1 {α : Type} {f : Field} {o : Nat} {kd : Kd α} {g : α → Prop} (ho : f.offset = o) (h : Opens P f.type kd g) : Fields P [f] o kd g := fun F => fields_one ho (h F)
theorem fields2 {α β : Type} {f : Field} {fs : List Field} {o : Nat} {kd : Kd α} {kd' : Kd β} {g : α → Prop} {g' : β → Prop} (ho : f.offset = o) (h : Opens P f.type kd g)
    (h' : Fields P fs (o + kd.sz) kd' g') : Fields P (f :: fs) o (Kd.pair kd kd') (fun y => g y.1 ∧ g' y.2) := fun F => fields_cons ho (h F) (h' F)
theorem opens_struct {α : Type} {fs : Array Field} {fl : List Field} {kd : Kd α} {g : α → Prop} (hu : P.underlying t = some (.struct fs)) (hl : fs.toList = fl) (hc : P.cellsOf t = kd.sz) (h : Fields P fl 0 kd g) : Opens P t kd g :=
  fun F => (at_struct hu hl hc (h F)).weaken
theorem open_arg {α : Type} {kd : Kd α} {g : α → Prop} (h : ∀ F, OpensAt F P t kd g) {H : Type} {enc : TypeId × Value → H} {W : World} {base : Nat} {spare : Nat → Bool} {held : Bool} {v : Value} {d : DataW H} {ps : List MemPlace}
    {ts : List TypeId} {ds : List (DataW H)} {j : Nat} (hsz : (DataW.weightsEach P ts ds).all (· ≤ reachBytes) = true) (ht : ts[j]? = some t) (hd : ds[j]? = some d) (hk : Rows.uptoBulkAll ds ≤ 1048576)
    (hr : DataW.Trod enc P W base spare held t v d ps) : ∃ y : α, kd.K W y v.cells.toList ∧ g y := by
  obtain ⟨fuel, hf⟩ := hr
  exact (h fuel).op (Nat.le_refl _) hf (fun m hm => by
    have := List.all_eq_true.1 hsz m (DataW.weights_mem_each ht hd m hm)
    simpa using this) (Nat.le_trans (part_le (List.mem_of_getElem? hd)) hk)
end Go.Proofs.Ytfdkcnbkoagmiaa.OpenB
end

section
namespace Go.Proofs.Ytfdkcnbkoagmiaa.StrB
open Go Go.RowKit Go.Proofs.YtfdkcnbkoagmiaaW.PrintWords Go.Proofs.Ytfdkcnbkoagmiaa.Open Go.Proofs.Ytfdkcnbkoagmiaa.OpenB
open Go.Proofs.Ytfdkcnbkoagmiaa.LinS (inB)
def gB (x : Int) : Prop := (Lit.int .u8 x).wf = true
def gI (x : Int) : Prop := (Lit.int .i64 x).wf = true
theorem b_u8 : OpenB.Opens Try.prog 5 (Kd.int .u8) gB := OpenB.opens_int Try.underlying5 (by kernel_rfl)
theorem b_int : OpenB.Opens Try.prog 3 (Kd.int .i64) gI := OpenB.opens_int Try.underlying3 (by kernel_rfl)
def kStr : Kd (List Int × List Int) := Kd.pair (Kd.slice 5 (Kd.int .u8)) (Kd.slice 3 (Kd.int .i64))
def gStr (y : List Int × List Int) : Prop := GoodB 1 gB y.1 ∧ GoodB 8 gI y.2
theorem b_str : OpenB.Opens Try.prog 73 kStr gStr :=
  OpenB.opens_struct Try.underlying73 rfl (by kernel_rfl) (OpenB.fields2 rfl (OpenB.opens_slice Try.underlying26 (by kernel_rfl) (by kernel_rfl) b_u8) (OpenB.fields1 rfl (OpenB.opens_slice Try.underlying23 (by kernel_rfl) (by kernel_rfl) b_int)))
theorem in_of {l : List Int} (h : ∀ x ∈ l, gB x) : inB l := fun x hx => by
  have := h x hx
  simp [gB, Lit.wf, IntKind.min, IntKind.max, IntKind.signed, IntKind.bits] at this
  omega
theorem str_open {w : World} {y : List Int × List Int} {cs : List Value} (h : kStr.K w y cs) : ∃ A c A2 c2, cs = [.slice A y.1.length c, .slice A2 y.2.length c2] ∧ y.1.length ≤ c ∧ (Kd.int .u8).C w A y.1.length y.1 ∧ y.2.length ≤ c2 ∧ (Kd.int .i64).C w A2 y.2.length y.2 := by
  obtain ⟨c1, c2, rfl, ⟨A, c, rfl, h1, h2⟩, ⟨A2, c2', rfl, h3, h4⟩⟩ := h
  exact ⟨A, c, A2, c2', rfl, h1, h2, h3, h4⟩
end Go.Proofs.Ytfdkcnbkoagmiaa.StrB
end

section
namespace Go.Proofs.Ytfdkcnbkoagmiaa.ApnF
open Go Go.RowKit Go.Proofs.YtfdkcnbkoagmiaaW.PrintWords Go.Proofs.YtfdkcnbkoagmiaaW.PrintLast Go.Proofs.YtfdkcnbkoagmiaaW.PrintMore Go.Proofs.Ytfdkcnbkoagmiaa.CopL
set_option linter.unusedVariables false
set_option maxRecDepth 100000
theorem conv_at {w : World} (g : Nat) (hg : w.heap.size = g) (C : Array Value) (n c : Nat) :
    (convert 26 26 (.slice (some ⟨g, 0, none⟩) n c)).run Try.prog (w.alloc (.cells C 5)) = .ok (.slice (some ⟨g, 0, none⟩) n c) (w.alloc (.cells C 5 (C.size, C.size + 1))) := by
  subst hg
  exact Lib.run_convert_bytes_const (P := Try.prog) w 26 5 C n c Try.underlying26 Try.underlying5
theorem got_const (W : World) (g : Nat) (hg : W.heap.size = g) (l : List Int) (f : Nat × Nat) (hl : l.length ≤ 9223372036854775807) : Kd.C (Kd.int .u8) (W.alloc (.cells (l.map (Value.int .u8)).toArray 5 f)) (some ⟨g, 0, none⟩) l.length l := by
  subst hg
  refine ⟨rfl, hl, fun _ => ⟨_, rfl, fun i p hp => ⟨[.int .u8 p], rfl, rfl, fun u x hx => ?_⟩⟩⟩
  obtain ⟨hi, hp'⟩ := List.getElem?_eq_some_iff.1 hp
  cases u with
  | zero =>
    injection hx with hx
    subst hx
    rw [show (Kd.int .u8).sz = 1 from rfl, Nat.mul_one, Nat.add_zero, show (⟨W.heap.size, 0, none⟩ : Addr).add i = ⟨W.heap.size, 0 + i, none⟩ from by unfold Addr.add; split <;> simp_all, Nat.zero_add]
    have hb : (W.alloc (.cells (l.map (Value.int .u8)).toArray 5 f)).heap[W.heap.size]? = some (.cells (l.map (Value.int .u8)).toArray 5 f) := heap_alloc_new W _
    rw [cell_of_row _ _ _ _ _ _ hb]
    simp [hp]
  | succ u => simp at hx
theorem cells_of {w : World} {ad : Addr} {n : Nat} {l : List Int} (h : Kd.C (Kd.int .u8) w (some ad) n l) : ∀ j u, (l.map (Value.int .u8))[j]? = some u → w.cell? (ad.add j) = some u := by
  intro j u hu
  have hl : l.length = n := h.1
  rw [List.getElem?_map, Option.map_eq_some_iff] at hu
  obtain ⟨x, hx, rfl⟩ := hu
  obtain ⟨hj, hx'⟩ := List.getElem?_eq_some_iff.1 hx
  obtain ⟨ad', hh, hc⟩ := Kd.at_int h (j : Int) (by omega) (by omega)
  obtain rfl : ad = ad' := Option.some.inj hh
  rw [Int.toNat_natCast] at hc
  rw [hc]
  unfold rd
  rw [Int.toNat_natCast, List.getD_eq_getElem?_getD, hx]
  rfl
theorem run_empty (w : World) (ty : TypeId) (As : Addr) (n c : Nat) (Ax : Option Addr) :
    (Builtin.append_ #[26, 26] ty #[.slice (some As) n n, .slice Ax 0 c]).run Try.prog w = .ok (.slice (some As) n n) w := by
  obtain ⟨i, hi, h0, h1, h2⟩ := infoB
  have hu := Try.underlying26
  cases Ax <;> simp [Builtin.append_, run_underlying hu, sizeOf, typeInfo, hi, Builtin.lenOf, Builtin.firstCells, storeCells, loadCells, loadCellsFrom]
theorem wpList_append_full {ops : Array Oper} {rest : List Oper} {o : Oper} {a : Act} {w : World} {Q : Exit → Act → World → Prop}
    (hg : o.guard = none) (s x : Operand) (hop : o.op = Op.call { callee := Callee.builtin Builtin.append, args := #[s, x], argTypes := #[26, 26] })
    (As : Addr) (l1 : List Int) (hs : a.eval s = .slice (some As) l1.length l1.length) (hC1 : Kd.C (Kd.int .u8) w (some As) l1.length l1)
    (Ax : Option Addr) (c : Nat) (l2 : List Int) (hx : a.eval x = .slice Ax l2.length c) (hC2 : Kd.C (Kd.int .u8) w Ax l2.length l2) (hb : l1.length + l2.length ≤ 100000000000000) (l3 : List Int) (h3 : l3 = l1 ++ l2)
    (hK : ∀ A' c' w', Kd.C (Kd.int .u8) w' A' l3.length l3 → l3.length ≤ c' → Below w.heap.size w w' → wpList Try.prog ops Q rest (a.put o.dst (.slice A' l3.length c')) w') :
    wpList Try.prog ops Q (o :: rest) a w := by
  subst h3
  by_cases h0 : l2.length = 0
  · obtain rfl : l2 = [] := List.eq_nil_of_length_eq_zero h0
    refine wpList_plain hg fun K hK' => ?_
    have hrun := run_empty w o.type As l1.length c Ax
    unfold Oper.wp
    simp only [List.length_nil] at hx
    simp [execOp, hop, resolve, invoke, builtin, hs, hx, hrun, Result.andThen]
    refine hK' _ _ ?_
    have := hK (some As) l1.length w (by rw [List.append_nil]; exact hC1) (by rw [List.append_nil]; exact Nat.le_refl _) (Below.refl _ _)
    rw [List.append_nil] at this
    exact this
  · obtain ⟨ad, hAx, _⟩ := Kd.at_int hC2 (0 : Int) (by omega) (by omega)
    subst hAx
    obtain ⟨i, hi, z0, z1, z2⟩ := infoB
    refine wpList_append_grows w hg s x 26 hop 5 i (.int .u8 0) 1 1 Try.underlying26 hi z0 z1 z2 rfl (by decide) (some As) l1.length l1.length (l1.map (Value.int .u8)) hs (fun h => by cases h) (by simp) (fun b hb' => by obtain rfl := Option.some.inj hb'; exact cells_of hC1)
      ad l2.length c (l2.map (Value.int .u8)) hx (by simp) (cells_of hC2) (fun u hu => by obtain ⟨y, _, rfl⟩ := List.mem_map.1 hu; rfl) (by omega) (by unfold maxLen; omega) (by omega) ?_
    intro v' w' ho hgr
    have hB : Below w.heap.size w w' := (Below.refl _ w).grown hgr (Nat.le_refl _) (by intro k hk; simp at hk)
    have ho' : w'.ownsRow w.heap.size 5 1 v' (l1 ++ l2).length (encs (Value.int .u8) (l1 ++ l2)) := by
      rw [List.length_append, show encs (Value.int .u8) (l1 ++ l2) = l1.map (Value.int .u8) ++ l2.map (Value.int .u8) by simp [encs]]
      exact ho
    obtain ⟨A', c', rfl, hl, hC⟩ := Kd.R_reads (Kd.R_of_own (h1 := fun _ => rfl) ho' (ok := fun _ => True) (fun _ _ => trivial))
    exact hK A' c' w' hC hl hB
end Go.Proofs.Ytfdkcnbkoagmiaa.ApnF
end

section
namespace Go.Proofs.Ytfdkcnbkoagmiaa.BndS
open Go.Proofs.Ytfdkcnbkoagmiaa.LinS Go.Proofs.Ytfdkcnbkoagmiaa.ParS
set_option linter.unusedVariables false
def Sml (l : List (List Int)) : Prop := l.length ≤ 5000 ∧ ∀ y ∈ l, y.length ≤ 5000
theorem ln_sml : ∀ (n : Nat) (l : List Int) (out ws : List (List Int)), l.length ≤ n → ln l out = some ws → ∀ y ∈ ws, y ∈ out ∨ y.length ≤ l.length := by
  intro n
  induction n with
  | zero => intro l out ws hl h y hy; obtain rfl : l = [] := List.length_eq_zero_iff.1 (by omega); rw [ln_nil] at h; obtain rfl := Option.some.inj h; exact .inl hy
  | succ n ih =>
    intro l out ws hl h y hy
    cases l with
    | nil => rw [ln_nil] at h; obtain rfl := Option.some.inj h; exact .inl hy
    | cons c r =>
      simp only [List.length_cons] at hl ⊢
      by_cases hb : LinS.blank c = true
      · rw [ln_blank r out hb] at h
        rcases ih r out ws (by omega) h y hy with h1 | h1
        · exact .inl h1
        · exact .inr (by omega)
      · have hb' : LinS.blank c = false := Bool.eq_false_iff.2 hb
        cases hw : wd (c :: r) [] with
        | none => rw [ln_none hb' hw] at h; cases h
        | some pr =>
          obtain ⟨w, rest⟩ := pr
          rw [ln_word hb' hw] at h
          obtain ⟨k1, k2, _, k4⟩ := wd_le _ _ _ _ hw
          simp only [List.length_cons, List.length_nil] at k1 k2 k4
          have k5 := k4 ⟨c, r, rfl, hb'⟩
          rcases ih rest _ ws (by omega) h y hy with h1 | h1
          · rcases List.mem_append.1 h1 with h1 | h1
            · exact .inl h1
            · rw [List.mem_singleton.1 h1]; exact .inr (by omega)
          · exact .inr (by omega)
theorem line_sml (b : List Int) (hb : b.length ≤ 5000) : Sml (LinS.line b).1 := by
  refine ⟨by have := line_len b; omega, fun y hy => ?_⟩
  unfold LinS.line at hy
  split at hy
  · cases hy
  · split at hy
    · cases hy
    · next out he =>
      split at hy
      · cases hy
      · rcases ln_sml b.length b [] out (Nat.le_refl _) he y hy with h | h
        · cases h
        · omega
structure Bnd (p : PS) : Prop where
  args : ∀ y ∈ p.args, y.length ≤ 5000
  out : ∀ x ∈ p.out, Sml x
theorem Bnd.whole {p : PS} {l : List (List Int)} {s : St} (h : Bnd p) (hl : Sml l) : Bnd (whole { p with args := l, st := s }) := by
  refine ⟨fun y hy => by simp [ParS.whole] at hy, fun x hx => ?_⟩
  unfold ParS.whole at hx
  dsimp only at hx
  split at hx
  · exact h.out x hx
  · rcases List.mem_append.1 hx with hx | hx
    · exact h.out x hx
    · rw [List.mem_singleton.1 hx]; exact hl
theorem Bnd.lineB {p : PS} {c : Int} (h : Bnd p) (hc : p.cur.length ≤ 5000) : Bnd (lineB p c).1 := by
  unfold ParS.lineB
  split
  · exact ⟨h.args, h.out⟩
  · split
    · exact h
    · exact h.whole (s := p.st) (line_sml _ hc)
theorem Bnd.step {p : PS} {c : Int} (h : Bnd p) (hi : Inv p) : Bnd (ParS.step p c).1 := by
  have hal := hi.args
  have hcl := hi.cur
  have hsm : Sml p.args := ⟨by omega, h.args⟩
  unfold ParS.step
  cases p.st <;> dsimp only
  · split
    · exact ⟨h.args, h.out⟩
    · exact Bnd.lineB (p := { p with cur := [], st := .line }) ⟨h.args, h.out⟩ (by simp)
  · unfold ParS.digitB; repeat' split
    all_goals exact ⟨h.args, h.out⟩
  · exact ⟨h.args, h.out⟩
  · exact ⟨h.args, h.out⟩
  · unfold ParS.numFB
    split
    · exact h
    · split
      · exact ⟨h.args, h.out⟩
      · split
        · exact h.whole (l := p.args) (s := p.st) hsm
        · exact ⟨fun y hy => (by cases hy), h.out⟩
  · exact ⟨h.args, h.out⟩
  · exact ⟨h.args, h.out⟩
  · exact ⟨h.args, h.out⟩
  · have ha2 : ∀ y ∈ p.args ++ [p.cur], y.length ≤ 5000 := fun y hy => by
      rcases List.mem_append.1 hy with hy | hy
      · exact h.args y hy
      · rw [List.mem_singleton.1 hy]; omega
    unfold ParS.contFB
    split
    · exact h
    · split
      · exact h.whole (l := p.args ++ [p.cur]) (s := .dollar) ⟨by rw [List.length_append, List.length_singleton]; omega, ha2⟩
      · exact ⟨ha2, h.out⟩
  · exact h.lineB (by omega)
theorem Bnd.runB {p : PS} {c : Int} (h : Bnd p) (hi : Inv p) : Bnd (runB p c) := by
  unfold ParS.runB
  split
  · exact h
  · next hb =>
    have hb0 : p.broken = 0 := Decidable.not_not.1 hb
    have hs := Bnd.step (p := { p with held := p.held + 1 }) (c := c) ⟨h.args, h.out⟩ (hi.held hb0 _)
    unfold step1
    split
    · exact ⟨fun y hy => (by cases hy), hs.out⟩
    · exact hs
theorem Bnd.run : ∀ (b : List Int) {p : PS}, Bnd p → Inv p → Bnd (run p b) := by
  intro b
  induction b with
  | nil => intro p h _; exact h
  | cons c b ih => intro p h hi; rw [run_cons]; exact ih (h.runB hi) (hi.runB c)
theorem bnd_new (b : List Int) : ∀ x ∈ (run new b).out, Sml x := (Bnd.run b (p := new) ⟨fun y hy => by simp [new] at hy, fun x hx => by simp [new] at hx⟩ inv_new).out
end Go.Proofs.Ytfdkcnbkoagmiaa.BndS
end

section
namespace Go.Proofs.Ytfdkcnbkoagmiaa.FnW
open Go Go.RowKit Go.Proofs.YtfdkcnbkoagmiaaW.PrintWords Go.Proofs.YtfdkcnbkoagmiaaW.PrintLast Go.Proofs.YtfdkcnbkoagmiaaW.PrintMore Go.Proofs.Ytfdkcnbkoagmiaa.RowU Go.Proofs.Ytfdkcnbkoagmiaa.ArS Go.Proofs.Ytfdkcnbkoagmiaa.ArM Go.Proofs.Ytfdkcnbkoagmiaa.GenM Go.Proofs.Ytfdkcnbkoagmiaa.GenN Go.Proofs.Ytfdkcnbkoagmiaa.GenL Go.Proofs.Ytfdkcnbkoagmiaa.OwnL Go.Proofs.Ytfdkcnbkoagmiaa.ParM Go.Proofs.Ytfdkcnbkoagmiaa.ParD Go.Proofs.Ytfdkcnbkoagmiaa.ParF Go.Proofs.Ytfdkcnbkoagmiaa.ChkS Go.Proofs.Ytfdkcnbkoagmiaa.FedW
open Go.Proofs.Ytfdkcnbkoagmiaa.ParS (St PS)
set_option linter.unusedVariables false
set_option maxRecDepth 100000
structure FN (W wr : World) (gp : Nat) (q : PS) (va vc vx : Value) (Oa Oc Oo : Nat → Nat) (vo : Value) (ol : List (List (List Int))) (Ot : Nat → Nat) : Prop where
  pm : PM wr gp q va vc vx Oa Oc Oo
  ro : CmR wr vo ol Ot
  one : ∀ a, PO gp Oa Oc Oo a + Ot a ≤ 1
  new : ∀ a, PO gp Oa Oc Oo a + Ot a ≠ 0 → W.heap.size ≤ a
  bel : Below W.heap.size W wr
variable {W wr : World} {gp : Nat} {q : PS} {va vc vx : Value} {Oa Oc Oo : Nat → Nat} {vo : Value} {ol : List (List (List Int))} {Ot : Nat → Nat}
theorem FN.fed (h : FN W wr gp q va vc vx Oa Oc Oo vo ol Ot) {w2 : World} {q' : PS} {vt : Value} {ot : List (List (List Int))} (hf : FQ wr w2 (PO gp Oa Oc Oo) gp q' vt ot) :
    ∃ va' vc' vx' Oa' Oc' Oo' Ott, FN W w2 gp q' va' vc' vx' Oa' Oc' Oo' vo ol Ot ∧ CmR w2 vt ot Ott ∧ (∀ a, PO gp Oa' Oc' Oo' a + Ot a + Ott a ≤ 1) ∧ ∀ a, Ott a ≠ 0 → W.heap.size ≤ a := by
  obtain ⟨va', vc', vx', Oa', Oc', Oo', Ott, f1, f2, f3, f4, f5⟩ := hf
  have ho := h.one
  have hone : ∀ a, PO gp Oa' Oc' Oo' a + Ot a + Ott a ≤ 1 := fun a => by
    have h3 := f3 a
    by_cases hl : a < wr.heap.size
    · have h4 := f4 a hl; have := ho a; omega
    · have : Ot a = 0 := Decidable.not_not.1 fun hne => hl (CmR.fit.lt h.ro hne)
      omega
  refine ⟨va', vc', vx', Oa', Oc', Oo', Ott, ⟨f1, CmR.fit.upd h.ro f5 (fun a ha hn => by have := ho a; omega), fun a => by have := hone a; omega, fun a ha => ?_, Upd.to_below h.bel f5 h.bel.size (fun a ha => h.new a (by omega))⟩, f2, hone, fun a ha => ?_⟩
  · by_cases hl : a < wr.heap.size
    · have := f4 a hl; exact h.new a (by omega)
    · have := h.bel.size; omega
  · by_cases hl : a < wr.heap.size
    · have := f4 a hl; exact h.new a (by omega)
    · have := h.bel.size; omega
theorem FN.app (h : FN W wr gp q va vc vx Oa Oc Oo vo ol Ot) {vs us : List Value} {O1 O2 Ott : Nat → Nat} {vt v' : Value} {ot : List (List (List Int))} {w3 : World} (he : El RwR wr vs ol O1) (hO1 : ∀ a, Ot a = oc vo a + O1 a) (he2 : El RwR wr us ot O2) (hO2 : ∀ a, Ott a = oc vt a + O2 a)
    (hone : ∀ a, PO gp Oa Oc Oo a + Ot a + Ott a ≤ 1) (hnew : ∀ a, Ott a ≠ 0 → W.heap.size ≤ a) (hg : GrewL 22 wr w3 vo v' vs us) : ∃ Ot', FN W w3 gp q va vc vx Oa Oc Oo v' (ol ++ ot) Ot' := by
  obtain ⟨Ot', k1, k2, k3⟩ := LAt.growL RwR.fit he he2 (fun a => by have := hone a; rw [hO1, hO2] at this; omega) hg
  have k3' : ∀ a, a < wr.heap.size → Ot' a ≤ Ot a + Ott a := fun a ha => by have := k3 a ha; rw [hO1, hO2]; omega
  have hu := hg.2.2
  have hno : ∀ a, PO gp Oa Oc Oo a ≠ 0 → ¬ vo.ownBlock = some a := fun a ha e => by
    have := hone a
    rw [hO1, oc_one e] at this
    omega
  refine ⟨Ot', h.pm.upd hu (fun a ha => hno a ha), k1, fun a => ?_, fun a ha => ?_, Upd.to_below h.bel hu h.bel.size (fun a ha => h.new a (by rw [hO1, oc_one ha]; omega))⟩
  · by_cases hl : a < wr.heap.size
    · have := k3' a hl; have := hone a; omega
    · have : PO gp Oa Oc Oo a = 0 := Decidable.not_not.1 fun hne => hl (h.pm.lt hne)
      have := k2 a
      omega
  · by_cases hl : a < wr.heap.size
    · have := k3' a hl
      by_cases e : Ott a = 0
      · exact h.new a (by omega)
      · exact hnew a e
    · have := h.bel.size; omega
theorem FN.byte (h : FN W wr gp q va vc vx Oa Oc Oo vo ol Ot) {d : List Int} {k : Nat} {c : Int} (hq : q = ParS.feed ParS.new (d.take k)) (hc : d[k]? = some c) : ParS.feed q [c] = ParS.feed ParS.new (d.take (k + 1)) ∧ (ParS.run ParS.new (d.take k)).out ++ (ParS.run q [c]).out = (ParS.run ParS.new (d.take (k + 1))).out := by
  obtain ⟨hk, rfl⟩ := List.getElem?_eq_some_iff.1 hc
  rw [List.take_add_one, List.getElem?_eq_getElem hk, Option.toList_some, hq]
  exact ⟨(feed_snoc _ _ _).symm, (run_snoc_out _ _ _).symm⟩
theorem FN.fed2 (h : FN W wr gp q va vc vx Oa Oc Oo vo ol Ot) {vt : Value} {ot : List (List (List Int))} {Ott : Nat → Nat} (h2 : CmR wr vt ot Ott) (hone : ∀ a, PO gp Oa Oc Oo a + Ot a + Ott a ≤ 1) {w2 : World} {vy : Value} {q' : PS} {oy : List (List (List Int))} (hf : FQ wr w2 (PO gp Oa Oc Oo) gp q' vy oy) :
    ∃ va' vc' vx' Oa' Oc' Oo', FN W w2 gp q' va' vc' vx' Oa' Oc' Oo' vo ol Ot ∧ CmR w2 vt ot Ott ∧ (∀ a, PO gp Oa' Oc' Oo' a + Ot a + Ott a ≤ 1) ∧ ∃ Oy, CmR w2 vy oy Oy := by
  obtain ⟨va', vc', vx', Oa', Oc', Oo', Oy, f1, f2, f3, f4, f5⟩ := hf
  have hone' : ∀ a, PO gp Oa' Oc' Oo' a + Ot a + Ott a ≤ 1 := fun a => by
    have h3 := f3 a
    by_cases hl : a < wr.heap.size
    · have h4 := f4 a hl; have := hone a; omega
    · have e1 : Ot a = 0 := Decidable.not_not.1 fun hne => hl (CmR.fit.lt h.ro hne)
      have e2 : Ott a = 0 := Decidable.not_not.1 fun hne => hl (CmR.fit.lt h2 hne)
      omega
  refine ⟨va', vc', vx', Oa', Oc', Oo', ⟨f1, CmR.fit.upd h.ro f5 (fun a ha hn => by have := hone a; omega), fun a => by have := hone' a; omega, fun a ha => ?_, Upd.to_below h.bel f5 h.bel.size (fun a ha => h.new a (by omega))⟩, CmR.fit.upd h2 f5 (fun a ha hn => by have := hone a; omega), hone', Oy, f2⟩
  by_cases hl : a < wr.heap.size
  · have := f4 a hl; exact h.new a (by omega)
  · have := h.bel.size; omega
theorem FN.feed (h : FN W wr gp q va vc vx Oa Oc Oo vo ol Ot) (hi : ParS.Inv q) (hcb : LinS.inB q.cur) (hop : q.out = []) (hh : 0 ≤ q.held) (hhb : q.held ≤ 1000000000000) (A : Option Addr) (cc : Nat) (b : List Int) (hC : (Kd.int .u8).C wr A b.length b) (hb : LinS.inB b) (hA : ∀ ad, A = some ad → ad.block < W.heap.size) (hbl : b.length ≤ 80000000) :
    Calls Try.prog 13 #[ptr gp, .slice A b.length cc] wr fun e w' => ∃ vt, e = .returned (.tuple #[vt, .int .i64 (ParS.run q b).broken]) ∧ FQ wr w' (PO gp Oa Oc Oo) gp (ParS.feed q b) vt (ParS.run q b).out :=
  feed.calls h.pm hi hcb hop hh A cc b hC hb (fun ad e => ⟨Decidable.not_not.1 fun hne => by have := h.new ad.block (by omega); have := hA ad e; omega, by have := hA ad e; have := h.bel.size; omega⟩) hbl hhb
theorem FN.feedNil (h : FN W wr gp q va vc vx Oa Oc Oo vo ol Ot) (hi : ParS.Inv q) (hcb : LinS.inB q.cur) (hop : q.out = []) (hh : 0 ≤ q.held) (hhb : q.held ≤ 1000000000000) :
    Calls Try.prog 13 #[ptr gp, .slice none 0 0] wr fun e w' => ∃ vt, e = .returned (.tuple #[vt, .int .i64 q.broken]) ∧ FQ wr w' (PO gp Oa Oc Oo) gp q vt [] := by
  have h1 := h.feed hi hcb hop hh hhb none 0 [] ⟨rfl, by simp, fun h0 => by simp at h0⟩ nil_in (fun _ h => by cases h) (by simp)
  obtain ⟨e1, e2⟩ := feed_none hop
  rw [e1, e2, hop] at h1
  exact h1
theorem FN.start {W w1 : World} (hp : PM w1 W.heap.size ParS.new (.slice none 0 0) (.slice none 0 0) (.slice none 0 0) (fun _ => 0) (fun _ => 0) (fun _ => 0)) (hb : Below W.heap.size W w1) : FN W w1 W.heap.size ParS.new (.slice none 0 0) (.slice none 0 0) (.slice none 0 0) (fun _ => 0) (fun _ => 0) (fun _ => 0) (.slice none 0 0) [] (fun _ => 0) :=
  ⟨hp, LAt.nil _ _ _, fun a => by unfold PO; dsimp only; split <;> omega, fun a ha => by
    unfold PO at ha
    dsimp only at ha
    split at ha <;> omega, hb⟩
end Go.Proofs.Ytfdkcnbkoagmiaa.FnW
end

section
namespace Go.Proofs.Ytfdkcnbkoagmiaa.ChkW
open Go Go.RowKit Go.Proofs.YtfdkcnbkoagmiaaW.PrintWords Go.Proofs.YtfdkcnbkoagmiaaW.PrintLast Go.Proofs.YtfdkcnbkoagmiaaW.PrintMore Go.Proofs.Ytfdkcnbkoagmiaa.RowU Go.Proofs.Ytfdkcnbkoagmiaa.ArS Go.Proofs.Ytfdkcnbkoagmiaa.ArM Go.Proofs.Ytfdkcnbkoagmiaa.GenM Go.Proofs.Ytfdkcnbkoagmiaa.GenN Go.Proofs.Ytfdkcnbkoagmiaa.GenL Go.Proofs.Ytfdkcnbkoagmiaa.OwnL Go.Proofs.Ytfdkcnbkoagmiaa.ParM Go.Proofs.Ytfdkcnbkoagmiaa.ParD Go.Proofs.Ytfdkcnbkoagmiaa.ParF Go.Proofs.Ytfdkcnbkoagmiaa.ChkS Go.Proofs.Ytfdkcnbkoagmiaa.FedW Go.Proofs.Ytfdkcnbkoagmiaa.FedX Go.Proofs.Ytfdkcnbkoagmiaa.StrB Go.Proofs.Ytfdkcnbkoagmiaa.FnW
open Go.Proofs.Ytfdkcnbkoagmiaa.ParS (St PS)
open Go.Proofs.Ytfdkcnbkoagmiaa.LinS (inB)
set_option linter.unusedVariables false
set_option maxRecDepth 100000
theorem addLen {a b c d : Nat} (h1 : a = c) (h2 : b = d) (h : c ≤ 10000 ∧ d ≤ 10000) : a + b ≤ 1000000000 := by omega
theorem ping_in : inB ping := by intro x hx; simp [ping] at hx; omega
theorem C_none (w : World) : (Kd.int .i64).C w none ([] : List Int).length [] := ⟨rfl, by simp, fun h0 => by simp at h0⟩
theorem first_cells {w : World} {vo : Value} {ol r : List (List (List Int))} {Ot : Nat → Nat} (h : CmR w vo ol Ot) (ho : ol = [IsW.pingL] :: r) : ∃ gl cl g1 c1 g4 c4, vo = .slice (some ⟨gl, 0, none⟩) ol.length cl ∧ 4 ≤ c4 ∧ ∀ w', Below w.heap.size w w' → w'.cell? ⟨gl, 0, none⟩ = some (.slice (some ⟨g1, 0, none⟩) 1 c1) ∧ w'.cell? ⟨g1, 0, none⟩ = some (.slice (some ⟨g4, 0, none⟩) 4 c4) ∧ (Kd.int .u8).C w' (some ⟨g4, 0, none⟩) 4 IsW.pingL := by
  obtain ⟨gl, cl, y, Ox, e1, e2, e3, _⟩ := LAt.get RwR.fit h (i := 0) (x := [IsW.pingL]) (by rw [ho]; rfl)
  obtain ⟨g1, c1, y2, Ox2, rfl, e4, e5, _⟩ := LAt.get BtR.fit e3 (i := 0) (x := IsW.pingL) rfl
  obtain ⟨g4, c4, e6, _⟩ := e5.1.get 0 (.int .u8 80) rfl
  rw [List.length_map] at e6
  subst e6
  have hC := e5.C
  exact ⟨gl, cl, g1, c1, g4, c4, e1, hC.2.1, fun w' hb => ⟨(hb.cell (World.block_lt_of_cell? _ _ e2)).trans e2, (hb.cell (World.block_lt_of_cell? _ _ e4)).trans e4, Kd.C_below hC.2.2 hb⟩⟩
theorem int_cells {w : World} {ve : Value} {el : List Int} (h : GV 3 w ve (el.map (Value.int .i64))) (h0 : 0 < el.length) : ∃ ge ce, ve = .slice (some ⟨ge, 0, none⟩) el.length ce ∧ ∀ w', Below w.heap.size w w' → ∀ i x, el[i]? = some x → w'.cell? ⟨ge, i, none⟩ = some (.int .i64 x) := by
  obtain ⟨ge, ce, e, _⟩ := h.get 0 (.int .i64 el[0]) (by simp [h0])
  rw [List.length_map] at e
  subst e
  refine ⟨ge, ce, rfl, fun w' hb i x hx => ?_⟩
  obtain ⟨g', c', e2, hc⟩ := h.get i (.int .i64 x) (by simp [hx])
  simp only [Value.slice.injEq, Option.some.injEq, Addr.mk.injEq, and_true] at e2
  obtain ⟨rfl, _⟩ := e2
  exact (hb.cell (World.block_lt_of_cell? _ _ hc)).trans hc
structure Pd (w : World) (gp : Nat) (q : PS) (vo : Value) (ol : List (List (List Int))) (ve : Value) (el : List Int) : Prop where
  pm : ∃ va vc vx Oa Oc Oo, PM w gp q va vc vx Oa Oc Oo
  ro : ∃ Ot, CmR w vo ol Ot
  re : GV 3 w ve (el.map (Value.int .i64))
theorem Pd.below {w w' : World} {gp : Nat} {q : PS} {vo : Value} {ol : List (List (List Int))} {ve : Value} {el : List Int} (h : Pd w gp q vo ol ve el) (hb : Below w.heap.size w w') : Pd w' gp q vo ol ve el := by
  obtain ⟨⟨va, vc, vx, Oa, Oc, Oo, h1⟩, ⟨Ot, h2⟩, h3⟩ := h
  have hu := Upd.of_below (S := fun _ => False) hb
  exact ⟨⟨va, vc, vx, Oa, Oc, Oo, h1.upd hu (fun _ _ hf => hf)⟩, ⟨Ot, CmR.fit.upd h2 hu (fun _ _ hf => hf)⟩, h3.upd hu (fun _ _ hf => hf)⟩
theorem Pd.broken {w : World} {gp : Nat} {q : PS} {vo : Value} {ol : List (List (List Int))} {ve : Value} {el : List Int} (h : Pd w gp q vo ol ve el) : Calls Try.prog 21 #[ptr gp] w fun e w' => e = .returned (.int .i64 q.broken) ∧ w' = w := by
  obtain ⟨va, vc, vx, Oa, Oc, Oo, h1⟩ := h.pm
  exact broken.calls h1
theorem Pd.held {w : World} {gp : Nat} {q : PS} {vo : Value} {ol : List (List (List Int))} {ve : Value} {el : List Int} (h : Pd w gp q vo ol ve el) : Calls Try.prog 23 #[ptr gp] w fun e w' => e = .returned (.int .i64 q.held) ∧ w' = w := by
  obtain ⟨va, vc, vx, Oa, Oc, Oo, h1⟩ := h.pm
  exact held.calls h1
theorem sameP {w : World} {gp gq : Nat} {q q' : PS} {A A' : Option Addr} {n n' c c' : Nat} {M : List (List (List Int))} {ve ve' : Value} {el el' : List Int} (h : Pd w gp q (.slice A n c) M ve el) (h' : Pd w gq q' (.slice A' n' c') M ve' el') (hb : M.length ≤ 2000000 ∧ ∀ x ∈ M, BndS.Sml x) : Calls Try.prog 19 #[.slice A M.length c, .slice A' M.length c'] w fun e w' => e = .returned (.bool true) ∧ Drawn0 w w' := by
  obtain ⟨O1, h1⟩ := h.ro
  obtain ⟨O2, h2⟩ := h'.ro
  obtain ⟨k1, k2, k3⟩ := LAt.C RwR.fit rfl RwR.K h1
  obtain ⟨k4, k5, k6⟩ := LAt.C RwR.fit rfl RwR.K h2
  exact EqR.same.calls k3 k2 k6 k5 2000000 (fun x hx => ⟨by have := (hb.2 x hx).1; omega, fun y hy => by have := (hb.2 x hx).2 y hy; omega⟩) (by decide) hb.1
theorem fedP (A : Option Addr) (c : Nat) (d : List Int) (Aq : Option Addr) (cq : Nat) (cuts : List Int) (W : World) (hC : (Kd.int .u8).C W A d.length d) (hd : inB d) (hlen : d.length ≤ 70000000) (hQ : (Kd.int .i64).C W Aq cuts.length cuts) :
    Calls Try.prog 26 #[.slice A d.length c, .slice Aq cuts.length cq] W fun e w' => ∃ gp vo co ve el, e = .returned (.tuple #[ptr gp, .slice vo (ParS.run ParS.new d).out.length co, ve]) ∧ Pd w' gp (ParS.feed ParS.new d) (.slice vo (ParS.run ParS.new d).out.length co) (ParS.run ParS.new d).out ve el ∧ el = (fedL ParS.new d (cuts.take 4095)).2.2 ∧ Below W.heap.size W w' :=
  (fed.calls A c d Aq cq cuts W hC hd hlen hQ).mono fun e w' ⟨gp, gd, q, va, vc, vx, Oa, Oc, Oo, vo, ol, Ot, ve, el, o, r, h1, h2, h3⟩ => by
    have hp := fedL_is (cuts.take 4095) ParS.new d
    rw [h1] at hp
    obtain ⟨p1, p2, _, _⟩ := hp
    dsimp only at p1 p2
    subst p1 p2
    obtain ⟨Ao, co, eo⟩ := h3.ro.slice
    subst eo
    exact ⟨gp, Ao, co, ve, el, h2, ⟨⟨_, _, _, _, _, _, h3.pm⟩, ⟨_, h3.ro⟩, h3.re⟩, by rw [h1], h3.bel⟩
set_option maxHeartbeats 16000000 in
theorem walk (y : List Int × List Int) (ca : Array Value) (W : World) (hK : kStr.K W y ca.toList) (hg : gStr y) :
    Calls Try.prog 5 #[.agg ca] W fun e w' => e = .returned (.bool true) ∧ Below W.heap.size W w' := by
  obtain ⟨D, cuts⟩ := y
  obtain ⟨A, c, A2, c2, hca, hc, hCD, hc2, hCQ⟩ := str_open hK
  obtain rfl : ca = #[.slice A D.length c, .slice A2 cuts.length c2] := by cases ca; simpa using hca
  have hDin : inB D := in_of hg.1.2.2
  have hDl : D.length ≤ 1048576 := hg.1.1
  have hQl : cuts.length ≤ 1048576 := hg.2.1
  obtain ⟨d, hd⟩ : ∃ d, d = ping ++ D := ⟨_, rfl⟩
  have hdl : d.length = 14 + D.length := by rw [hd, List.length_append]; rfl
  have hdin : inB d := fun x hx => by
    rw [hd] at hx
    rcases List.mem_append.1 hx with hx | hx
    · exact ping_in x hx
    · exact hDin x hx
  have HDD := Aside0.mk hd
  have HDL := Aside0.mk hdl
  have HDI := Aside0.mk hdin
  have HB0 := Aside0.mk (And.intro hDl hQl)
  have HCD := Aside0.mk hCD
  have HCQ := Aside0.mk hCQ
  have hc1 := ApnF.conv_at (w := W.alloc (.cells #[.slice A D.length c, .slice A2 cuts.length c2] 73)) (W.heap.size + 1) (by simp) (ping.map (Value.int .u8)).toArray 14 14
  simp only [ping, List.map_cons, List.map_nil] at hc1
  clear hK hg hca hc hCD hc2 hCQ hDin hDl hQl hd hdl hdin
  go_enter Try.func5, Try.ntmps5
  go_upto_region 2 with ((with_reducible refine gate_builtin (b := .append) (xs := #[.tmp 19, .tmp 21]) rfl ?_); at_builtin; go_must (refine ApnF.wpList_append_full rfl (.tmp 19) (.tmp 21) rfl ⟨W.heap.size + 1, 0, none⟩ ping rfl ?hc1 A c D rfl ?hc2 ?hb d HDD.out ?_); go_must ((case hc1 => exact ApnF.got_const _ _ (by simp) ping _ (by decide))); go_must ((case hc2 => exact Kd.C_below HCD.out (below_alloc (below_alloc (Below.refl _ _) _) _))); go_must ((case hb => have := HB0.out; show 14 + D.length ≤ _; omega)); intro Ad cd wd hCd hcd hbd; have HCd := Aside0.mk (And.intro hCd hcd); have HBd := Aside0.mk (below_next (below_alloc (below_alloc (Below.refl W.heap.size W) _) _) hbd); have HSTR := Aside0.mk (blk_below (blk_below (blk_new W (.cells #[.slice A D.length c, .slice A2 cuts.length c2] 73)) (below_alloc (Below.refl _ _) _)) hbd); clear hCd hcd hbd hc1)
  have HR1 : Aside0 (∃ r, (ParS.run ParS.new d).out = [IsW.pingL] :: r) := ⟨by rw [HDD.out]; exact ping_out D⟩
  obtain ⟨M, hM⟩ : ∃ M, M = (ParS.run ParS.new d).out := ⟨_, rfl⟩
  obtain ⟨P, hP⟩ : ∃ P, P = ParS.feed ParS.new d := ⟨_, rfl⟩
  have HF1 : Aside0 (Calls Try.prog 26 #[.slice Ad d.length cd, .slice none 0 0] wd fun e w' => ∃ gp vo co ve el, e = .returned (.tuple #[ptr gp, .slice vo M.length co, ve]) ∧ Pd w' gp P (.slice vo M.length co) M ve el ∧ el = (fedL ParS.new d []).2.2 ∧ Below wd.heap.size wd w') := ⟨by rw [hM, hP]; exact fedP Ad cd d none 0 [] wd HCd.out.1 HDI.out (by have := HDL.out; have := HB0.out; omega) (C_none wd)⟩
  have HF2 : Aside0 (∀ w', Below wd.heap.size wd w' → Calls Try.prog 26 #[.slice Ad d.length cd, .slice A2 cuts.length c2] w' fun e w'' => ∃ gp vo co ve el, e = .returned (.tuple #[ptr gp, .slice vo M.length co, ve]) ∧ Pd w'' gp P (.slice vo M.length co) M ve el ∧ el = (fedL ParS.new d (cuts.take 4095)).2.2 ∧ Below w'.heap.size w' w'') := ⟨fun w' hb => by rw [hM, hP]; exact fedP Ad cd d A2 c2 cuts w' (Kd.C_below HCd.out.1 hb) HDI.out (by have := HDL.out; have := HB0.out; omega) (Kd.C_below (Kd.C_below HCQ.out HBd.out) hb)⟩
  have HSB : Aside0 (W.heap.size < wd.heap.size ∧ wd.cell? ⟨W.heap.size, 1, none⟩ = some (.slice A2 cuts.length c2)) := ⟨cell_lt HSTR.out, (blk_cell HSTR.out 1).trans rfl⟩
  rw [← hM] at HR1
  have HMP := Aside0.mk (And.intro hM hP)
  clear hM hP
  go_upto_region 4 with (first | (go_at_call 26; refine HF1.out.mono ?_; rintro e w2 ⟨gp, vo, co, ve, el, rfl, k1, k2, k3⟩; have K1 := Aside0.mk k1; have K2 := Aside0.mk k2; have K3 := Aside0.mk k3; have hxs : w2.cell? ⟨W.heap.size, 1, none⟩ = some (.slice A2 cuts.length c2) := (k3.cell HSB.out.1).trans HSB.out.2; clear k1 k2 k3 HF1) | (go_at_call 26; refine (HF2.out _ K3.out).mono ?_; rintro e w3 ⟨gq, vo', co', ve', el', rfl, k1, k2, k3⟩; have L1 := Aside0.mk k1; have L2 := Aside0.mk k2; have L3 := Aside0.mk k3; clear k1 k2 k3))
  have hE : el = [P.broken] := by rw [K2.out, HMP.out.2]; rfl
  subst hE
  have hfi := fedL_is (cuts.take 4095) ParS.new d
  rw [← L2.out] at hfi
  have HF := Aside0.mk (And.intro hfi.2.2.1 (And.intro (show el'[(cuts.take 4095).length]? = some P.broken by rw [hfi.2.2.2, HMP.out.2]; rfl) (fun i a b h1 h2 h3 => fedL_chain (cuts.take 4095) ParS.new d i a b (by rw [← L2.out]; exact h1) (by rw [← L2.out]; exact h2) h3)))
  have HKL : Aside0 ((cuts.take 4095).length ≤ 4095) := ⟨by rw [List.length_take]; omega⟩
  clear hfi
  have HP := Aside0.mk (K1.out.below L3.out)
  have HW3 : Aside0 (Below W.heap.size W w3) := ⟨below_next (below_next HBd.out K3.out) L3.out⟩
  obtain ⟨ge, ce, rfl, hge⟩ := int_cells HP.out.re (by simp)
  obtain ⟨gf, cf, e2, hgf⟩ := int_cells L1.out.re (by rw [HF.out.1]; omega)
  obtain ⟨n2, hn2⟩ : ∃ n2, n2 = (cuts.take 4095).length := ⟨_, rfl⟩
  rw [← hn2] at HF HKL
  rw [HF.out.1] at e2
  subst e2
  clear hn2
  obtain ⟨r, hr⟩ := HR1.out
  obtain ⟨Ot, hro⟩ := HP.out.ro
  obtain ⟨gl, cl, g1, c1, g4, c4, e1, h44, hfc⟩ := first_cells hro hr
  simp only [Value.slice.injEq, true_and] at e1
  obtain ⟨rfl, rfl⟩ := e1
  have HGE := Aside0.mk hge
  have HGF := Aside0.mk hgf
  have HFC := Aside0.mk (And.intro h44 hfc)
  have hm0 : ¬ (M.length : Int) = 0 := by rw [hr]; simp only [List.length_cons]; omega
  have hm1 : (0 : Int) < (M.length : Int) := by rw [hr]; simp only [List.length_cons]; omega
  have hmb : ((M.length : Int) == 0) = false := beq_false_of_ne hm0
  have hmn : ¬ M = [] := by rw [hr]; exact List.cons_ne_nil _ _
  obtain ⟨q1, q2, q3⟩ := hfc w3 (Below.refl _ _)
  clear hge hgf hro h44 hfc hr
  go_upto_region 6 with (go_at_call 27; refine (IsW.is.calls _ _ _ (HFC.out.2 _ (Below.refl _ _)).2.2 HFC.out.1).mono ?_; rintro e w4 ⟨rfl, hb4⟩; have B4 := Aside0.mk hb4; clear hb4)
  have HMB : Aside0 (M.length ≤ 2000000 ∧ ∀ x ∈ M, BndS.Sml x) := ⟨by
    rw [HMP.out.1]
    refine ⟨?_, BndS.bnd_new d⟩
    have h1 := (run_le d (p := ParS.new) (Int.le_refl 0)).1
    have h2 := HDL.out
    have h3 := HB0.out
    have h4 : (ParS.new).out.length = 0 := rfl
    omega⟩
  have HP4 := Aside0.mk (HP.out.below B4.out)
  have HL4 := Aside0.mk (L1.out.below B4.out)
  have HW4 : Aside0 (Below W.heap.size W w4) := ⟨below_next HW3.out B4.out⟩
  have HSC : Aside0 (Calls Try.prog 19 #[.slice (some ⟨gl, 0, none⟩) M.length co, .slice vo' M.length co'] w4 fun e w' => e = .returned (.bool true) ∧ Drawn0 w4 w') := ⟨sameP HP4.out HL4.out HMB.out⟩
  go_upto_region 8 with (first | (go_at_call 19; refine HSC.out.mono ?_; rintro e w5 ⟨rfl, hd5⟩; have B5 := Aside0.mk hd5.below; have HP5 := Aside0.mk (HP4.out.below B5.out); have HL5 := Aside0.mk (HL4.out.below B5.out); clear hd5) | (go_at_call 21; (first | refine HP5.out.broken.mono ?_ | refine HL5.out.broken.mono ?_); rintro e w6 ⟨rfl, rfl⟩) | (go_at_call 23; (first | refine HP5.out.held.mono ?_ | refine HL5.out.held.mono ?_); rintro e w6 ⟨rfl, rfl⟩))
  rename World => w5
  have HB35 : Aside0 (Below w3.heap.size w3 w5) := ⟨below_next B4.out B5.out⟩
  have HK : Aside0 (w5.cell? ⟨ge, 0, none⟩ = some (.int .i64 P.broken) ∧ w5.cell? ⟨gf, n2, none⟩ = some (.int .i64 P.broken)) := ⟨HGE.out w5 HB35.out 0 _ rfl, HGF.out w5 HB35.out n2 _ HF.out.2.1⟩
  have hn2 := HKL.out
  have hn0 : (0 : Int) ≤ (n2 : Int) := by omega
  have hn1 : (n2 : Int) < (n2 : Int) + 1 := by omega
  have HPI : Aside0 (P.broken ≠ 0 → P.held = 0) := ⟨by rw [HMP.out.2]; exact (ParS.inv_new.feed d).brk⟩
  have hs4 : IntKind.i64.wrap ((n2 : Int) + 1 - 1) = (n2 : Int) := by rw [IntWalk.i64_in _ (by omega)]; omega
  have hs5 : IntKind.i64.wrap (((n2 + 1 : Nat) : Int) - 1) = (n2 : Int) := by rw [IntWalk.i64_in _ (by omega)]; omega
  have hs6 : IntKind.i64.wrap (n2 : Int) = (n2 : Int) := IntWalk.i64_in _ (by omega)
  have hn3 : (n2 : Int) < ((n2 + 1 : Nat) : Int) := by rw [Int.natCast_succ]; exact hn1
  by_cases hE0 : P.broken = 0
  · have HBK : Aside0 (∀ w', Below w5.heap.size w5 w' → Calls Try.prog 21 #[ptr gp] w' fun e w'' => e = .returned (.int .i64 0) ∧ w'' = w') := ⟨fun w' hb => by rw [← hE0]; exact (HP5.out.below hb).broken⟩
    rw [hE0] at HK
    refine wp_region_held_drew (S := (fun w' => (w'.cell? ⟨ge, 0, none⟩ = some (.int .i64 0) ∧ w'.cell? ⟨gf, n2, none⟩ = some (.int .i64 0)) ∧ Aside0 (Below w5.heap.size w5 w'))) (by kernel_rfl) (by exact ⟨HK.out, ⟨(Below.refl _ _).drew⟩⟩) (fun hHeld => ?_)
    refine wpAnyH_take (i := 0) (oi := ({ dst := some 82, op := Go.Op.move (Go.Operand.tmp 6), type := 23, pos := "stream.go:57", after := #[], guard := none } : Oper)) (v := ?vz0) rfl (by kernel_rfl) (by kernel_rfl) (by kernel_rfl) (fun _ _ _ h => h) (Or.inl ⟨by rfl, ?hyz0⟩) (by assumption) ?restz0
    case hyz0 => (intro w hSw; (try dsimp only at hSw); go_simp; (try with_reducible rfl))
    (try simp only [Act.put, List.setIfInBounds_toArray, List.set_cons_zero, List.set_cons_succ])
    refine wpAnyH_take (i := 1) (oi := ({ dst := some 83, op := Go.Op.indexAddr 23 (Go.Operand.tmp 82) (Go.Operand.const (Go.Value.int Go.IntKind.i64 0)), type := 0, pos := "stream.go:57", after := #[{ on := 0, ground := Go.Ground.data }], guard := none } : Oper)) (v := ?vz1) rfl (by kernel_rfl) (by kernel_rfl) (by kernel_rfl) (fun _ _ _ h => h) (Or.inl ⟨by rfl, ?hyz1⟩) (by assumption) ?restz1
    case hyz1 => (intro w hSw; (try dsimp only at hSw); go_simp; (try with_reducible rfl))
    (try simp only [Act.put, List.setIfInBounds_toArray, List.set_cons_zero, List.set_cons_succ])
    refine wpAnyH_take (i := 2) (oi := ({ dst := some 84, op := Go.Op.load 3 (Go.Operand.tmp 83), type := 3, pos := "stream.go:57", after := #[{ on := 1, ground := Go.Ground.data }], guard := none } : Oper)) (v := ?vz2) rfl (by kernel_rfl) (by kernel_rfl) (by kernel_rfl) (fun _ _ _ h => h) (Or.inl ⟨by rfl, ?hyz2⟩) (by assumption) ?restz2
    case hyz2 => (intro w hSw; (try dsimp only at hSw); go_simp; (try with_reducible rfl))
    (try simp only [Act.put, List.setIfInBounds_toArray, List.set_cons_zero, List.set_cons_succ])
    refine wpAnyH_take (i := 3) (oi := ({ dst := some 85, op := Go.Op.move (Go.Operand.tmp 4), type := 34, pos := "stream.go:57", after := #[], guard := none } : Oper)) (v := ?vz3) rfl (by kernel_rfl) (by kernel_rfl) (by kernel_rfl) (fun _ _ _ h => h) (Or.inl ⟨by rfl, ?hyz3⟩) (by assumption) ?restz3
    case hyz3 => (intro w hSw; (try dsimp only at hSw); go_simp; (try with_reducible rfl))
    (try simp only [Act.put, List.setIfInBounds_toArray, List.set_cons_zero, List.set_cons_succ])
    refine wpAnyH_ready (rs := [4]) (by kernel_rfl) (by simp) ?_
    refine AllReadyH.cons (o := ({ dst := some 86, op := Go.Op.call { callee := Go.Callee.value (Go.Operand.func 21), args := #[Go.Operand.tmp 85], argTypes := #[34] }, type := 29, pos := "stream.go:57", after := #[{ on := 3, ground := Go.Ground.data }], guard := none } : Oper)) rfl (fun K hK => ?_) AllReadyH.nil
    go_simp
    go_at_call 21
    refine (HBK.out _ hHeld.2.out).mono ?_
    rintro e w6 ⟨rfl, h6⟩
    subst h6
    (try go_wp2_with fail)
    refine hK.out _ _ (by assumption) (fun hHeld => ?_)
    clear hK K
    (try simp only [Act.put, List.setIfInBounds_toArray, List.set_cons_zero, List.set_cons_succ])
    refine wpAnyH_ready (rs := [5]) (by kernel_rfl) (by simp) ?_
    refine AllReadyH.cons (o := ({ dst := some 87, op := Go.Op.call { callee := Go.Callee.value (Go.Operand.func 10), args := #[Go.Operand.tmp 86], argTypes := #[29] }, type := 3, pos := "stream.go:57", after := #[{ on := 4, ground := Go.Ground.data }, { on := 4, ground := Go.Ground.chain }], guard := none } : Oper)) rfl (fun K hK => ?_) AllReadyH.nil
    go_simp
    go_at_call 10
    refine (num.calls _ _).mono ?_
    rintro e w6 ⟨rfl, h6⟩
    subst h6
    (try go_wp2_with fail)
    refine hK.out _ _ (by assumption) (fun hHeld => ?_)
    clear hK K
    (try simp only [Act.put, List.setIfInBounds_toArray, List.set_cons_zero, List.set_cons_succ])
    refine wpAnyH_take (i := 6) (oi := ({ dst := some 88, op := Go.Op.binOp Go.BinOp.neq 3 (Go.Operand.tmp 84) (Go.Operand.tmp 87) 3, type := 4, pos := "stream.go:57", after := #[{ on := 2, ground := Go.Ground.data }, { on := 5, ground := Go.Ground.data }], guard := none } : Oper)) (v := ?vz6) rfl (by kernel_rfl) (by kernel_rfl) (by kernel_rfl) (fun _ _ _ h => h) (Or.inl ⟨by rfl, ?hyz6⟩) (by assumption) ?restz6
    case hyz6 => (intro w hSw; (try dsimp only at hSw); go_simp; (try with_reducible rfl))
    (try simp only [Act.put, List.setIfInBounds_toArray, List.set_cons_zero, List.set_cons_succ])
    refine wpAnyH_take (i := 7) (oi := ({ dst := some 89, op := Go.Op.move (Go.Operand.tmp 88), type := 4, pos := "stream.go:57", after := #[{ on := 6, ground := Go.Ground.data }, { on := 5, ground := Go.Ground.chain }], guard := none } : Oper)) (v := ?vz7) rfl (by kernel_rfl) (by kernel_rfl) (by kernel_rfl) (fun _ _ _ h => h) (Or.inl ⟨by rfl, ?hyz7⟩) (by assumption) ?restz7
    case hyz7 => (intro w hSw; (try dsimp only at hSw); go_simp; (try with_reducible rfl))
    (try simp only [Act.put, List.setIfInBounds_toArray, List.set_cons_zero, List.set_cons_succ])
    refine wpAnyH_take (i := 8) (oi := ({ dst := some 90, op := Go.Op.move (Go.Operand.tmp 9), type := 23, pos := "stream.go:57", after := #[{ on := 7, ground := Go.Ground.guard }], guard := some (7, false) } : Oper)) (v := ?vz8) rfl (by kernel_rfl) (by kernel_rfl) (by kernel_rfl) (fun _ _ _ h => h) (Or.inl ⟨by rfl, ?hyz8⟩) (by assumption) ?restz8
    case hyz8 => (intro w hSw; (try dsimp only at hSw); go_simp; (try with_reducible rfl))
    (try simp only [Act.put, List.setIfInBounds_toArray, List.set_cons_zero, List.set_cons_succ])
    refine wpAnyH_take (i := 9) (oi := ({ dst := some 91, op := Go.Op.move (Go.Operand.tmp 9), type := 23, pos := "stream.go:57", after := #[{ on := 7, ground := Go.Ground.guard }], guard := some (7, false) } : Oper)) (v := ?vz9) rfl (by kernel_rfl) (by kernel_rfl) (by kernel_rfl) (fun _ _ _ h => h) (Or.inl ⟨by rfl, ?hyz9⟩) (by assumption) ?restz9
    case hyz9 => (intro w hSw; (try dsimp only at hSw); go_simp; (try with_reducible rfl))
    (try simp only [Act.put, List.setIfInBounds_toArray, List.set_cons_zero, List.set_cons_succ])
    refine wpAnyH_take (i := 10) (oi := ({ dst := some 92, op := Go.Op.call { callee := Go.Callee.builtin Go.Builtin.len, args := #[Go.Operand.tmp 91], argTypes := #[23] }, type := 3, pos := "stream.go:57", after := #[{ on := 9, ground := Go.Ground.data }, { on := 7, ground := Go.Ground.guard }], guard := some (7, false) } : Oper)) (v := ?vz10) rfl (by kernel_rfl) (by kernel_rfl) (by kernel_rfl) (fun _ _ _ h => h) (Or.inl ⟨by rfl, ?hyz10⟩) (by assumption) ?restz10
    case hyz10 => (intro w hSw; (try dsimp only at hSw); go_simp; (try with_reducible rfl))
    (try simp only [Act.put, List.setIfInBounds_toArray, List.set_cons_zero, List.set_cons_succ])
    refine wpAnyH_take (i := 11) (oi := ({ dst := some 93, op := Go.Op.binOp Go.BinOp.sub 3 (Go.Operand.tmp 92) (Go.Operand.const (Go.Value.int Go.IntKind.i64 1)) 3, type := 3, pos := "stream.go:57", after := #[{ on := 10, ground := Go.Ground.data }, { on := 7, ground := Go.Ground.guard }], guard := some (7, false) } : Oper)) (v := ?vz11) rfl (by kernel_rfl) (by kernel_rfl) (by kernel_rfl) (fun _ _ _ h => h) (Or.inl ⟨by rfl, ?hyz11⟩) (by assumption) ?restz11
    case hyz11 => (intro w hSw; (try dsimp only at hSw); go_simp; (try with_reducible rfl))
    (try simp only [Act.put, List.setIfInBounds_toArray, List.set_cons_zero, List.set_cons_succ])
    refine wpAnyH_take (i := 12) (oi := ({ dst := some 94, op := Go.Op.indexAddr 23 (Go.Operand.tmp 90) (Go.Operand.tmp 93), type := 0, pos := "stream.go:57", after := #[{ on := 8, ground := Go.Ground.data }, { on := 11, ground := Go.Ground.data }, { on := 7, ground := Go.Ground.guard }], guard := some (7, false) } : Oper)) (v := ?vz12) rfl (by kernel_rfl) (by kernel_rfl) (by kernel_rfl) (fun _ _ _ h => h) (Or.inl ⟨by rfl, ?hyz12⟩) (by assumption) ?restz12
    case hyz12 => (intro w hSw; (try dsimp only at hSw); go_simp; (try with_reducible rfl))
    (try simp only [Act.put, List.setIfInBounds_toArray, List.set_cons_zero, List.set_cons_succ])
    refine wpAnyH_take (i := 13) (oi := ({ dst := some 95, op := Go.Op.load 3 (Go.Operand.tmp 94), type := 3, pos := "stream.go:57", after := #[{ on := 12, ground := Go.Ground.data }, { on := 7, ground := Go.Ground.guard }], guard := some (7, false) } : Oper)) (v := ?vz13) rfl (by kernel_rfl) (by kernel_rfl) (by kernel_rfl) (fun _ _ _ h => h) (Or.inl ⟨by rfl, ?hyz13⟩) (by assumption) ?restz13
    case hyz13 => (intro w hSw; (try dsimp only at hSw); go_simp; (try with_reducible rfl))
    (try simp only [Act.put, List.setIfInBounds_toArray, List.set_cons_zero, List.set_cons_succ])
    refine wpAnyH_take (i := 14) (oi := ({ dst := some 96, op := Go.Op.move (Go.Operand.tmp 6), type := 23, pos := "stream.go:57", after := #[{ on := 7, ground := Go.Ground.guard }], guard := some (7, false) } : Oper)) (v := ?vz14) rfl (by kernel_rfl) (by kernel_rfl) (by kernel_rfl) (fun _ _ _ h => h) (Or.inl ⟨by rfl, ?hyz14⟩) (by assumption) ?restz14
    case hyz14 => (intro w hSw; (try dsimp only at hSw); go_simp; (try with_reducible rfl))
    (try simp only [Act.put, List.setIfInBounds_toArray, List.set_cons_zero, List.set_cons_succ])
    refine wpAnyH_take (i := 15) (oi := ({ dst := some 97, op := Go.Op.indexAddr 23 (Go.Operand.tmp 96) (Go.Operand.const (Go.Value.int Go.IntKind.i64 0)), type := 0, pos := "stream.go:57", after := #[{ on := 14, ground := Go.Ground.data }, { on := 7, ground := Go.Ground.guard }], guard := some (7, false) } : Oper)) (v := ?vz15) rfl (by kernel_rfl) (by kernel_rfl) (by kernel_rfl) (fun _ _ _ h => h) (Or.inl ⟨by rfl, ?hyz15⟩) (by assumption) ?restz15
    case hyz15 => (intro w hSw; (try dsimp only at hSw); go_simp; (try with_reducible rfl))
    (try simp only [Act.put, List.setIfInBounds_toArray, List.set_cons_zero, List.set_cons_succ])
    refine wpAnyH_take (i := 16) (oi := ({ dst := some 98, op := Go.Op.load 3 (Go.Operand.tmp 97), type := 3, pos := "stream.go:57", after := #[{ on := 15, ground := Go.Ground.data }, { on := 7, ground := Go.Ground.guard }], guard := some (7, false) } : Oper)) (v := ?vz16) rfl (by kernel_rfl) (by kernel_rfl) (by kernel_rfl) (fun _ _ _ h => h) (Or.inl ⟨by rfl, ?hyz16⟩) (by assumption) ?restz16
    case hyz16 => (intro w hSw; (try dsimp only at hSw); go_simp; (try with_reducible rfl))
    (try simp only [Act.put, List.setIfInBounds_toArray, List.set_cons_zero, List.set_cons_succ])
    refine wpAnyH_take (i := 17) (oi := ({ dst := some 99, op := Go.Op.binOp Go.BinOp.neq 3 (Go.Operand.tmp 95) (Go.Operand.tmp 98) 3, type := 4, pos := "stream.go:57", after := #[{ on := 13, ground := Go.Ground.data }, { on := 16, ground := Go.Ground.data }, { on := 7, ground := Go.Ground.guard }], guard := some (7, false) } : Oper)) (v := ?vz17) rfl (by kernel_rfl) (by kernel_rfl) (by kernel_rfl) (fun _ _ _ h => h) (Or.inl ⟨by rfl, ?hyz17⟩) (by assumption) ?restz17
    case hyz17 => (intro w hSw; (try dsimp only at hSw); go_simp; (try with_reducible rfl))
    (try simp only [Act.put, List.setIfInBounds_toArray, List.set_cons_zero, List.set_cons_succ])
    refine wpAnyH_take (i := 18) (oi := ({ dst := some 100, op := Go.Op.pick (Go.Operand.tmp 89) (Go.Operand.const (Go.Value.bool true)) (Go.Operand.tmp 99), type := 4, pos := "stream.go:57", after := #[{ on := 7, ground := Go.Ground.data }, { on := 17, ground := Go.Ground.data }], guard := none } : Oper)) (v := ?vz18) rfl (by kernel_rfl) (by kernel_rfl) (by kernel_rfl) (fun _ _ _ h => h) (Or.inl ⟨by rfl, ?hyz18⟩) (by assumption) ?restz18
    case hyz18 => (intro w hSw; (try dsimp only at hSw); go_simp; (try with_reducible rfl))
    (try simp only [Act.put, List.setIfInBounds_toArray, List.set_cons_zero, List.set_cons_succ])
    refine wpAnyH_take (i := 19) (oi := ({ dst := some 101, op := Go.Op.move (Go.Operand.tmp 100), type := 4, pos := "stream.go:57", after := #[{ on := 18, ground := Go.Ground.data }, { on := 7, ground := Go.Ground.chain }], guard := none } : Oper)) (v := ?vz19) rfl (by kernel_rfl) (by kernel_rfl) (by kernel_rfl) (fun _ _ _ h => h) (Or.inl ⟨by rfl, ?hyz19⟩) (by assumption) ?restz19
    case hyz19 => (intro w hSw; (try dsimp only at hSw); go_simp; (try with_reducible rfl))
    (try simp only [Act.put, List.setIfInBounds_toArray, List.set_cons_zero, List.set_cons_succ])
    refine wpAnyH_take (i := 20) (oi := ({ dst := some 102, op := Go.Op.move (Go.Operand.tmp 6), type := 23, pos := "stream.go:57", after := #[{ on := 19, ground := Go.Ground.guard }], guard := some (19, false) } : Oper)) (v := ?vz20) rfl (by kernel_rfl) (by kernel_rfl) (by kernel_rfl) (fun _ _ _ h => h) (Or.inl ⟨by rfl, ?hyz20⟩) (by assumption) ?restz20
    case hyz20 => (intro w hSw; (try dsimp only at hSw); go_simp; (try with_reducible rfl))
    (try simp only [Act.put, List.setIfInBounds_toArray, List.set_cons_zero, List.set_cons_succ])
    refine wpAnyH_take (i := 21) (oi := ({ dst := some 103, op := Go.Op.indexAddr 23 (Go.Operand.tmp 102) (Go.Operand.const (Go.Value.int Go.IntKind.i64 0)), type := 0, pos := "stream.go:57", after := #[{ on := 20, ground := Go.Ground.data }, { on := 19, ground := Go.Ground.guard }], guard := some (19, false) } : Oper)) (v := ?vz21) rfl (by kernel_rfl) (by kernel_rfl) (by kernel_rfl) (fun _ _ _ h => h) (Or.inl ⟨by rfl, ?hyz21⟩) (by assumption) ?restz21
    case hyz21 => (intro w hSw; (try dsimp only at hSw); go_simp; (try with_reducible rfl))
    (try simp only [Act.put, List.setIfInBounds_toArray, List.set_cons_zero, List.set_cons_succ])
    refine wpAnyH_take (i := 22) (oi := ({ dst := some 104, op := Go.Op.load 3 (Go.Operand.tmp 103), type := 3, pos := "stream.go:57", after := #[{ on := 21, ground := Go.Ground.data }, { on := 19, ground := Go.Ground.guard }], guard := some (19, false) } : Oper)) (v := ?vz22) rfl (by kernel_rfl) (by kernel_rfl) (by kernel_rfl) (fun _ _ _ h => h) (Or.inl ⟨by rfl, ?hyz22⟩) (by assumption) ?restz22
    case hyz22 => (intro w hSw; (try dsimp only at hSw); go_simp; (try with_reducible rfl))
    (try simp only [Act.put, List.setIfInBounds_toArray, List.set_cons_zero, List.set_cons_succ])
    refine wpAnyH_take (i := 23) (oi := ({ dst := some 105, op := Go.Op.binOp Go.BinOp.neq 3 (Go.Operand.tmp 104) (Go.Operand.const (Go.Value.int Go.IntKind.i64 0)) 3, type := 4, pos := "stream.go:57", after := #[{ on := 22, ground := Go.Ground.data }, { on := 19, ground := Go.Ground.guard }], guard := some (19, false) } : Oper)) (v := ?vz23) rfl (by kernel_rfl) (by kernel_rfl) (by kernel_rfl) (fun _ _ _ h => h) (Or.inl ⟨by rfl, ?hyz23⟩) (by assumption) ?restz23
    case hyz23 => (intro w hSw; (try dsimp only at hSw); go_simp; (try with_reducible rfl))
    (try simp only [Act.put, List.setIfInBounds_toArray, List.set_cons_zero, List.set_cons_succ])
    refine wpAnyH_take (i := 24) (oi := ({ dst := some 106, op := Go.Op.move (Go.Operand.tmp 105), type := 4, pos := "stream.go:57", after := #[{ on := 23, ground := Go.Ground.data }, { on := 19, ground := Go.Ground.chain }, { on := 19, ground := Go.Ground.guard }], guard := some (19, false) } : Oper)) (v := ?vz24) rfl (by kernel_rfl) (by kernel_rfl) (by kernel_rfl) (fun _ _ _ h => h) (Or.inl ⟨by rfl, ?hyz24⟩) (by assumption) ?restz24
    case hyz24 => (intro w hSw; (try dsimp only at hSw); go_simp; (try with_reducible rfl))
    (try simp only [Act.put, List.setIfInBounds_toArray, List.set_cons_zero, List.set_cons_succ])
    refine wpAnyH_take (i := 25) (oi := ({ dst := some 107, op := Go.Op.move (Go.Operand.tmp 4), type := 34, pos := "stream.go:57", after := #[{ on := 24, ground := Go.Ground.guard }], guard := some (24, true) } : Oper)) (v := undef) rfl (by kernel_rfl) (by kernel_rfl) (by kernel_rfl) (fun _ _ _ h => h) (Or.inr ⟨by rfl, rfl⟩) (by assumption) ?_
    (try simp only [Act.put, List.setIfInBounds_toArray, List.set_cons_zero, List.set_cons_succ])
    refine wpAnyH_take (i := 26) (oi := ({ dst := some 108, op := Go.Op.call { callee := Go.Callee.value (Go.Operand.func 23), args := #[Go.Operand.tmp 107], argTypes := #[34] }, type := 3, pos := "stream.go:57", after := #[{ on := 25, ground := Go.Ground.data }, { on := 24, ground := Go.Ground.chain }, { on := 24, ground := Go.Ground.guard }], guard := some (24, true) } : Oper)) (v := undef) rfl (by kernel_rfl) (by kernel_rfl) (by kernel_rfl) (fun _ _ _ h => h) (Or.inr ⟨by rfl, rfl⟩) (by assumption) ?_
    (try simp only [Act.put, List.setIfInBounds_toArray, List.set_cons_zero, List.set_cons_succ])
    refine wpAnyH_take (i := 27) (oi := ({ dst := some 109, op := Go.Op.binOp Go.BinOp.neq 3 (Go.Operand.tmp 108) (Go.Operand.const (Go.Value.int Go.IntKind.i64 0)) 3, type := 4, pos := "stream.go:57", after := #[{ on := 26, ground := Go.Ground.data }, { on := 24, ground := Go.Ground.guard }], guard := some (24, true) } : Oper)) (v := undef) rfl (by kernel_rfl) (by kernel_rfl) (by kernel_rfl) (fun _ _ _ h => h) (Or.inr ⟨by rfl, rfl⟩) (by assumption) ?_
    (try simp only [Act.put, List.setIfInBounds_toArray, List.set_cons_zero, List.set_cons_succ])
    refine wpAnyH_take (i := 28) (oi := ({ dst := some 110, op := Go.Op.pick (Go.Operand.tmp 106) (Go.Operand.tmp 109) (Go.Operand.const (Go.Value.bool false)), type := 4, pos := "stream.go:57", after := #[{ on := 24, ground := Go.Ground.data }, { on := 27, ground := Go.Ground.data }, { on := 19, ground := Go.Ground.guard }], guard := some (19, false) } : Oper)) (v := ?vz28) rfl (by kernel_rfl) (by kernel_rfl) (by kernel_rfl) (fun _ _ _ h => h) (Or.inl ⟨by rfl, ?hyz28⟩) (by assumption) ?restz28
    case hyz28 => (intro w hSw; (try dsimp only at hSw); go_simp; (try with_reducible rfl))
    (try simp only [Act.put, List.setIfInBounds_toArray, List.set_cons_zero, List.set_cons_succ])
    refine wpAnyH_take (i := 29) (oi := ({ dst := some 111, op := Go.Op.pick (Go.Operand.tmp 101) (Go.Operand.const (Go.Value.bool true)) (Go.Operand.tmp 110), type := 4, pos := "stream.go:57", after := #[{ on := 19, ground := Go.Ground.data }, { on := 28, ground := Go.Ground.data }], guard := none } : Oper)) (v := ?vz29) rfl (by kernel_rfl) (by kernel_rfl) (by kernel_rfl) (fun _ _ _ h => h) (Or.inl ⟨by rfl, ?hyz29⟩) (by assumption) ?restz29
    case hyz29 => (intro w hSw; (try dsimp only at hSw); go_simp; (try with_reducible rfl))
    (try simp only [Act.put, List.setIfInBounds_toArray, List.set_cons_zero, List.set_cons_succ])
    refine wpAnyH_done (by kernel_rfl) ?_ _
    go_wp2_with fail
    have HB5 : Aside0 (Below w3.heap.size w3 w5) := HB35
    go_loopw [10] (fun i wr => ∃ k : Nat, i = .int .i64 ((k : Int) + 1) ∧ k ≤ n2 ∧ Aside0 (Below w5.heap.size w5 wr)) (fun i _ => n2 + 2 - (intOf i).toNat)
    case atStart => exact ⟨0, rfl, by omega, ⟨by first | exact Below.refl _ _ | exact (Below.refl _ _).drew | exact hHeld.2.out⟩⟩
    case round =>
      obtain ⟨k, rfl, hk, HR⟩ := hrel
      rename World => wr
      by_cases hlt : k < n2
      · have hlt' : (k : Int) + 1 < (n2 : Int) + 1 := by omega
        have hk0 : (0 : Int) ≤ (k : Int) := by omega
        have hk1 : (0 : Int) ≤ (k : Int) + 1 := by omega
        have hk2 : (k : Int) < (n2 : Int) + 1 := by omega
        have hk3 : (k : Int) < ((n2 + 1 : Nat) : Int) := by omega
        have hk4 : (k : Int) + 1 < ((n2 + 1 : Nat) : Int) := by omega
        have hn2' := hn2
        obtain ⟨x, hx⟩ : ∃ x, el'[k]? = some x := ⟨_, List.getElem?_eq_getElem (by rw [HF.out.1]; omega)⟩
        obtain ⟨y, hy⟩ : ∃ y, el'[k + 1]? = some y := ⟨_, List.getElem?_eq_getElem (by rw [HF.out.1]; omega)⟩
        have HKk : Aside0 (wr.cell? ⟨gf, k, none⟩ = some (.int .i64 x) ∧ wr.cell? ⟨gf, k + 1, none⟩ = some (.int .i64 y)) := ⟨HGF.out wr (below_next HB5.out HR.out) k x hx, HGF.out wr (below_next HB5.out HR.out) (k + 1) y hy⟩
        have HCH : Aside0 (x ≠ 0 → y = x) := ⟨HF.out.2.2 k x y hx hy⟩
        have HMS : Aside0 (k + 1 ≤ n2 ∧ n2 + 2 - (k + 2) < n2 + 2 - (k + 1)) := ⟨by omega⟩
        have hs7 : IntKind.i64.wrap ((k : Int) + 1 - 1) = (k : Int) := by rw [IntWalk.i64_in _ (by omega)]; omega
        have hs8 : IntKind.i64.wrap (k : Int) = (k : Int) := IntWalk.i64_in _ (by omega)
        clear hx hy hlt hk hn2'
        by_cases hx0 : x = 0
        · rw [hx0] at HKk
          go_wp2_with fail
          refine wp_region_held_drew (S := (fun w' => w'.cell? ⟨gf, k, none⟩ = some (.int .i64 0) ∧ w'.cell? ⟨gf, k + 1, none⟩ = some (.int .i64 y))) (by kernel_rfl) (by exact HKk.out) (fun hHeld => ?_)
          refine wpAnyH_take (i := 0) (oi := ({ dst := some 118, op := Go.Op.move (Go.Operand.tmp 9), type := 23, pos := "stream.go:61", after := #[], guard := none } : Oper)) (v := ?vaz0) rfl (by kernel_rfl) (by kernel_rfl) (by kernel_rfl) (fun _ _ _ h => h) (Or.inl ⟨by rfl, ?hyaz0⟩) (by assumption) ?restaz0
          case hyaz0 => (intro w hSw; (try dsimp only at hSw); go_simp; (try with_reducible rfl))
          (try simp only [Act.put, List.setIfInBounds_toArray, List.set_cons_zero, List.set_cons_succ])
          refine wpAnyH_take (i := 1) (oi := ({ dst := some 119, op := Go.Op.move (Go.Operand.tmp 10), type := 3, pos := "stream.go:61", after := #[], guard := none } : Oper)) (v := ?vaz1) rfl (by kernel_rfl) (by kernel_rfl) (by kernel_rfl) (fun _ _ _ h => h) (Or.inl ⟨by rfl, ?hyaz1⟩) (by assumption) ?restaz1
          case hyaz1 => (intro w hSw; (try dsimp only at hSw); go_simp; (try with_reducible rfl))
          (try simp only [Act.put, List.setIfInBounds_toArray, List.set_cons_zero, List.set_cons_succ])
          refine wpAnyH_take (i := 2) (oi := ({ dst := some 120, op := Go.Op.binOp Go.BinOp.sub 3 (Go.Operand.tmp 119) (Go.Operand.const (Go.Value.int Go.IntKind.i64 1)) 3, type := 3, pos := "stream.go:61", after := #[{ on := 1, ground := Go.Ground.data }], guard := none } : Oper)) (v := ?vaz2) rfl (by kernel_rfl) (by kernel_rfl) (by kernel_rfl) (fun _ _ _ h => h) (Or.inl ⟨by rfl, ?hyaz2⟩) (by assumption) ?restaz2
          case hyaz2 => (intro w hSw; (try dsimp only at hSw); go_simp; (try with_reducible rfl))
          (try simp only [Act.put, List.setIfInBounds_toArray, List.set_cons_zero, List.set_cons_succ])
          refine wpAnyH_take (i := 3) (oi := ({ dst := some 121, op := Go.Op.indexAddr 23 (Go.Operand.tmp 118) (Go.Operand.tmp 120), type := 0, pos := "stream.go:61", after := #[{ on := 0, ground := Go.Ground.data }, { on := 2, ground := Go.Ground.data }], guard := none } : Oper)) (v := ?vaz3) rfl (by kernel_rfl) (by kernel_rfl) (by kernel_rfl) (fun _ _ _ h => h) (Or.inl ⟨by rfl, ?hyaz3⟩) (by assumption) ?restaz3
          case hyaz3 => (intro w hSw; (try dsimp only at hSw); go_simp; (try with_reducible rfl))
          (try simp only [Act.put, List.setIfInBounds_toArray, List.set_cons_zero, List.set_cons_succ])
          refine wpAnyH_take (i := 4) (oi := ({ dst := some 122, op := Go.Op.load 3 (Go.Operand.tmp 121), type := 3, pos := "stream.go:61", after := #[{ on := 3, ground := Go.Ground.data }], guard := none } : Oper)) (v := ?vaz4) rfl (by kernel_rfl) (by kernel_rfl) (by kernel_rfl) (fun _ _ _ h => h) (Or.inl ⟨by rfl, ?hyaz4⟩) (by assumption) ?restaz4
          case hyaz4 => (intro w hSw; (try dsimp only at hSw); go_simp; (try with_reducible rfl))
          (try simp only [Act.put, List.setIfInBounds_toArray, List.set_cons_zero, List.set_cons_succ])
          refine wpAnyH_take (i := 5) (oi := ({ dst := some 123, op := Go.Op.binOp Go.BinOp.neq 3 (Go.Operand.tmp 122) (Go.Operand.const (Go.Value.int Go.IntKind.i64 0)) 3, type := 4, pos := "stream.go:61", after := #[{ on := 4, ground := Go.Ground.data }], guard := none } : Oper)) (v := ?vaz5) rfl (by kernel_rfl) (by kernel_rfl) (by kernel_rfl) (fun _ _ _ h => h) (Or.inl ⟨by rfl, ?hyaz5⟩) (by assumption) ?restaz5
          case hyaz5 => (intro w hSw; (try dsimp only at hSw); go_simp; (try with_reducible rfl))
          (try simp only [Act.put, List.setIfInBounds_toArray, List.set_cons_zero, List.set_cons_succ])
          refine wpAnyH_take (i := 6) (oi := ({ dst := some 124, op := Go.Op.move (Go.Operand.tmp 123), type := 4, pos := "stream.go:61", after := #[{ on := 5, ground := Go.Ground.data }], guard := none } : Oper)) (v := ?vaz6) rfl (by kernel_rfl) (by kernel_rfl) (by kernel_rfl) (fun _ _ _ h => h) (Or.inl ⟨by rfl, ?hyaz6⟩) (by assumption) ?restaz6
          case hyaz6 => (intro w hSw; (try dsimp only at hSw); go_simp; (try with_reducible rfl))
          (try simp only [Act.put, List.setIfInBounds_toArray, List.set_cons_zero, List.set_cons_succ])
          refine wpAnyH_take (i := 7) (oi := ({ dst := some 125, op := Go.Op.move (Go.Operand.tmp 9), type := 23, pos := "stream.go:61", after := #[{ on := 6, ground := Go.Ground.guard }], guard := some (6, true) } : Oper)) (v := undef) rfl (by kernel_rfl) (by kernel_rfl) (by kernel_rfl) (fun _ _ _ h => h) (Or.inr ⟨by rfl, rfl⟩) (by assumption) ?_
          (try simp only [Act.put, List.setIfInBounds_toArray, List.set_cons_zero, List.set_cons_succ])
          refine wpAnyH_take (i := 8) (oi := ({ dst := some 126, op := Go.Op.move (Go.Operand.tmp 10), type := 3, pos := "stream.go:61", after := #[{ on := 6, ground := Go.Ground.guard }], guard := some (6, true) } : Oper)) (v := undef) rfl (by kernel_rfl) (by kernel_rfl) (by kernel_rfl) (fun _ _ _ h => h) (Or.inr ⟨by rfl, rfl⟩) (by assumption) ?_
          (try simp only [Act.put, List.setIfInBounds_toArray, List.set_cons_zero, List.set_cons_succ])
          refine wpAnyH_take (i := 9) (oi := ({ dst := some 127, op := Go.Op.indexAddr 23 (Go.Operand.tmp 125) (Go.Operand.tmp 126), type := 0, pos := "stream.go:61", after := #[{ on := 7, ground := Go.Ground.data }, { on := 8, ground := Go.Ground.data }, { on := 6, ground := Go.Ground.guard }], guard := some (6, true) } : Oper)) (v := undef) rfl (by kernel_rfl) (by kernel_rfl) (by kernel_rfl) (fun _ _ _ h => h) (Or.inr ⟨by rfl, rfl⟩) (by assumption) ?_
          (try simp only [Act.put, List.setIfInBounds_toArray, List.set_cons_zero, List.set_cons_succ])
          refine wpAnyH_take (i := 10) (oi := ({ dst := some 128, op := Go.Op.load 3 (Go.Operand.tmp 127), type := 3, pos := "stream.go:61", after := #[{ on := 9, ground := Go.Ground.data }, { on := 6, ground := Go.Ground.guard }], guard := some (6, true) } : Oper)) (v := undef) rfl (by kernel_rfl) (by kernel_rfl) (by kernel_rfl) (fun _ _ _ h => h) (Or.inr ⟨by rfl, rfl⟩) (by assumption) ?_
          (try simp only [Act.put, List.setIfInBounds_toArray, List.set_cons_zero, List.set_cons_succ])
          refine wpAnyH_take (i := 11) (oi := ({ dst := some 129, op := Go.Op.move (Go.Operand.tmp 9), type := 23, pos := "stream.go:61", after := #[{ on := 6, ground := Go.Ground.guard }], guard := some (6, true) } : Oper)) (v := undef) rfl (by kernel_rfl) (by kernel_rfl) (by kernel_rfl) (fun _ _ _ h => h) (Or.inr ⟨by rfl, rfl⟩) (by assumption) ?_
          (try simp only [Act.put, List.setIfInBounds_toArray, List.set_cons_zero, List.set_cons_succ])
          refine wpAnyH_take (i := 12) (oi := ({ dst := some 130, op := Go.Op.move (Go.Operand.tmp 10), type := 3, pos := "stream.go:61", after := #[{ on := 6, ground := Go.Ground.guard }], guard := some (6, true) } : Oper)) (v := undef) rfl (by kernel_rfl) (by kernel_rfl) (by kernel_rfl) (fun _ _ _ h => h) (Or.inr ⟨by rfl, rfl⟩) (by assumption) ?_
          (try simp only [Act.put, List.setIfInBounds_toArray, List.set_cons_zero, List.set_cons_succ])
          refine wpAnyH_take (i := 13) (oi := ({ dst := some 131, op := Go.Op.binOp Go.BinOp.sub 3 (Go.Operand.tmp 130) (Go.Operand.const (Go.Value.int Go.IntKind.i64 1)) 3, type := 3, pos := "stream.go:61", after := #[{ on := 12, ground := Go.Ground.data }, { on := 6, ground := Go.Ground.guard }], guard := some (6, true) } : Oper)) (v := undef) rfl (by kernel_rfl) (by kernel_rfl) (by kernel_rfl) (fun _ _ _ h => h) (Or.inr ⟨by rfl, rfl⟩) (by assumption) ?_
          (try simp only [Act.put, List.setIfInBounds_toArray, List.set_cons_zero, List.set_cons_succ])
          refine wpAnyH_take (i := 14) (oi := ({ dst := some 132, op := Go.Op.indexAddr 23 (Go.Operand.tmp 129) (Go.Operand.tmp 131), type := 0, pos := "stream.go:61", after := #[{ on := 11, ground := Go.Ground.data }, { on := 13, ground := Go.Ground.data }, { on := 6, ground := Go.Ground.guard }], guard := some (6, true) } : Oper)) (v := undef) rfl (by kernel_rfl) (by kernel_rfl) (by kernel_rfl) (fun _ _ _ h => h) (Or.inr ⟨by rfl, rfl⟩) (by assumption) ?_
          (try simp only [Act.put, List.setIfInBounds_toArray, List.set_cons_zero, List.set_cons_succ])
          refine wpAnyH_take (i := 15) (oi := ({ dst := some 133, op := Go.Op.load 3 (Go.Operand.tmp 132), type := 3, pos := "stream.go:61", after := #[{ on := 14, ground := Go.Ground.data }, { on := 6, ground := Go.Ground.guard }], guard := some (6, true) } : Oper)) (v := undef) rfl (by kernel_rfl) (by kernel_rfl) (by kernel_rfl) (fun _ _ _ h => h) (Or.inr ⟨by rfl, rfl⟩) (by assumption) ?_
          (try simp only [Act.put, List.setIfInBounds_toArray, List.set_cons_zero, List.set_cons_succ])
          refine wpAnyH_take (i := 16) (oi := ({ dst := some 134, op := Go.Op.binOp Go.BinOp.neq 3 (Go.Operand.tmp 128) (Go.Operand.tmp 133) 3, type := 4, pos := "stream.go:61", after := #[{ on := 10, ground := Go.Ground.data }, { on := 15, ground := Go.Ground.data }, { on := 6, ground := Go.Ground.guard }], guard := some (6, true) } : Oper)) (v := undef) rfl (by kernel_rfl) (by kernel_rfl) (by kernel_rfl) (fun _ _ _ h => h) (Or.inr ⟨by rfl, rfl⟩) (by assumption) ?_
          (try simp only [Act.put, List.setIfInBounds_toArray, List.set_cons_zero, List.set_cons_succ])
          refine wpAnyH_take (i := 17) (oi := ({ dst := some 135, op := Go.Op.pick (Go.Operand.tmp 124) (Go.Operand.tmp 134) (Go.Operand.const (Go.Value.bool false)), type := 4, pos := "stream.go:61", after := #[{ on := 6, ground := Go.Ground.data }, { on := 16, ground := Go.Ground.data }], guard := none } : Oper)) (v := ?vaz17) rfl (by kernel_rfl) (by kernel_rfl) (by kernel_rfl) (fun _ _ _ h => h) (Or.inl ⟨by rfl, ?hyaz17⟩) (by assumption) ?restaz17
          case hyaz17 => (intro w hSw; (try dsimp only at hSw); go_simp; (try with_reducible rfl))
          (try simp only [Act.put, List.setIfInBounds_toArray, List.set_cons_zero, List.set_cons_succ])
          refine wpAnyH_done (by kernel_rfl) ?_ _
          go_wp2_with fail
          exact ⟨⟨k + 1, by rw [Int.natCast_succ], HMS.out.1, ⟨by first | exact HR.out | exact HR.out.drew⟩⟩, by have := HMS.out.2; simp only [intOf]; omega⟩
        · rw [HCH.out hx0] at HKk
          clear HCH
          go_wp2_with fail
          refine wp_region_held_drew (S := (fun w' => w'.cell? ⟨gf, k, none⟩ = some (.int .i64 x) ∧ w'.cell? ⟨gf, k + 1, none⟩ = some (.int .i64 x))) (by kernel_rfl) (by exact HKk.out) (fun hHeld => ?_)
          refine wpAnyH_take (i := 0) (oi := ({ dst := some 118, op := Go.Op.move (Go.Operand.tmp 9), type := 23, pos := "stream.go:61", after := #[], guard := none } : Oper)) (v := ?vbz0) rfl (by kernel_rfl) (by kernel_rfl) (by kernel_rfl) (fun _ _ _ h => h) (Or.inl ⟨by rfl, ?hybz0⟩) (by assumption) ?restbz0
          case hybz0 => (intro w hSw; (try dsimp only at hSw); go_simp; (try with_reducible rfl))
          (try simp only [Act.put, List.setIfInBounds_toArray, List.set_cons_zero, List.set_cons_succ])
          refine wpAnyH_take (i := 1) (oi := ({ dst := some 119, op := Go.Op.move (Go.Operand.tmp 10), type := 3, pos := "stream.go:61", after := #[], guard := none } : Oper)) (v := ?vbz1) rfl (by kernel_rfl) (by kernel_rfl) (by kernel_rfl) (fun _ _ _ h => h) (Or.inl ⟨by rfl, ?hybz1⟩) (by assumption) ?restbz1
          case hybz1 => (intro w hSw; (try dsimp only at hSw); go_simp; (try with_reducible rfl))
          (try simp only [Act.put, List.setIfInBounds_toArray, List.set_cons_zero, List.set_cons_succ])
          refine wpAnyH_take (i := 2) (oi := ({ dst := some 120, op := Go.Op.binOp Go.BinOp.sub 3 (Go.Operand.tmp 119) (Go.Operand.const (Go.Value.int Go.IntKind.i64 1)) 3, type := 3, pos := "stream.go:61", after := #[{ on := 1, ground := Go.Ground.data }], guard := none } : Oper)) (v := ?vbz2) rfl (by kernel_rfl) (by kernel_rfl) (by kernel_rfl) (fun _ _ _ h => h) (Or.inl ⟨by rfl, ?hybz2⟩) (by assumption) ?restbz2
          case hybz2 => (intro w hSw; (try dsimp only at hSw); go_simp; (try with_reducible rfl))
          (try simp only [Act.put, List.setIfInBounds_toArray, List.set_cons_zero, List.set_cons_succ])
          refine wpAnyH_take (i := 3) (oi := ({ dst := some 121, op := Go.Op.indexAddr 23 (Go.Operand.tmp 118) (Go.Operand.tmp 120), type := 0, pos := "stream.go:61", after := #[{ on := 0, ground := Go.Ground.data }, { on := 2, ground := Go.Ground.data }], guard := none } : Oper)) (v := ?vbz3) rfl (by kernel_rfl) (by kernel_rfl) (by kernel_rfl) (fun _ _ _ h => h) (Or.inl ⟨by rfl, ?hybz3⟩) (by assumption) ?restbz3
          case hybz3 => (intro w hSw; (try dsimp only at hSw); go_simp; (try with_reducible rfl))
          (try simp only [Act.put, List.setIfInBounds_toArray, List.set_cons_zero, List.set_cons_succ])
          refine wpAnyH_take (i := 4) (oi := ({ dst := some 122, op := Go.Op.load 3 (Go.Operand.tmp 121), type := 3, pos := "stream.go:61", after := #[{ on := 3, ground := Go.Ground.data }], guard := none } : Oper)) (v := ?vbz4) rfl (by kernel_rfl) (by kernel_rfl) (by kernel_rfl) (fun _ _ _ h => h) (Or.inl ⟨by rfl, ?hybz4⟩) (by assumption) ?restbz4
          case hybz4 => (intro w hSw; (try dsimp only at hSw); go_simp; (try with_reducible rfl))
          (try simp only [Act.put, List.setIfInBounds_toArray, List.set_cons_zero, List.set_cons_succ])
          refine wpAnyH_take (i := 5) (oi := ({ dst := some 123, op := Go.Op.binOp Go.BinOp.neq 3 (Go.Operand.tmp 122) (Go.Operand.const (Go.Value.int Go.IntKind.i64 0)) 3, type := 4, pos := "stream.go:61", after := #[{ on := 4, ground := Go.Ground.data }], guard := none } : Oper)) (v := Value.bool true) rfl (by kernel_rfl) (by kernel_rfl) (by kernel_rfl) (fun _ _ _ h => h) (Or.inl ⟨by rfl, ?hybz5⟩) (by assumption) ?restbz5
          case hybz5 => (intro w hSw; (try dsimp only at hSw); go_simp; first | done | exact hx0)
          (try simp only [Act.put, List.setIfInBounds_toArray, List.set_cons_zero, List.set_cons_succ])
          refine wpAnyH_take (i := 6) (oi := ({ dst := some 124, op := Go.Op.move (Go.Operand.tmp 123), type := 4, pos := "stream.go:61", after := #[{ on := 5, ground := Go.Ground.data }], guard := none } : Oper)) (v := ?vbz6) rfl (by kernel_rfl) (by kernel_rfl) (by kernel_rfl) (fun _ _ _ h => h) (Or.inl ⟨by rfl, ?hybz6⟩) (by assumption) ?restbz6
          case hybz6 => (intro w hSw; (try dsimp only at hSw); go_simp; (try with_reducible rfl))
          (try simp only [Act.put, List.setIfInBounds_toArray, List.set_cons_zero, List.set_cons_succ])
          refine wpAnyH_take (i := 7) (oi := ({ dst := some 125, op := Go.Op.move (Go.Operand.tmp 9), type := 23, pos := "stream.go:61", after := #[{ on := 6, ground := Go.Ground.guard }], guard := some (6, true) } : Oper)) (v := ?vbz7) rfl (by kernel_rfl) (by kernel_rfl) (by kernel_rfl) (fun _ _ _ h => h) (Or.inl ⟨by rfl, ?hybz7⟩) (by assumption) ?restbz7
          case hybz7 => (intro w hSw; (try dsimp only at hSw); go_simp; (try with_reducible rfl))
          (try simp only [Act.put, List.setIfInBounds_toArray, List.set_cons_zero, List.set_cons_succ])
          refine wpAnyH_take (i := 8) (oi := ({ dst := some 126, op := Go.Op.move (Go.Operand.tmp 10), type := 3, pos := "stream.go:61", after := #[{ on := 6, ground := Go.Ground.guard }], guard := some (6, true) } : Oper)) (v := ?vbz8) rfl (by kernel_rfl) (by kernel_rfl) (by kernel_rfl) (fun _ _ _ h => h) (Or.inl ⟨by rfl, ?hybz8⟩) (by assumption) ?restbz8
          case hybz8 => (intro w hSw; (try dsimp only at hSw); go_simp; (try with_reducible rfl))
          (try simp only [Act.put, List.setIfInBounds_toArray, List.set_cons_zero, List.set_cons_succ])
          refine wpAnyH_take (i := 9) (oi := ({ dst := some 127, op := Go.Op.indexAddr 23 (Go.Operand.tmp 125) (Go.Operand.tmp 126), type := 0, pos := "stream.go:61", after := #[{ on := 7, ground := Go.Ground.data }, { on := 8, ground := Go.Ground.data }, { on := 6, ground := Go.Ground.guard }], guard := some (6, true) } : Oper)) (v := ?vbz9) rfl (by kernel_rfl) (by kernel_rfl) (by kernel_rfl) (fun _ _ _ h => h) (Or.inl ⟨by rfl, ?hybz9⟩) (by assumption) ?restbz9
          case hybz9 => (intro w hSw; (try dsimp only at hSw); go_simp; (try with_reducible rfl))
          (try simp only [Act.put, List.setIfInBounds_toArray, List.set_cons_zero, List.set_cons_succ])
          refine wpAnyH_take (i := 10) (oi := ({ dst := some 128, op := Go.Op.load 3 (Go.Operand.tmp 127), type := 3, pos := "stream.go:61", after := #[{ on := 9, ground := Go.Ground.data }, { on := 6, ground := Go.Ground.guard }], guard := some (6, true) } : Oper)) (v := ?vbz10) rfl (by kernel_rfl) (by kernel_rfl) (by kernel_rfl) (fun _ _ _ h => h) (Or.inl ⟨by rfl, ?hybz10⟩) (by assumption) ?restbz10
          case hybz10 => (intro w hSw; (try dsimp only at hSw); go_simp; (try with_reducible rfl))
          (try simp only [Act.put, List.setIfInBounds_toArray, List.set_cons_zero, List.set_cons_succ])
          refine wpAnyH_take (i := 11) (oi := ({ dst := some 129, op := Go.Op.move (Go.Operand.tmp 9), type := 23, pos := "stream.go:61", after := #[{ on := 6, ground := Go.Ground.guard }], guard := some (6, true) } : Oper)) (v := ?vbz11) rfl (by kernel_rfl) (by kernel_rfl) (by kernel_rfl) (fun _ _ _ h => h) (Or.inl ⟨by rfl, ?hybz11⟩) (by assumption) ?restbz11
          case hybz11 => (intro w hSw; (try dsimp only at hSw); go_simp; (try with_reducible rfl))
          (try simp only [Act.put, List.setIfInBounds_toArray, List.set_cons_zero, List.set_cons_succ])
          refine wpAnyH_take (i := 12) (oi := ({ dst := some 130, op := Go.Op.move (Go.Operand.tmp 10), type := 3, pos := "stream.go:61", after := #[{ on := 6, ground := Go.Ground.guard }], guard := some (6, true) } : Oper)) (v := ?vbz12) rfl (by kernel_rfl) (by kernel_rfl) (by kernel_rfl) (fun _ _ _ h => h) (Or.inl ⟨by rfl, ?hybz12⟩) (by assumption) ?restbz12
          case hybz12 => (intro w hSw; (try dsimp only at hSw); go_simp; (try with_reducible rfl))
          (try simp only [Act.put, List.setIfInBounds_toArray, List.set_cons_zero, List.set_cons_succ])
          refine wpAnyH_take (i := 13) (oi := ({ dst := some 131, op := Go.Op.binOp Go.BinOp.sub 3 (Go.Operand.tmp 130) (Go.Operand.const (Go.Value.int Go.IntKind.i64 1)) 3, type := 3, pos := "stream.go:61", after := #[{ on := 12, ground := Go.Ground.data }, { on := 6, ground := Go.Ground.guard }], guard := some (6, true) } : Oper)) (v := ?vbz13) rfl (by kernel_rfl) (by kernel_rfl) (by kernel_rfl) (fun _ _ _ h => h) (Or.inl ⟨by rfl, ?hybz13⟩) (by assumption) ?restbz13
          case hybz13 => (intro w hSw; (try dsimp only at hSw); go_simp; (try with_reducible rfl))
          (try simp only [Act.put, List.setIfInBounds_toArray, List.set_cons_zero, List.set_cons_succ])
          refine wpAnyH_take (i := 14) (oi := ({ dst := some 132, op := Go.Op.indexAddr 23 (Go.Operand.tmp 129) (Go.Operand.tmp 131), type := 0, pos := "stream.go:61", after := #[{ on := 11, ground := Go.Ground.data }, { on := 13, ground := Go.Ground.data }, { on := 6, ground := Go.Ground.guard }], guard := some (6, true) } : Oper)) (v := ?vbz14) rfl (by kernel_rfl) (by kernel_rfl) (by kernel_rfl) (fun _ _ _ h => h) (Or.inl ⟨by rfl, ?hybz14⟩) (by assumption) ?restbz14
          case hybz14 => (intro w hSw; (try dsimp only at hSw); go_simp; (try with_reducible rfl))
          (try simp only [Act.put, List.setIfInBounds_toArray, List.set_cons_zero, List.set_cons_succ])
          refine wpAnyH_take (i := 15) (oi := ({ dst := some 133, op := Go.Op.load 3 (Go.Operand.tmp 132), type := 3, pos := "stream.go:61", after := #[{ on := 14, ground := Go.Ground.data }, { on := 6, ground := Go.Ground.guard }], guard := some (6, true) } : Oper)) (v := ?vbz15) rfl (by kernel_rfl) (by kernel_rfl) (by kernel_rfl) (fun _ _ _ h => h) (Or.inl ⟨by rfl, ?hybz15⟩) (by assumption) ?restbz15
          case hybz15 => (intro w hSw; (try dsimp only at hSw); go_simp; (try with_reducible rfl))
          (try simp only [Act.put, List.setIfInBounds_toArray, List.set_cons_zero, List.set_cons_succ])
          refine wpAnyH_take (i := 16) (oi := ({ dst := some 134, op := Go.Op.binOp Go.BinOp.neq 3 (Go.Operand.tmp 128) (Go.Operand.tmp 133) 3, type := 4, pos := "stream.go:61", after := #[{ on := 10, ground := Go.Ground.data }, { on := 15, ground := Go.Ground.data }, { on := 6, ground := Go.Ground.guard }], guard := some (6, true) } : Oper)) (v := Value.bool false) rfl (by kernel_rfl) (by kernel_rfl) (by kernel_rfl) (fun _ _ _ h => h) (Or.inl ⟨by rfl, ?hybz16⟩) (by assumption) ?restbz16
          case hybz16 => (intro w hSw; (try dsimp only at hSw); go_simp; first | done | simp)
          (try simp only [Act.put, List.setIfInBounds_toArray, List.set_cons_zero, List.set_cons_succ])
          refine wpAnyH_take (i := 17) (oi := ({ dst := some 135, op := Go.Op.pick (Go.Operand.tmp 124) (Go.Operand.tmp 134) (Go.Operand.const (Go.Value.bool false)), type := 4, pos := "stream.go:61", after := #[{ on := 6, ground := Go.Ground.data }, { on := 16, ground := Go.Ground.data }], guard := none } : Oper)) (v := ?vbz17) rfl (by kernel_rfl) (by kernel_rfl) (by kernel_rfl) (fun _ _ _ h => h) (Or.inl ⟨by rfl, ?hybz17⟩) (by assumption) ?restbz17
          case hybz17 => (intro w hSw; (try dsimp only at hSw); go_simp; (try with_reducible rfl))
          (try simp only [Act.put, List.setIfInBounds_toArray, List.set_cons_zero, List.set_cons_succ])
          refine wpAnyH_done (by kernel_rfl) ?_ _
          go_wp2_with fail
          exact ⟨⟨k + 1, by rw [Int.natCast_succ], HMS.out.1, ⟨by first | exact HR.out | exact HR.out.drew⟩⟩, by have := HMS.out.2; simp only [intOf]; omega⟩
      · have hlt' : ¬ (k : Int) + 1 < (n2 : Int) + 1 := by omega
        by_cases hd4 : (4000 : Int) < (d.length : Int)
        · clear hlt hk
          go_wp2_with fail
          go_ret
          exact ⟨rfl, below_next (below_next HW3.out HB5.out) HR.out⟩
        · clear hlt hk
          rename World => wb
          have HDW := Aside0.mk (Kd.C_below HCd.out.1 (below_next (below_next (below_next K3.out L3.out) HB5.out) HR.out))
          have HPW := Aside0.mk ((HP5.out).below HR.out)
          have HDL4 : Aside0 (d.length ≤ 4000) := ⟨by omega⟩
          have HWB : Aside0 (Below W.heap.size W wb) := ⟨below_next (below_next HW3.out HB5.out) HR.out⟩
          have HCDD := Aside0.mk HCd.out.2
          go_wp2_with (go_at_call 12; refine (new.calls _).mono ?_; rintro e wn ⟨rfl, k1, k2⟩; have HN0 := Aside0.mk (FN.start k1 k2); clear k1 k2)
          go_loopw [12, 13] (fun vo i w7 => ∃ q va vc vx Oa Oc Oo Ot ol, ∃ k : Nat, i = .int .i64 k ∧ Aside0 (FN wb w7 wb.heap.size q va vc vx Oa Oc Oo vo ol Ot ∧ k ≤ d.length ∧ q = ParS.feed ParS.new (d.take k) ∧ ol = (ParS.run ParS.new (d.take k)).out)) (fun _ i _ => d.length - (intOf i).toNat)
          case atStart => exact ⟨_, _, _, _, _, _, _, _, _, 0, rfl, ⟨HN0.out, Nat.zero_le _, by rw [List.take_zero]; rfl, by rw [List.take_zero]; rfl⟩⟩
          case round =>
            obtain ⟨q, va, vc, vx, Oa, Oc, Oo, Ot, ol, k, rfl, HNN⟩ := hrel
            rename World => w7
            have HN := Aside0.mk HNN.out.1
            by_cases hk : k < d.length
            · obtain ⟨c0, hc0⟩ : ∃ c0, d[k]? = some c0 := ⟨_, List.getElem?_eq_getElem hk⟩
              have hcb : 0 ≤ c0 ∧ c0 < 256 := HDI.out c0 (List.mem_of_getElem? hc0)
              obtain ⟨ad, e, hcell⟩ := LinW.byteAt (Kd.C_below HDW.out HN.out.bel) hk
              have hblk := World.block_lt_of_cell? _ _ ((LinW.byteAt HDW.out hk).choose_spec.2)
              have hC1 : (Kd.int .u8).C w7 (some (ad.add k)) [c0].length [c0] := ⟨rfl, by simp, fun _ => ⟨_, rfl, fun jj pp hp => ⟨[.int .u8 pp], rfl, rfl, fun ii u hu => by
                have hj0 : jj = 0 := by have := (List.getElem?_eq_some_iff.1 hp).1; simp at this; exact this
                subst hj0
                obtain rfl : c0 = pp := by simpa using hp
                cases ii with
                | zero =>
                  obtain rfl : Value.int .u8 c0 = u := by simpa using hu
                  obtain ⟨hk', rfl⟩ := List.getElem?_eq_some_iff.1 hc0
                  exact hcell
                | succ ii => simp at hu⟩⟩⟩
              have hA1 : ∀ ad', some (ad.add k) = some ad' → ad'.block < wb.heap.size := fun ad' e' => by
                obtain rfl := Option.some.inj e'
                obtain ⟨ad2, e2, h2⟩ := LinW.byteAt HDW.out hk
                rw [e] at e2
                obtain rfl := Option.some.inj e2
                exact World.block_lt_of_cell? _ _ h2
              have hqe := HNN.out.2.2.1
              have hoe := HNN.out.2.2.2
              have hrl := run_le (d.take k) (p := ParS.new) (Int.le_refl 0)
              have hdl4 := HDL4.out
              rw [List.length_take, Nat.min_eq_left (by omega)] at hrl
              have h00 : (ParS.new).out.length = 0 := rfl
              have h01 : (ParS.new).held = 0 := rfl
              have hq0 : 0 ≤ q.held ∧ q.held ≤ 4000 := by rw [hqe, feed_held]; omega
              have hqi : ParS.Inv q := by rw [hqe]; exact ParS.inv_new.feed _
              have hqc : inB q.cur := by rw [hqe]; exact run_in (d.take k) nil_in (fun z hz => HDI.out z (List.mem_of_mem_take hz))
              have hqo : q.out = [] := by rw [hqe]; rfl
              have hr1 := run_le [c0] (p := q) hq0.1
              have hl1 : ([c0] : List Int).length = 1 := rfl
              rw [hqo, hl1, List.length_nil] at hr1
              have HFA : Aside0 (Calls Try.prog 13 #[ptr wb.heap.size, .slice (some (ad.add k)) 1 (cd - k)] w7 fun e w' => ∃ vt, e = .returned (.tuple #[vt, .int .i64 (ParS.feed q [c0]).broken]) ∧ FQ w7 w' (PO wb.heap.size Oa Oc Oo) wb.heap.size (ParS.feed q [c0]) vt (ParS.run q [c0]).out) := ⟨HN.out.feed hqi hqc hqo hq0.1 (by omega) (some (ad.add k)) (cd - k) [c0] hC1 (fun z hz => by rw [List.mem_singleton.1 hz]; exact hcb) hA1 (by simp)⟩
              have HQ1 : Aside0 (ParS.Inv (ParS.feed q [c0]) ∧ inB (ParS.feed q [c0]).cur ∧ 0 ≤ (ParS.feed q [c0]).held ∧ (ParS.feed q [c0]).held ≤ 1000000000000 ∧ (ParS.feed q [c0]).out = []) := ⟨hqi.feed _, run_in [c0] hqc (fun z hz => by rw [List.mem_singleton.1 hz]; exact hcb), hr1.2.1, by rw [feed_held]; omega, rfl⟩
              have HLEN : Aside0 (ol.length ≤ 10000 ∧ (ParS.run q [c0]).out.length ≤ 10000) := ⟨by rw [hoe]; omega⟩
              have hby := HN.out.byte hqe hc0
              rw [← hoe] at hby
              have HBY := Aside0.mk hby
              have HMS : Aside0 (k + 1 ≤ d.length ∧ d.length - (k + 1) < d.length - k) := ⟨by omega⟩
              have HWK : Aside0 (wrap64 ((k : Int) + 1) = ((k + 1 : Nat) : Int)) := ⟨LinW.w64n k (by omega)⟩
              have hk1 : (k : Int) < (d.length : Int) := by omega
              have hk2 : (0 : Int) ≤ (k : Int) := by omega
              have hk3 : (k : Int) + 1 ≤ (d.length : Int) := by omega
              have hcc := HCDD.out
              have hk4 : (k : Int) + 1 ≤ (cd : Int) := by omega
              have hk5 : (k : Int) ≤ (k : Int) + 1 := by omega
              have hk6 : ¬ cd = k := by omega
              have hk7 : (0 : Int) ≤ (k : Int) + 1 := by omega
              have hk8 : IntKind.i64.wrap ((k : Int) + 1) = (k : Int) + 1 := IntWalk.i64_in _ (by omega)
              obtain ⟨q1, hq1⟩ : ∃ q1, q1 = ParS.feed q [c0] := ⟨_, rfl⟩
              obtain ⟨X, hX⟩ : ∃ X, X = (ParS.run q [c0]).out := ⟨_, rfl⟩
              rw [← hq1, ← hX] at HFA HBY
              rw [← hq1] at HQ1
              rw [← hX] at HLEN
              clear hq1 hX
              obtain ⟨Ao, co2, eo⟩ := HN.out.ro.slice
              subst eo
              subst e
              clear hc0 hcb hcell hblk hC1 hA1 hqe hoe hrl hdl4 h00 h01 hq0 hqi hqc hqo hr1 hl1 hby hcc hk
              go_upto_region 23 with (go_at_call 13; refine HFA.out.mono ?_; rintro e w8 ⟨vt, rfl, hfq⟩; obtain ⟨va1, vc1, vx1, Oa1, Oc1, Oo1, Ott, m1, m2, m3, m4⟩ := HN.out.fed hfq; have M1 := Aside0.mk m1; have M2 := Aside0.mk (And.intro m2 (And.intro m3 m4)); clear hfq m1 m2 m3 m4)
              clear hk8 hk1 hk2 hk3 hk4 hk5 hk6 hk7
              go_upto_region 24 with (go_at_call 13; refine (M1.out.feedNil HQ1.out.1 HQ1.out.2.1 HQ1.out.2.2.2.2 HQ1.out.2.2.1 HQ1.out.2.2.2.1).mono ?_; rintro e w9 ⟨vy, rfl, hfq⟩; obtain ⟨va2, vc2, vx2, Oa2, Oc2, Oo2, n1, n2', n3, Oy, n4⟩ := M1.out.fed2 M2.out.1 M2.out.2.1 hfq; have N0 := Aside0.mk (And.intro n1 (And.intro n2' (And.intro n3 n4))); clear hfq n1 n2' n3 n4)
              obtain ⟨n1, n2', n3, n4⟩ := N0.out
              obtain ⟨Ay, cy, ey⟩ := n4.slice
              subst ey
              obtain ⟨vs, O1, g1', g2, g3⟩ := n1.ro
              obtain ⟨us, O2, g4', g5, g6⟩ := n2'
              obtain ⟨At, ct, et⟩ := g4'.slice
              subst et
              have N1 := Aside0.mk (And.intro n1 (And.intro n3 M2.out.2.2))
              have HE := Aside0.mk (And.intro g1' (And.intro g2 g3))
              have HT := Aside0.mk (And.intro g4' (And.intro g5 g6))
              have HLU : Aside0 (vs.length + us.length ≤ 1000000000) := ⟨addLen g2.len g5.len HLEN.out⟩
              clear n1 n3 n4 g1' g2 g3 g4' g5 g6
              go_wp2_with ((with_reducible refine gate_builtin (b := .append) (xs := #[.tmp 169, .tmp 170]) rfl ?_); at_builtin; refine wpList_vals _ rfl (.tmp 169) (.tmp 170) 36 22 rfl Try.underlying36 (.slice none 0 0) 24 (by kernel_rfl) rfl (by decide) _ vs rfl HE.out.1 _ us rfl HT.out.1 (HT.out.2.1.one RwR.fit) HLU.out ?_; intro v3 w10 hr3; obtain ⟨Ot3, m5⟩ := N1.out.1.app HE.out.2.1 HE.out.2.2 HT.out.2.1 HT.out.2.2 N1.out.2.1 N1.out.2.2 hr3; have HM3 := Aside0.mk m5; clear hr3 m5)
              rw [HWK.out]
              exact ⟨⟨q1, _, _, _, _, _, _, _, _, k + 1, rfl, ⟨HM3.out, HMS.out.1, HBY.out.1, HBY.out.2⟩⟩, by have := HMS.out.2; simp only [intOf]; omega⟩
            · have hke : k = d.length := by have := HNN.out.2.1; omega
              have hqe : q = P := by rw [HNN.out.2.2.1, hke, List.take_length, HMP.out.2]
              have hoe : ol = M := by rw [HNN.out.2.2.2, hke, List.take_length, HMP.out.1]
              subst hqe hoe
              obtain ⟨Ao, co2, eo⟩ := HN.out.ro.slice
              subst eo
              have HB7 : Aside0 (Pd w7 wb.heap.size q (.slice Ao ol.length co2) ol (.slice none 0 0) []) := ⟨⟨⟨_, _, _, _, _, _, HN.out.pm⟩, ⟨_, HN.out.ro⟩, GV.nil _ _⟩⟩
              have HP7 := Aside0.mk (HPW.out.below HN.out.bel)
              have HS7 := Aside0.mk (sameP HP7.out HB7.out HMB.out)
              have HW7 : Aside0 (Below W.heap.size W w7) := ⟨below_next HWB.out HN.out.bel⟩
              have hk1 : ¬ (k : Int) < (d.length : Int) := by omega
              clear hke hk
              go_wp2_with (first | (go_at_call 19; refine HS7.out.mono ?_; rintro e w8 ⟨rfl, hd8⟩; have B8 := Aside0.mk hd8.below; have HP8 := Aside0.mk (HP7.out.below B8.out); have HL8 := Aside0.mk (HB7.out.below B8.out); have HW8 : Aside0 (Below W.heap.size W w8) := ⟨below_next HW7.out B8.out⟩; clear hd8) | (go_at_call 21; (first | refine HP8.out.broken.mono ?_ | refine HL8.out.broken.mono ?_); rintro e w6 ⟨rfl, rfl⟩) | (go_at_call 23; (first | refine HP8.out.held.mono ?_ | refine HL8.out.held.mono ?_); rintro e w6 ⟨rfl, rfl⟩))
              go_ret
              exact ⟨by simp, HW8.out⟩
  · have HHD : Aside0 (∀ w', Below w5.heap.size w5 w' → Calls Try.prog 23 #[ptr gp] w' fun e w'' => e = .returned (.int .i64 0) ∧ w'' = w') := ⟨fun w' hb => by rw [← HPI.out hE0]; exact (HP5.out.below hb).held⟩
    have HBK0 := fun w' (hb : Below w5.heap.size w5 w') => (HP5.out.below hb).broken
    obtain ⟨E, hE⟩ : ∃ E, E = P.broken := ⟨_, rfl⟩
    rw [← hE] at HK hE0 HBK0
    clear hE
    have HBK := Aside0.mk HBK0
    clear HBK0
    refine wp_region_held_drew (S := (fun w' => (w'.cell? ⟨ge, 0, none⟩ = some (.int .i64 E) ∧ w'.cell? ⟨gf, n2, none⟩ = some (.int .i64 E)) ∧ Aside0 (Below w5.heap.size w5 w'))) (by kernel_rfl) (by exact ⟨HK.out, ⟨(Below.refl _ _).drew⟩⟩) (fun hHeld => ?_)
    refine wpAnyH_take (i := 0) (oi := ({ dst := some 82, op := Go.Op.move (Go.Operand.tmp 6), type := 23, pos := "stream.go:57", after := #[], guard := none } : Oper)) (v := ?vn0) rfl (by kernel_rfl) (by kernel_rfl) (by kernel_rfl) (fun _ _ _ h => h) (Or.inl ⟨by rfl, ?hyn0⟩) (by assumption) ?restn0
    case hyn0 => (intro w hSw; (try dsimp only at hSw); go_simp; (try with_reducible rfl))
    (try simp only [Act.put, List.setIfInBounds_toArray, List.set_cons_zero, List.set_cons_succ])
    refine wpAnyH_take (i := 1) (oi := ({ dst := some 83, op := Go.Op.indexAddr 23 (Go.Operand.tmp 82) (Go.Operand.const (Go.Value.int Go.IntKind.i64 0)), type := 0, pos := "stream.go:57", after := #[{ on := 0, ground := Go.Ground.data }], guard := none } : Oper)) (v := ?vn1) rfl (by kernel_rfl) (by kernel_rfl) (by kernel_rfl) (fun _ _ _ h => h) (Or.inl ⟨by rfl, ?hyn1⟩) (by assumption) ?restn1
    case hyn1 => (intro w hSw; (try dsimp only at hSw); go_simp; (try with_reducible rfl))
    (try simp only [Act.put, List.setIfInBounds_toArray, List.set_cons_zero, List.set_cons_succ])
    refine wpAnyH_take (i := 2) (oi := ({ dst := some 84, op := Go.Op.load 3 (Go.Operand.tmp 83), type := 3, pos := "stream.go:57", after := #[{ on := 1, ground := Go.Ground.data }], guard := none } : Oper)) (v := ?vn2) rfl (by kernel_rfl) (by kernel_rfl) (by kernel_rfl) (fun _ _ _ h => h) (Or.inl ⟨by rfl, ?hyn2⟩) (by assumption) ?restn2
    case hyn2 => (intro w hSw; (try dsimp only at hSw); go_simp; (try with_reducible rfl))
    (try simp only [Act.put, List.setIfInBounds_toArray, List.set_cons_zero, List.set_cons_succ])
    refine wpAnyH_take (i := 3) (oi := ({ dst := some 85, op := Go.Op.move (Go.Operand.tmp 4), type := 34, pos := "stream.go:57", after := #[], guard := none } : Oper)) (v := ?vn3) rfl (by kernel_rfl) (by kernel_rfl) (by kernel_rfl) (fun _ _ _ h => h) (Or.inl ⟨by rfl, ?hyn3⟩) (by assumption) ?restn3
    case hyn3 => (intro w hSw; (try dsimp only at hSw); go_simp; (try with_reducible rfl))
    (try simp only [Act.put, List.setIfInBounds_toArray, List.set_cons_zero, List.set_cons_succ])
    refine wpAnyH_ready (rs := [4]) (by kernel_rfl) (by simp) ?_
    refine AllReadyH.cons (o := ({ dst := some 86, op := Go.Op.call { callee := Go.Callee.value (Go.Operand.func 21), args := #[Go.Operand.tmp 85], argTypes := #[34] }, type := 29, pos := "stream.go:57", after := #[{ on := 3, ground := Go.Ground.data }], guard := none } : Oper)) rfl (fun K hK => ?_) AllReadyH.nil
    go_simp
    go_at_call 21
    refine (HBK.out _ hHeld.2.out).mono ?_
    rintro e w6 ⟨rfl, h6⟩
    subst h6
    (try go_wp2_with fail)
    refine hK.out _ _ (by assumption) (fun hHeld => ?_)
    clear hK K
    (try simp only [Act.put, List.setIfInBounds_toArray, List.set_cons_zero, List.set_cons_succ])
    refine wpAnyH_ready (rs := [5]) (by kernel_rfl) (by simp) ?_
    refine AllReadyH.cons (o := ({ dst := some 87, op := Go.Op.call { callee := Go.Callee.value (Go.Operand.func 10), args := #[Go.Operand.tmp 86], argTypes := #[29] }, type := 3, pos := "stream.go:57", after := #[{ on := 4, ground := Go.Ground.data }, { on := 4, ground := Go.Ground.chain }], guard := none } : Oper)) rfl (fun K hK => ?_) AllReadyH.nil
    go_simp
    go_at_call 10
    refine (num.calls _ _).mono ?_
    rintro e w6 ⟨rfl, h6⟩
    subst h6
    (try go_wp2_with fail)
    refine hK.out _ _ (by assumption) (fun hHeld => ?_)
    clear hK K
    (try simp only [Act.put, List.setIfInBounds_toArray, List.set_cons_zero, List.set_cons_succ])
    refine wpAnyH_take (i := 6) (oi := ({ dst := some 88, op := Go.Op.binOp Go.BinOp.neq 3 (Go.Operand.tmp 84) (Go.Operand.tmp 87) 3, type := 4, pos := "stream.go:57", after := #[{ on := 2, ground := Go.Ground.data }, { on := 5, ground := Go.Ground.data }], guard := none } : Oper)) (v := Value.bool false) rfl (by kernel_rfl) (by kernel_rfl) (by kernel_rfl) (fun _ _ _ h => h) (Or.inl ⟨by rfl, ?hyn6⟩) (by assumption) ?restn6
    case hyn6 => (intro w hSw; (try dsimp only at hSw); go_simp; first | done | simp)
    (try simp only [Act.put, List.setIfInBounds_toArray, List.set_cons_zero, List.set_cons_succ])
    refine wpAnyH_take (i := 7) (oi := ({ dst := some 89, op := Go.Op.move (Go.Operand.tmp 88), type := 4, pos := "stream.go:57", after := #[{ on := 6, ground := Go.Ground.data }, { on := 5, ground := Go.Ground.chain }], guard := none } : Oper)) (v := ?vn7) rfl (by kernel_rfl) (by kernel_rfl) (by kernel_rfl) (fun _ _ _ h => h) (Or.inl ⟨by rfl, ?hyn7⟩) (by assumption) ?restn7
    case hyn7 => (intro w hSw; (try dsimp only at hSw); go_simp; (try with_reducible rfl))
    (try simp only [Act.put, List.setIfInBounds_toArray, List.set_cons_zero, List.set_cons_succ])
    refine wpAnyH_take (i := 8) (oi := ({ dst := some 90, op := Go.Op.move (Go.Operand.tmp 9), type := 23, pos := "stream.go:57", after := #[{ on := 7, ground := Go.Ground.guard }], guard := some (7, false) } : Oper)) (v := ?vn8) rfl (by kernel_rfl) (by kernel_rfl) (by kernel_rfl) (fun _ _ _ h => h) (Or.inl ⟨by rfl, ?hyn8⟩) (by assumption) ?restn8
    case hyn8 => (intro w hSw; (try dsimp only at hSw); go_simp; (try with_reducible rfl))
    (try simp only [Act.put, List.setIfInBounds_toArray, List.set_cons_zero, List.set_cons_succ])
    refine wpAnyH_take (i := 9) (oi := ({ dst := some 91, op := Go.Op.move (Go.Operand.tmp 9), type := 23, pos := "stream.go:57", after := #[{ on := 7, ground := Go.Ground.guard }], guard := some (7, false) } : Oper)) (v := ?vn9) rfl (by kernel_rfl) (by kernel_rfl) (by kernel_rfl) (fun _ _ _ h => h) (Or.inl ⟨by rfl, ?hyn9⟩) (by assumption) ?restn9
    case hyn9 => (intro w hSw; (try dsimp only at hSw); go_simp; (try with_reducible rfl))
    (try simp only [Act.put, List.setIfInBounds_toArray, List.set_cons_zero, List.set_cons_succ])
    refine wpAnyH_take (i := 10) (oi := ({ dst := some 92, op := Go.Op.call { callee := Go.Callee.builtin Go.Builtin.len, args := #[Go.Operand.tmp 91], argTypes := #[23] }, type := 3, pos := "stream.go:57", after := #[{ on := 9, ground := Go.Ground.data }, { on := 7, ground := Go.Ground.guard }], guard := some (7, false) } : Oper)) (v := ?vn10) rfl (by kernel_rfl) (by kernel_rfl) (by kernel_rfl) (fun _ _ _ h => h) (Or.inl ⟨by rfl, ?hyn10⟩) (by assumption) ?restn10
    case hyn10 => (intro w hSw; (try dsimp only at hSw); go_simp; (try with_reducible rfl))
    (try simp only [Act.put, List.setIfInBounds_toArray, List.set_cons_zero, List.set_cons_succ])
    refine wpAnyH_take (i := 11) (oi := ({ dst := some 93, op := Go.Op.binOp Go.BinOp.sub 3 (Go.Operand.tmp 92) (Go.Operand.const (Go.Value.int Go.IntKind.i64 1)) 3, type := 3, pos := "stream.go:57", after := #[{ on := 10, ground := Go.Ground.data }, { on := 7, ground := Go.Ground.guard }], guard := some (7, false) } : Oper)) (v := ?vn11) rfl (by kernel_rfl) (by kernel_rfl) (by kernel_rfl) (fun _ _ _ h => h) (Or.inl ⟨by rfl, ?hyn11⟩) (by assumption) ?restn11
    case hyn11 => (intro w hSw; (try dsimp only at hSw); go_simp; (try with_reducible rfl))
    (try simp only [Act.put, List.setIfInBounds_toArray, List.set_cons_zero, List.set_cons_succ])
    refine wpAnyH_take (i := 12) (oi := ({ dst := some 94, op := Go.Op.indexAddr 23 (Go.Operand.tmp 90) (Go.Operand.tmp 93), type := 0, pos := "stream.go:57", after := #[{ on := 8, ground := Go.Ground.data }, { on := 11, ground := Go.Ground.data }, { on := 7, ground := Go.Ground.guard }], guard := some (7, false) } : Oper)) (v := ?vn12) rfl (by kernel_rfl) (by kernel_rfl) (by kernel_rfl) (fun _ _ _ h => h) (Or.inl ⟨by rfl, ?hyn12⟩) (by assumption) ?restn12
    case hyn12 => (intro w hSw; (try dsimp only at hSw); go_simp; (try with_reducible rfl))
    (try simp only [Act.put, List.setIfInBounds_toArray, List.set_cons_zero, List.set_cons_succ])
    refine wpAnyH_take (i := 13) (oi := ({ dst := some 95, op := Go.Op.load 3 (Go.Operand.tmp 94), type := 3, pos := "stream.go:57", after := #[{ on := 12, ground := Go.Ground.data }, { on := 7, ground := Go.Ground.guard }], guard := some (7, false) } : Oper)) (v := ?vn13) rfl (by kernel_rfl) (by kernel_rfl) (by kernel_rfl) (fun _ _ _ h => h) (Or.inl ⟨by rfl, ?hyn13⟩) (by assumption) ?restn13
    case hyn13 => (intro w hSw; (try dsimp only at hSw); go_simp; (try with_reducible rfl))
    (try simp only [Act.put, List.setIfInBounds_toArray, List.set_cons_zero, List.set_cons_succ])
    refine wpAnyH_take (i := 14) (oi := ({ dst := some 96, op := Go.Op.move (Go.Operand.tmp 6), type := 23, pos := "stream.go:57", after := #[{ on := 7, ground := Go.Ground.guard }], guard := some (7, false) } : Oper)) (v := ?vn14) rfl (by kernel_rfl) (by kernel_rfl) (by kernel_rfl) (fun _ _ _ h => h) (Or.inl ⟨by rfl, ?hyn14⟩) (by assumption) ?restn14
    case hyn14 => (intro w hSw; (try dsimp only at hSw); go_simp; (try with_reducible rfl))
    (try simp only [Act.put, List.setIfInBounds_toArray, List.set_cons_zero, List.set_cons_succ])
    refine wpAnyH_take (i := 15) (oi := ({ dst := some 97, op := Go.Op.indexAddr 23 (Go.Operand.tmp 96) (Go.Operand.const (Go.Value.int Go.IntKind.i64 0)), type := 0, pos := "stream.go:57", after := #[{ on := 14, ground := Go.Ground.data }, { on := 7, ground := Go.Ground.guard }], guard := some (7, false) } : Oper)) (v := ?vn15) rfl (by kernel_rfl) (by kernel_rfl) (by kernel_rfl) (fun _ _ _ h => h) (Or.inl ⟨by rfl, ?hyn15⟩) (by assumption) ?restn15
    case hyn15 => (intro w hSw; (try dsimp only at hSw); go_simp; (try with_reducible rfl))
    (try simp only [Act.put, List.setIfInBounds_toArray, List.set_cons_zero, List.set_cons_succ])
    refine wpAnyH_take (i := 16) (oi := ({ dst := some 98, op := Go.Op.load 3 (Go.Operand.tmp 97), type := 3, pos := "stream.go:57", after := #[{ on := 15, ground := Go.Ground.data }, { on := 7, ground := Go.Ground.guard }], guard := some (7, false) } : Oper)) (v := ?vn16) rfl (by kernel_rfl) (by kernel_rfl) (by kernel_rfl) (fun _ _ _ h => h) (Or.inl ⟨by rfl, ?hyn16⟩) (by assumption) ?restn16
    case hyn16 => (intro w hSw; (try dsimp only at hSw); go_simp; (try with_reducible rfl))
    (try simp only [Act.put, List.setIfInBounds_toArray, List.set_cons_zero, List.set_cons_succ])
    refine wpAnyH_take (i := 17) (oi := ({ dst := some 99, op := Go.Op.binOp Go.BinOp.neq 3 (Go.Operand.tmp 95) (Go.Operand.tmp 98) 3, type := 4, pos := "stream.go:57", after := #[{ on := 13, ground := Go.Ground.data }, { on := 16, ground := Go.Ground.data }, { on := 7, ground := Go.Ground.guard }], guard := some (7, false) } : Oper)) (v := Value.bool false) rfl (by kernel_rfl) (by kernel_rfl) (by kernel_rfl) (fun _ _ _ h => h) (Or.inl ⟨by rfl, ?hyn17⟩) (by assumption) ?restn17
    case hyn17 => (intro w hSw; (try dsimp only at hSw); go_simp; first | done | simp)
    (try simp only [Act.put, List.setIfInBounds_toArray, List.set_cons_zero, List.set_cons_succ])
    refine wpAnyH_take (i := 18) (oi := ({ dst := some 100, op := Go.Op.pick (Go.Operand.tmp 89) (Go.Operand.const (Go.Value.bool true)) (Go.Operand.tmp 99), type := 4, pos := "stream.go:57", after := #[{ on := 7, ground := Go.Ground.data }, { on := 17, ground := Go.Ground.data }], guard := none } : Oper)) (v := ?vn18) rfl (by kernel_rfl) (by kernel_rfl) (by kernel_rfl) (fun _ _ _ h => h) (Or.inl ⟨by rfl, ?hyn18⟩) (by assumption) ?restn18
    case hyn18 => (intro w hSw; (try dsimp only at hSw); go_simp; (try with_reducible rfl))
    (try simp only [Act.put, List.setIfInBounds_toArray, List.set_cons_zero, List.set_cons_succ])
    refine wpAnyH_take (i := 19) (oi := ({ dst := some 101, op := Go.Op.move (Go.Operand.tmp 100), type := 4, pos := "stream.go:57", after := #[{ on := 18, ground := Go.Ground.data }, { on := 7, ground := Go.Ground.chain }], guard := none } : Oper)) (v := ?vn19) rfl (by kernel_rfl) (by kernel_rfl) (by kernel_rfl) (fun _ _ _ h => h) (Or.inl ⟨by rfl, ?hyn19⟩) (by assumption) ?restn19
    case hyn19 => (intro w hSw; (try dsimp only at hSw); go_simp; (try with_reducible rfl))
    (try simp only [Act.put, List.setIfInBounds_toArray, List.set_cons_zero, List.set_cons_succ])
    refine wpAnyH_take (i := 20) (oi := ({ dst := some 102, op := Go.Op.move (Go.Operand.tmp 6), type := 23, pos := "stream.go:57", after := #[{ on := 19, ground := Go.Ground.guard }], guard := some (19, false) } : Oper)) (v := ?vn20) rfl (by kernel_rfl) (by kernel_rfl) (by kernel_rfl) (fun _ _ _ h => h) (Or.inl ⟨by rfl, ?hyn20⟩) (by assumption) ?restn20
    case hyn20 => (intro w hSw; (try dsimp only at hSw); go_simp; (try with_reducible rfl))
    (try simp only [Act.put, List.setIfInBounds_toArray, List.set_cons_zero, List.set_cons_succ])
    refine wpAnyH_take (i := 21) (oi := ({ dst := some 103, op := Go.Op.indexAddr 23 (Go.Operand.tmp 102) (Go.Operand.const (Go.Value.int Go.IntKind.i64 0)), type := 0, pos := "stream.go:57", after := #[{ on := 20, ground := Go.Ground.data }, { on := 19, ground := Go.Ground.guard }], guard := some (19, false) } : Oper)) (v := ?vn21) rfl (by kernel_rfl) (by kernel_rfl) (by kernel_rfl) (fun _ _ _ h => h) (Or.inl ⟨by rfl, ?hyn21⟩) (by assumption) ?restn21
    case hyn21 => (intro w hSw; (try dsimp only at hSw); go_simp; (try with_reducible rfl))
    (try simp only [Act.put, List.setIfInBounds_toArray, List.set_cons_zero, List.set_cons_succ])
    refine wpAnyH_take (i := 22) (oi := ({ dst := some 104, op := Go.Op.load 3 (Go.Operand.tmp 103), type := 3, pos := "stream.go:57", after := #[{ on := 21, ground := Go.Ground.data }, { on := 19, ground := Go.Ground.guard }], guard := some (19, false) } : Oper)) (v := ?vn22) rfl (by kernel_rfl) (by kernel_rfl) (by kernel_rfl) (fun _ _ _ h => h) (Or.inl ⟨by rfl, ?hyn22⟩) (by assumption) ?restn22
    case hyn22 => (intro w hSw; (try dsimp only at hSw); go_simp; (try with_reducible rfl))
    (try simp only [Act.put, List.setIfInBounds_toArray, List.set_cons_zero, List.set_cons_succ])
    refine wpAnyH_take (i := 23) (oi := ({ dst := some 105, op := Go.Op.binOp Go.BinOp.neq 3 (Go.Operand.tmp 104) (Go.Operand.const (Go.Value.int Go.IntKind.i64 0)) 3, type := 4, pos := "stream.go:57", after := #[{ on := 22, ground := Go.Ground.data }, { on := 19, ground := Go.Ground.guard }], guard := some (19, false) } : Oper)) (v := Value.bool true) rfl (by kernel_rfl) (by kernel_rfl) (by kernel_rfl) (fun _ _ _ h => h) (Or.inl ⟨by rfl, ?hyn23⟩) (by assumption) ?restn23
    case hyn23 => (intro w hSw; (try dsimp only at hSw); go_simp; first | done | exact hE0)
    (try simp only [Act.put, List.setIfInBounds_toArray, List.set_cons_zero, List.set_cons_succ])
    refine wpAnyH_take (i := 24) (oi := ({ dst := some 106, op := Go.Op.move (Go.Operand.tmp 105), type := 4, pos := "stream.go:57", after := #[{ on := 23, ground := Go.Ground.data }, { on := 19, ground := Go.Ground.chain }, { on := 19, ground := Go.Ground.guard }], guard := some (19, false) } : Oper)) (v := ?vn24) rfl (by kernel_rfl) (by kernel_rfl) (by kernel_rfl) (fun _ _ _ h => h) (Or.inl ⟨by rfl, ?hyn24⟩) (by assumption) ?restn24
    case hyn24 => (intro w hSw; (try dsimp only at hSw); go_simp; (try with_reducible rfl))
    (try simp only [Act.put, List.setIfInBounds_toArray, List.set_cons_zero, List.set_cons_succ])
    refine wpAnyH_take (i := 25) (oi := ({ dst := some 107, op := Go.Op.move (Go.Operand.tmp 4), type := 34, pos := "stream.go:57", after := #[{ on := 24, ground := Go.Ground.guard }], guard := some (24, true) } : Oper)) (v := ?vn25) rfl (by kernel_rfl) (by kernel_rfl) (by kernel_rfl) (fun _ _ _ h => h) (Or.inl ⟨by rfl, ?hyn25⟩) (by assumption) ?restn25
    case hyn25 => (intro w hSw; (try dsimp only at hSw); go_simp; (try with_reducible rfl))
    (try simp only [Act.put, List.setIfInBounds_toArray, List.set_cons_zero, List.set_cons_succ])
    refine wpAnyH_ready (rs := [26]) (by kernel_rfl) (by simp) ?_
    refine AllReadyH.cons (o := ({ dst := some 108, op := Go.Op.call { callee := Go.Callee.value (Go.Operand.func 23), args := #[Go.Operand.tmp 107], argTypes := #[34] }, type := 3, pos := "stream.go:57", after := #[{ on := 25, ground := Go.Ground.data }, { on := 24, ground := Go.Ground.chain }, { on := 24, ground := Go.Ground.guard }], guard := some (24, true) } : Oper)) rfl (fun K hK => ?_) AllReadyH.nil
    go_simp
    go_at_call 23
    refine (HHD.out _ hHeld.2.out).mono ?_
    rintro e w6 ⟨rfl, h6⟩
    subst h6
    (try go_wp2_with fail)
    refine hK.out _ _ (by assumption) (fun hHeld => ?_)
    clear hK K
    (try simp only [Act.put, List.setIfInBounds_toArray, List.set_cons_zero, List.set_cons_succ])
    refine wpAnyH_take (i := 27) (oi := ({ dst := some 109, op := Go.Op.binOp Go.BinOp.neq 3 (Go.Operand.tmp 108) (Go.Operand.const (Go.Value.int Go.IntKind.i64 0)) 3, type := 4, pos := "stream.go:57", after := #[{ on := 26, ground := Go.Ground.data }, { on := 24, ground := Go.Ground.guard }], guard := some (24, true) } : Oper)) (v := ?vn27) rfl (by kernel_rfl) (by kernel_rfl) (by kernel_rfl) (fun _ _ _ h => h) (Or.inl ⟨by rfl, ?hyn27⟩) (by assumption) ?restn27
    case hyn27 => (intro w hSw; (try dsimp only at hSw); go_simp; (try with_reducible rfl))
    (try simp only [Act.put, List.setIfInBounds_toArray, List.set_cons_zero, List.set_cons_succ])
    refine wpAnyH_take (i := 28) (oi := ({ dst := some 110, op := Go.Op.pick (Go.Operand.tmp 106) (Go.Operand.tmp 109) (Go.Operand.const (Go.Value.bool false)), type := 4, pos := "stream.go:57", after := #[{ on := 24, ground := Go.Ground.data }, { on := 27, ground := Go.Ground.data }, { on := 19, ground := Go.Ground.guard }], guard := some (19, false) } : Oper)) (v := ?vn28) rfl (by kernel_rfl) (by kernel_rfl) (by kernel_rfl) (fun _ _ _ h => h) (Or.inl ⟨by rfl, ?hyn28⟩) (by assumption) ?restn28
    case hyn28 => (intro w hSw; (try dsimp only at hSw); go_simp; (try with_reducible rfl))
    (try simp only [Act.put, List.setIfInBounds_toArray, List.set_cons_zero, List.set_cons_succ])
    refine wpAnyH_take (i := 29) (oi := ({ dst := some 111, op := Go.Op.pick (Go.Operand.tmp 101) (Go.Operand.const (Go.Value.bool true)) (Go.Operand.tmp 110), type := 4, pos := "stream.go:57", after := #[{ on := 19, ground := Go.Ground.data }, { on := 28, ground := Go.Ground.data }], guard := none } : Oper)) (v := ?vn29) rfl (by kernel_rfl) (by kernel_rfl) (by kernel_rfl) (fun _ _ _ h => h) (Or.inl ⟨by rfl, ?hyn29⟩) (by assumption) ?restn29
    case hyn29 => (intro w hSw; (try dsimp only at hSw); go_simp; (try with_reducible rfl))
    (try simp only [Act.put, List.setIfInBounds_toArray, List.set_cons_zero, List.set_cons_succ])
    refine wpAnyH_done (by kernel_rfl) ?_ _
    go_wp2_with fail
    have HB5 : Aside0 (Below w3.heap.size w3 w5) := HB35
    go_loopw [10] (fun i wr => ∃ k : Nat, i = .int .i64 ((k : Int) + 1) ∧ k ≤ n2 ∧ Aside0 (Below w5.heap.size w5 wr)) (fun i _ => n2 + 2 - (intOf i).toNat)
    case atStart => exact ⟨0, rfl, by omega, ⟨by first | exact Below.refl _ _ | exact (Below.refl _ _).drew | exact hHeld.2.out⟩⟩
    case round =>
      obtain ⟨k, rfl, hk, HR⟩ := hrel
      rename World => wr
      by_cases hlt : k < n2
      · have hlt' : (k : Int) + 1 < (n2 : Int) + 1 := by omega
        have hk0 : (0 : Int) ≤ (k : Int) := by omega
        have hk1 : (0 : Int) ≤ (k : Int) + 1 := by omega
        have hk2 : (k : Int) < (n2 : Int) + 1 := by omega
        have hk3 : (k : Int) < ((n2 + 1 : Nat) : Int) := by omega
        have hk4 : (k : Int) + 1 < ((n2 + 1 : Nat) : Int) := by omega
        have hn2' := hn2
        obtain ⟨x, hx⟩ : ∃ x, el'[k]? = some x := ⟨_, List.getElem?_eq_getElem (by rw [HF.out.1]; omega)⟩
        obtain ⟨y, hy⟩ : ∃ y, el'[k + 1]? = some y := ⟨_, List.getElem?_eq_getElem (by rw [HF.out.1]; omega)⟩
        have HKk : Aside0 (wr.cell? ⟨gf, k, none⟩ = some (.int .i64 x) ∧ wr.cell? ⟨gf, k + 1, none⟩ = some (.int .i64 y)) := ⟨HGF.out wr (below_next HB5.out HR.out) k x hx, HGF.out wr (below_next HB5.out HR.out) (k + 1) y hy⟩
        have HCH : Aside0 (x ≠ 0 → y = x) := ⟨HF.out.2.2 k x y hx hy⟩
        have HMS : Aside0 (k + 1 ≤ n2 ∧ n2 + 2 - (k + 2) < n2 + 2 - (k + 1)) := ⟨by omega⟩
        have hs7 : IntKind.i64.wrap ((k : Int) + 1 - 1) = (k : Int) := by rw [IntWalk.i64_in _ (by omega)]; omega
        have hs8 : IntKind.i64.wrap (k : Int) = (k : Int) := IntWalk.i64_in _ (by omega)
        clear hx hy hlt hk hn2'
        by_cases hx0 : x = 0
        · rw [hx0] at HKk
          go_wp2_with fail
          refine wp_region_held_drew (S := (fun w' => w'.cell? ⟨gf, k, none⟩ = some (.int .i64 0) ∧ w'.cell? ⟨gf, k + 1, none⟩ = some (.int .i64 y))) (by kernel_rfl) (by exact HKk.out) (fun hHeld => ?_)
          refine wpAnyH_take (i := 0) (oi := ({ dst := some 118, op := Go.Op.move (Go.Operand.tmp 9), type := 23, pos := "stream.go:61", after := #[], guard := none } : Oper)) (v := ?van0) rfl (by kernel_rfl) (by kernel_rfl) (by kernel_rfl) (fun _ _ _ h => h) (Or.inl ⟨by rfl, ?hyan0⟩) (by assumption) ?restan0
          case hyan0 => (intro w hSw; (try dsimp only at hSw); go_simp; (try with_reducible rfl))
          (try simp only [Act.put, List.setIfInBounds_toArray, List.set_cons_zero, List.set_cons_succ])
          refine wpAnyH_take (i := 1) (oi := ({ dst := some 119, op := Go.Op.move (Go.Operand.tmp 10), type := 3, pos := "stream.go:61", after := #[], guard := none } : Oper)) (v := ?van1) rfl (by kernel_rfl) (by kernel_rfl) (by kernel_rfl) (fun _ _ _ h => h) (Or.inl ⟨by rfl, ?hyan1⟩) (by assumption) ?restan1
          case hyan1 => (intro w hSw; (try dsimp only at hSw); go_simp; (try with_reducible rfl))
          (try simp only [Act.put, List.setIfInBounds_toArray, List.set_cons_zero, List.set_cons_succ])
          refine wpAnyH_take (i := 2) (oi := ({ dst := some 120, op := Go.Op.binOp Go.BinOp.sub 3 (Go.Operand.tmp 119) (Go.Operand.const (Go.Value.int Go.IntKind.i64 1)) 3, type := 3, pos := "stream.go:61", after := #[{ on := 1, ground := Go.Ground.data }], guard := none } : Oper)) (v := ?van2) rfl (by kernel_rfl) (by kernel_rfl) (by kernel_rfl) (fun _ _ _ h => h) (Or.inl ⟨by rfl, ?hyan2⟩) (by assumption) ?restan2
          case hyan2 => (intro w hSw; (try dsimp only at hSw); go_simp; (try with_reducible rfl))
          (try simp only [Act.put, List.setIfInBounds_toArray, List.set_cons_zero, List.set_cons_succ])
          refine wpAnyH_take (i := 3) (oi := ({ dst := some 121, op := Go.Op.indexAddr 23 (Go.Operand.tmp 118) (Go.Operand.tmp 120), type := 0, pos := "stream.go:61", after := #[{ on := 0, ground := Go.Ground.data }, { on := 2, ground := Go.Ground.data }], guard := none } : Oper)) (v := ?van3) rfl (by kernel_rfl) (by kernel_rfl) (by kernel_rfl) (fun _ _ _ h => h) (Or.inl ⟨by rfl, ?hyan3⟩) (by assumption) ?restan3
          case hyan3 => (intro w hSw; (try dsimp only at hSw); go_simp; (try with_reducible rfl))
          (try simp only [Act.put, List.setIfInBounds_toArray, List.set_cons_zero, List.set_cons_succ])
          refine wpAnyH_take (i := 4) (oi := ({ dst := some 122, op := Go.Op.load 3 (Go.Operand.tmp 121), type := 3, pos := "stream.go:61", after := #[{ on := 3, ground := Go.Ground.data }], guard := none } : Oper)) (v := ?van4) rfl (by kernel_rfl) (by kernel_rfl) (by kernel_rfl) (fun _ _ _ h => h) (Or.inl ⟨by rfl, ?hyan4⟩) (by assumption) ?restan4
          case hyan4 => (intro w hSw; (try dsimp only at hSw); go_simp; (try with_reducible rfl))
          (try simp only [Act.put, List.setIfInBounds_toArray, List.set_cons_zero, List.set_cons_succ])
          refine wpAnyH_take (i := 5) (oi := ({ dst := some 123, op := Go.Op.binOp Go.BinOp.neq 3 (Go.Operand.tmp 122) (Go.Operand.const (Go.Value.int Go.IntKind.i64 0)) 3, type := 4, pos := "stream.go:61", after := #[{ on := 4, ground := Go.Ground.data }], guard := none } : Oper)) (v := ?van5) rfl (by kernel_rfl) (by kernel_rfl) (by kernel_rfl) (fun _ _ _ h => h) (Or.inl ⟨by rfl, ?hyan5⟩) (by assumption) ?restan5
          case hyan5 => (intro w hSw; (try dsimp only at hSw); go_simp; (try with_reducible rfl))
          (try simp only [Act.put, List.setIfInBounds_toArray, List.set_cons_zero, List.set_cons_succ])
          refine wpAnyH_take (i := 6) (oi := ({ dst := some 124, op := Go.Op.move (Go.Operand.tmp 123), type := 4, pos := "stream.go:61", after := #[{ on := 5, ground := Go.Ground.data }], guard := none } : Oper)) (v := ?van6) rfl (by kernel_rfl) (by kernel_rfl) (by kernel_rfl) (fun _ _ _ h => h) (Or.inl ⟨by rfl, ?hyan6⟩) (by assumption) ?restan6
          case hyan6 => (intro w hSw; (try dsimp only at hSw); go_simp; (try with_reducible rfl))
          (try simp only [Act.put, List.setIfInBounds_toArray, List.set_cons_zero, List.set_cons_succ])
          refine wpAnyH_take (i := 7) (oi := ({ dst := some 125, op := Go.Op.move (Go.Operand.tmp 9), type := 23, pos := "stream.go:61", after := #[{ on := 6, ground := Go.Ground.guard }], guard := some (6, true) } : Oper)) (v := undef) rfl (by kernel_rfl) (by kernel_rfl) (by kernel_rfl) (fun _ _ _ h => h) (Or.inr ⟨by rfl, rfl⟩) (by assumption) ?_
          (try simp only [Act.put, List.setIfInBounds_toArray, List.set_cons_zero, List.set_cons_succ])
          refine wpAnyH_take (i := 8) (oi := ({ dst := some 126, op := Go.Op.move (Go.Operand.tmp 10), type := 3, pos := "stream.go:61", after := #[{ on := 6, ground := Go.Ground.guard }], guard := some (6, true) } : Oper)) (v := undef) rfl (by kernel_rfl) (by kernel_rfl) (by kernel_rfl) (fun _ _ _ h => h) (Or.inr ⟨by rfl, rfl⟩) (by assumption) ?_
          (try simp only [Act.put, List.setIfInBounds_toArray, List.set_cons_zero, List.set_cons_succ])
          refine wpAnyH_take (i := 9) (oi := ({ dst := some 127, op := Go.Op.indexAddr 23 (Go.Operand.tmp 125) (Go.Operand.tmp 126), type := 0, pos := "stream.go:61", after := #[{ on := 7, ground := Go.Ground.data }, { on := 8, ground := Go.Ground.data }, { on := 6, ground := Go.Ground.guard }], guard := some (6, true) } : Oper)) (v := undef) rfl (by kernel_rfl) (by kernel_rfl) (by kernel_rfl) (fun _ _ _ h => h) (Or.inr ⟨by rfl, rfl⟩) (by assumption) ?_
          (try simp only [Act.put, List.setIfInBounds_toArray, List.set_cons_zero, List.set_cons_succ])
          refine wpAnyH_take (i := 10) (oi := ({ dst := some 128, op := Go.Op.load 3 (Go.Operand.tmp 127), type := 3, pos := "stream.go:61", after := #[{ on := 9, ground := Go.Ground.data }, { on := 6, ground := Go.Ground.guard }], guard := some (6, true) } : Oper)) (v := undef) rfl (by kernel_rfl) (by kernel_rfl) (by kernel_rfl) (fun _ _ _ h => h) (Or.inr ⟨by rfl, rfl⟩) (by assumption) ?_
          (try simp only [Act.put, List.setIfInBounds_toArray, List.set_cons_zero, List.set_cons_succ])
          refine wpAnyH_take (i := 11) (oi := ({ dst := some 129, op := Go.Op.move (Go.Operand.tmp 9), type := 23, pos := "stream.go:61", after := #[{ on := 6, ground := Go.Ground.guard }], guard := some (6, true) } : Oper)) (v := undef) rfl (by kernel_rfl) (by kernel_rfl) (by kernel_rfl) (fun _ _ _ h => h) (Or.inr ⟨by rfl, rfl⟩) (by assumption) ?_
          (try simp only [Act.put, List.setIfInBounds_toArray, List.set_cons_zero, List.set_cons_succ])
          refine wpAnyH_take (i := 12) (oi := ({ dst := some 130, op := Go.Op.move (Go.Operand.tmp 10), type := 3, pos := "stream.go:61", after := #[{ on := 6, ground := Go.Ground.guard }], guard := some (6, true) } : Oper)) (v := undef) rfl (by kernel_rfl) (by kernel_rfl) (by kernel_rfl) (fun _ _ _ h => h) (Or.inr ⟨by rfl, rfl⟩) (by assumption) ?_
          (try simp only [Act.put, List.setIfInBounds_toArray, List.set_cons_zero, List.set_cons_succ])
          refine wpAnyH_take (i := 13) (oi := ({ dst := some 131, op := Go.Op.binOp Go.BinOp.sub 3 (Go.Operand.tmp 130) (Go.Operand.const (Go.Value.int Go.IntKind.i64 1)) 3, type := 3, pos := "stream.go:61", after := #[{ on := 12, ground := Go.Ground.data }, { on := 6, ground := Go.Ground.guard }], guard := some (6, true) } : Oper)) (v := undef) rfl (by kernel_rfl) (by kernel_rfl) (by kernel_rfl) (fun _ _ _ h => h) (Or.inr ⟨by rfl, rfl⟩) (by assumption) ?_
          (try simp only [Act.put, List.setIfInBounds_toArray, List.set_cons_zero, List.set_cons_succ])
          refine wpAnyH_take (i := 14) (oi := ({ dst := some 132, op := Go.Op.indexAddr 23 (Go.Operand.tmp 129) (Go.Operand.tmp 131), type := 0, pos := "stream.go:61", after := #[{ on := 11, ground := Go.Ground.data }, { on := 13, ground := Go.Ground.data }, { on := 6, ground := Go.Ground.guard }], guard := some (6, true) } : Oper)) (v := undef) rfl (by kernel_rfl) (by kernel_rfl) (by kernel_rfl) (fun _ _ _ h => h) (Or.inr ⟨by rfl, rfl⟩) (by assumption) ?_
          (try simp only [Act.put, List.setIfInBounds_toArray, List.set_cons_zero, List.set_cons_succ])
          refine wpAnyH_take (i := 15) (oi := ({ dst := some 133, op := Go.Op.load 3 (Go.Operand.tmp 132), type := 3, pos := "stream.go:61", after := #[{ on := 14, ground := Go.Ground.data }, { on := 6, ground := Go.Ground.guard }], guard := some (6, true) } : Oper)) (v := undef) rfl (by kernel_rfl) (by kernel_rfl) (by kernel_rfl) (fun _ _ _ h => h) (Or.inr ⟨by rfl, rfl⟩) (by assumption) ?_
          (try simp only [Act.put, List.setIfInBounds_toArray, List.set_cons_zero, List.set_cons_succ])
          refine wpAnyH_take (i := 16) (oi := ({ dst := some 134, op := Go.Op.binOp Go.BinOp.neq 3 (Go.Operand.tmp 128) (Go.Operand.tmp 133) 3, type := 4, pos := "stream.go:61", after := #[{ on := 10, ground := Go.Ground.data }, { on := 15, ground := Go.Ground.data }, { on := 6, ground := Go.Ground.guard }], guard := some (6, true) } : Oper)) (v := undef) rfl (by kernel_rfl) (by kernel_rfl) (by kernel_rfl) (fun _ _ _ h => h) (Or.inr ⟨by rfl, rfl⟩) (by assumption) ?_
          (try simp only [Act.put, List.setIfInBounds_toArray, List.set_cons_zero, List.set_cons_succ])
          refine wpAnyH_take (i := 17) (oi := ({ dst := some 135, op := Go.Op.pick (Go.Operand.tmp 124) (Go.Operand.tmp 134) (Go.Operand.const (Go.Value.bool false)), type := 4, pos := "stream.go:61", after := #[{ on := 6, ground := Go.Ground.data }, { on := 16, ground := Go.Ground.data }], guard := none } : Oper)) (v := ?van17) rfl (by kernel_rfl) (by kernel_rfl) (by kernel_rfl) (fun _ _ _ h => h) (Or.inl ⟨by rfl, ?hyan17⟩) (by assumption) ?restan17
          case hyan17 => (intro w hSw; (try dsimp only at hSw); go_simp; (try with_reducible rfl))
          (try simp only [Act.put, List.setIfInBounds_toArray, List.set_cons_zero, List.set_cons_succ])
          refine wpAnyH_done (by kernel_rfl) ?_ _
          go_wp2_with fail
          exact ⟨⟨k + 1, by rw [Int.natCast_succ], HMS.out.1, ⟨by first | exact HR.out | exact HR.out.drew⟩⟩, by have := HMS.out.2; simp only [intOf]; omega⟩
        · rw [HCH.out hx0] at HKk
          clear HCH
          go_wp2_with fail
          refine wp_region_held_drew (S := (fun w' => w'.cell? ⟨gf, k, none⟩ = some (.int .i64 x) ∧ w'.cell? ⟨gf, k + 1, none⟩ = some (.int .i64 x))) (by kernel_rfl) (by exact HKk.out) (fun hHeld => ?_)
          refine wpAnyH_take (i := 0) (oi := ({ dst := some 118, op := Go.Op.move (Go.Operand.tmp 9), type := 23, pos := "stream.go:61", after := #[], guard := none } : Oper)) (v := ?vbn0) rfl (by kernel_rfl) (by kernel_rfl) (by kernel_rfl) (fun _ _ _ h => h) (Or.inl ⟨by rfl, ?hybn0⟩) (by assumption) ?restbn0
          case hybn0 => (intro w hSw; (try dsimp only at hSw); go_simp; (try with_reducible rfl))
          (try simp only [Act.put, List.setIfInBounds_toArray, List.set_cons_zero, List.set_cons_succ])
          refine wpAnyH_take (i := 1) (oi := ({ dst := some 119, op := Go.Op.move (Go.Operand.tmp 10), type := 3, pos := "stream.go:61", after := #[], guard := none } : Oper)) (v := ?vbn1) rfl (by kernel_rfl) (by kernel_rfl) (by kernel_rfl) (fun _ _ _ h => h) (Or.inl ⟨by rfl, ?hybn1⟩) (by assumption) ?restbn1
          case hybn1 => (intro w hSw; (try dsimp only at hSw); go_simp; (try with_reducible rfl))
          (try simp only [Act.put, List.setIfInBounds_toArray, List.set_cons_zero, List.set_cons_succ])
          refine wpAnyH_take (i := 2) (oi := ({ dst := some 120, op := Go.Op.binOp Go.BinOp.sub 3 (Go.Operand.tmp 119) (Go.Operand.const (Go.Value.int Go.IntKind.i64 1)) 3, type := 3, pos := "stream.go:61", after := #[{ on := 1, ground := Go.Ground.data }], guard := none } : Oper)) (v := ?vbn2) rfl (by kernel_rfl) (by kernel_rfl) (by kernel_rfl) (fun _ _ _ h => h) (Or.inl ⟨by rfl, ?hybn2⟩) (by assumption) ?restbn2
          case hybn2 => (intro w hSw; (try dsimp only at hSw); go_simp; (try with_reducible rfl))
          (try simp only [Act.put, List.setIfInBounds_toArray, List.set_cons_zero, List.set_cons_succ])
          refine wpAnyH_take (i := 3) (oi := ({ dst := some 121, op := Go.Op.indexAddr 23 (Go.Operand.tmp 118) (Go.Operand.tmp 120), type := 0, pos := "stream.go:61", after := #[{ on := 0, ground := Go.Ground.data }, { on := 2, ground := Go.Ground.data }], guard := none } : Oper)) (v := ?vbn3) rfl (by kernel_rfl) (by kernel_rfl) (by kernel_rfl) (fun _ _ _ h => h) (Or.inl ⟨by rfl, ?hybn3⟩) (by assumption) ?restbn3
          case hybn3 => (intro w hSw; (try dsimp only at hSw); go_simp; (try with_reducible rfl))
          (try simp only [Act.put, List.setIfInBounds_toArray, List.set_cons_zero, List.set_cons_succ])
          refine wpAnyH_take (i := 4) (oi := ({ dst := some 122, op := Go.Op.load 3 (Go.Operand.tmp 121), type := 3, pos := "stream.go:61", after := #[{ on := 3, ground := Go.Ground.data }], guard := none } : Oper)) (v := ?vbn4) rfl (by kernel_rfl) (by kernel_rfl) (by kernel_rfl) (fun _ _ _ h => h) (Or.inl ⟨by rfl, ?hybn4⟩) (by assumption) ?restbn4
          case hybn4 => (intro w hSw; (try dsimp only at hSw); go_simp; (try with_reducible rfl))
          (try simp only [Act.put, List.setIfInBounds_toArray, List.set_cons_zero, List.set_cons_succ])
          refine wpAnyH_take (i := 5) (oi := ({ dst := some 123, op := Go.Op.binOp Go.BinOp.neq 3 (Go.Operand.tmp 122) (Go.Operand.const (Go.Value.int Go.IntKind.i64 0)) 3, type := 4, pos := "stream.go:61", after := #[{ on := 4, ground := Go.Ground.data }], guard := none } : Oper)) (v := Value.bool true) rfl (by kernel_rfl) (by kernel_rfl) (by kernel_rfl) (fun _ _ _ h => h) (Or.inl ⟨by rfl, ?hybn5⟩) (by assumption) ?restbn5
          case hybn5 => (intro w hSw; (try dsimp only at hSw); go_simp; first | done | exact hx0)
          (try simp only [Act.put, List.setIfInBounds_toArray, List.set_cons_zero, List.set_cons_succ])
          refine wpAnyH_take (i := 6) (oi := ({ dst := some 124, op := Go.Op.move (Go.Operand.tmp 123), type := 4, pos := "stream.go:61", after := #[{ on := 5, ground := Go.Ground.data }], guard := none } : Oper)) (v := ?vbn6) rfl (by kernel_rfl) (by kernel_rfl) (by kernel_rfl) (fun _ _ _ h => h) (Or.inl ⟨by rfl, ?hybn6⟩) (by assumption) ?restbn6
          case hybn6 => (intro w hSw; (try dsimp only at hSw); go_simp; (try with_reducible rfl))
          (try simp only [Act.put, List.setIfInBounds_toArray, List.set_cons_zero, List.set_cons_succ])
          refine wpAnyH_take (i := 7) (oi := ({ dst := some 125, op := Go.Op.move (Go.Operand.tmp 9), type := 23, pos := "stream.go:61", after := #[{ on := 6, ground := Go.Ground.guard }], guard := some (6, true) } : Oper)) (v := ?vbn7) rfl (by kernel_rfl) (by kernel_rfl) (by kernel_rfl) (fun _ _ _ h => h) (Or.inl ⟨by rfl, ?hybn7⟩) (by assumption) ?restbn7
          case hybn7 => (intro w hSw; (try dsimp only at hSw); go_simp; (try with_reducible rfl))
          (try simp only [Act.put, List.setIfInBounds_toArray, List.set_cons_zero, List.set_cons_succ])
          refine wpAnyH_take (i := 8) (oi := ({ dst := some 126, op := Go.Op.move (Go.Operand.tmp 10), type := 3, pos := "stream.go:61", after := #[{ on := 6, ground := Go.Ground.guard }], guard := some (6, true) } : Oper)) (v := ?vbn8) rfl (by kernel_rfl) (by kernel_rfl) (by kernel_rfl) (fun _ _ _ h => h) (Or.inl ⟨by rfl, ?hybn8⟩) (by assumption) ?restbn8
          case hybn8 => (intro w hSw; (try dsimp only at hSw); go_simp; (try with_reducible rfl))
          (try simp only [Act.put, List.setIfInBounds_toArray, List.set_cons_zero, List.set_cons_succ])
          refine wpAnyH_take (i := 9) (oi := ({ dst := some 127, op := Go.Op.indexAddr 23 (Go.Operand.tmp 125) (Go.Operand.tmp 126), type := 0, pos := "stream.go:61", after := #[{ on := 7, ground := Go.Ground.data }, { on := 8, ground := Go.Ground.data }, { on := 6, ground := Go.Ground.guard }], guard := some (6, true) } : Oper)) (v := ?vbn9) rfl (by kernel_rfl) (by kernel_rfl) (by kernel_rfl) (fun _ _ _ h => h) (Or.inl ⟨by rfl, ?hybn9⟩) (by assumption) ?restbn9
          case hybn9 => (intro w hSw; (try dsimp only at hSw); go_simp; (try with_reducible rfl))
          (try simp only [Act.put, List.setIfInBounds_toArray, List.set_cons_zero, List.set_cons_succ])
          refine wpAnyH_take (i := 10) (oi := ({ dst := some 128, op := Go.Op.load 3 (Go.Operand.tmp 127), type := 3, pos := "stream.go:61", after := #[{ on := 9, ground := Go.Ground.data }, { on := 6, ground := Go.Ground.guard }], guard := some (6, true) } : Oper)) (v := ?vbn10) rfl (by kernel_rfl) (by kernel_rfl) (by kernel_rfl) (fun _ _ _ h => h) (Or.inl ⟨by rfl, ?hybn10⟩) (by assumption) ?restbn10
          case hybn10 => (intro w hSw; (try dsimp only at hSw); go_simp; (try with_reducible rfl))
          (try simp only [Act.put, List.setIfInBounds_toArray, List.set_cons_zero, List.set_cons_succ])
          refine wpAnyH_take (i := 11) (oi := ({ dst := some 129, op := Go.Op.move (Go.Operand.tmp 9), type := 23, pos := "stream.go:61", after := #[{ on := 6, ground := Go.Ground.guard }], guard := some (6, true) } : Oper)) (v := ?vbn11) rfl (by kernel_rfl) (by kernel_rfl) (by kernel_rfl) (fun _ _ _ h => h) (Or.inl ⟨by rfl, ?hybn11⟩) (by assumption) ?restbn11
          case hybn11 => (intro w hSw; (try dsimp only at hSw); go_simp; (try with_reducible rfl))
          (try simp only [Act.put, List.setIfInBounds_toArray, List.set_cons_zero, List.set_cons_succ])
          refine wpAnyH_take (i := 12) (oi := ({ dst := some 130, op := Go.Op.move (Go.Operand.tmp 10), type := 3, pos := "stream.go:61", after := #[{ on := 6, ground := Go.Ground.guard }], guard := some (6, true) } : Oper)) (v := ?vbn12) rfl (by kernel_rfl) (by kernel_rfl) (by kernel_rfl) (fun _ _ _ h => h) (Or.inl ⟨by rfl, ?hybn12⟩) (by assumption) ?restbn12
          case hybn12 => (intro w hSw; (try dsimp only at hSw); go_simp; (try with_reducible rfl))
          (try simp only [Act.put, List.setIfInBounds_toArray, List.set_cons_zero, List.set_cons_succ])
          refine wpAnyH_take (i := 13) (oi := ({ dst := some 131, op := Go.Op.binOp Go.BinOp.sub 3 (Go.Operand.tmp 130) (Go.Operand.const (Go.Value.int Go.IntKind.i64 1)) 3, type := 3, pos := "stream.go:61", after := #[{ on := 12, ground := Go.Ground.data }, { on := 6, ground := Go.Ground.guard }], guard := some (6, true) } : Oper)) (v := ?vbn13) rfl (by kernel_rfl) (by kernel_rfl) (by kernel_rfl) (fun _ _ _ h => h) (Or.inl ⟨by rfl, ?hybn13⟩) (by assumption) ?restbn13
          case hybn13 => (intro w hSw; (try dsimp only at hSw); go_simp; (try with_reducible rfl))
          (try simp only [Act.put, List.setIfInBounds_toArray, List.set_cons_zero, List.set_cons_succ])
          refine wpAnyH_take (i := 14) (oi := ({ dst := some 132, op := Go.Op.indexAddr 23 (Go.Operand.tmp 129) (Go.Operand.tmp 131), type := 0, pos := "stream.go:61", after := #[{ on := 11, ground := Go.Ground.data }, { on := 13, ground := Go.Ground.data }, { on := 6, ground := Go.Ground.guard }], guard := some (6, true) } : Oper)) (v := ?vbn14) rfl (by kernel_rfl) (by kernel_rfl) (by kernel_rfl) (fun _ _ _ h => h) (Or.inl ⟨by rfl, ?hybn14⟩) (by assumption) ?restbn14
          case hybn14 => (intro w hSw; (try dsimp only at hSw); go_simp; (try with_reducible rfl))
          (try simp only [Act.put, List.setIfInBounds_toArray, List.set_cons_zero, List.set_cons_succ])
          refine wpAnyH_take (i := 15) (oi := ({ dst := some 133, op := Go.Op.load 3 (Go.Operand.tmp 132), type := 3, pos := "stream.go:61", after := #[{ on := 14, ground := Go.Ground.data }, { on := 6, ground := Go.Ground.guard }], guard := some (6, true) } : Oper)) (v := ?vbn15) rfl (by kernel_rfl) (by kernel_rfl) (by kernel_rfl) (fun _ _ _ h => h) (Or.inl ⟨by rfl, ?hybn15⟩) (by assumption) ?restbn15
          case hybn15 => (intro w hSw; (try dsimp only at hSw); go_simp; (try with_reducible rfl))
          (try simp only [Act.put, List.setIfInBounds_toArray, List.set_cons_zero, List.set_cons_succ])
          refine wpAnyH_take (i := 16) (oi := ({ dst := some 134, op := Go.Op.binOp Go.BinOp.neq 3 (Go.Operand.tmp 128) (Go.Operand.tmp 133) 3, type := 4, pos := "stream.go:61", after := #[{ on := 10, ground := Go.Ground.data }, { on := 15, ground := Go.Ground.data }, { on := 6, ground := Go.Ground.guard }], guard := some (6, true) } : Oper)) (v := Value.bool false) rfl (by kernel_rfl) (by kernel_rfl) (by kernel_rfl) (fun _ _ _ h => h) (Or.inl ⟨by rfl, ?hybn16⟩) (by assumption) ?restbn16
          case hybn16 => (intro w hSw; (try dsimp only at hSw); go_simp; first | done | simp)
          (try simp only [Act.put, List.setIfInBounds_toArray, List.set_cons_zero, List.set_cons_succ])
          refine wpAnyH_take (i := 17) (oi := ({ dst := some 135, op := Go.Op.pick (Go.Operand.tmp 124) (Go.Operand.tmp 134) (Go.Operand.const (Go.Value.bool false)), type := 4, pos := "stream.go:61", after := #[{ on := 6, ground := Go.Ground.data }, { on := 16, ground := Go.Ground.data }], guard := none } : Oper)) (v := ?vbn17) rfl (by kernel_rfl) (by kernel_rfl) (by kernel_rfl) (fun _ _ _ h => h) (Or.inl ⟨by rfl, ?hybn17⟩) (by assumption) ?restbn17
          case hybn17 => (intro w hSw; (try dsimp only at hSw); go_simp; (try with_reducible rfl))
          (try simp only [Act.put, List.setIfInBounds_toArray, List.set_cons_zero, List.set_cons_succ])
          refine wpAnyH_done (by kernel_rfl) ?_ _
          go_wp2_with fail
          exact ⟨⟨k + 1, by rw [Int.natCast_succ], HMS.out.1, ⟨by first | exact HR.out | exact HR.out.drew⟩⟩, by have := HMS.out.2; simp only [intOf]; omega⟩
      · have hlt' : ¬ (k : Int) + 1 < (n2 : Int) + 1 := by omega
        by_cases hd4 : (4000 : Int) < (d.length : Int)
        · clear hlt hk
          go_wp2_with fail
          go_ret
          exact ⟨rfl, below_next (below_next HW3.out HB5.out) HR.out⟩
        · clear hlt hk
          rename World => wb
          have HDW := Aside0.mk (Kd.C_below HCd.out.1 (below_next (below_next (below_next K3.out L3.out) HB5.out) HR.out))
          have HPW := Aside0.mk ((HP5.out).below HR.out)
          have HDL4 : Aside0 (d.length ≤ 4000) := ⟨by omega⟩
          have HWB : Aside0 (Below W.heap.size W wb) := ⟨below_next (below_next HW3.out HB5.out) HR.out⟩
          have HCDD := Aside0.mk HCd.out.2
          go_wp2_with (go_at_call 12; refine (new.calls _).mono ?_; rintro e wn ⟨rfl, k1, k2⟩; have HN0 := Aside0.mk (FN.start k1 k2); clear k1 k2)
          go_loopw [12, 13] (fun vo i w7 => ∃ q va vc vx Oa Oc Oo Ot ol, ∃ k : Nat, i = .int .i64 k ∧ Aside0 (FN wb w7 wb.heap.size q va vc vx Oa Oc Oo vo ol Ot ∧ k ≤ d.length ∧ q = ParS.feed ParS.new (d.take k) ∧ ol = (ParS.run ParS.new (d.take k)).out)) (fun _ i _ => d.length - (intOf i).toNat)
          case atStart => exact ⟨_, _, _, _, _, _, _, _, _, 0, rfl, ⟨HN0.out, Nat.zero_le _, by rw [List.take_zero]; rfl, by rw [List.take_zero]; rfl⟩⟩
          case round =>
            obtain ⟨q, va, vc, vx, Oa, Oc, Oo, Ot, ol, k, rfl, HNN⟩ := hrel
            rename World => w7
            have HN := Aside0.mk HNN.out.1
            by_cases hk : k < d.length
            · obtain ⟨c0, hc0⟩ : ∃ c0, d[k]? = some c0 := ⟨_, List.getElem?_eq_getElem hk⟩
              have hcb : 0 ≤ c0 ∧ c0 < 256 := HDI.out c0 (List.mem_of_getElem? hc0)
              obtain ⟨ad, e, hcell⟩ := LinW.byteAt (Kd.C_below HDW.out HN.out.bel) hk
              have hblk := World.block_lt_of_cell? _ _ ((LinW.byteAt HDW.out hk).choose_spec.2)
              have hC1 : (Kd.int .u8).C w7 (some (ad.add k)) [c0].length [c0] := ⟨rfl, by simp, fun _ => ⟨_, rfl, fun jj pp hp => ⟨[.int .u8 pp], rfl, rfl, fun ii u hu => by
                have hj0 : jj = 0 := by have := (List.getElem?_eq_some_iff.1 hp).1; simp at this; exact this
                subst hj0
                obtain rfl : c0 = pp := by simpa using hp
                cases ii with
                | zero =>
                  obtain rfl : Value.int .u8 c0 = u := by simpa using hu
                  obtain ⟨hk', rfl⟩ := List.getElem?_eq_some_iff.1 hc0
                  exact hcell
                | succ ii => simp at hu⟩⟩⟩
              have hA1 : ∀ ad', some (ad.add k) = some ad' → ad'.block < wb.heap.size := fun ad' e' => by
                obtain rfl := Option.some.inj e'
                obtain ⟨ad2, e2, h2⟩ := LinW.byteAt HDW.out hk
                rw [e] at e2
                obtain rfl := Option.some.inj e2
                exact World.block_lt_of_cell? _ _ h2
              have hqe := HNN.out.2.2.1
              have hoe := HNN.out.2.2.2
              have hrl := run_le (d.take k) (p := ParS.new) (Int.le_refl 0)
              have hdl4 := HDL4.out
              rw [List.length_take, Nat.min_eq_left (by omega)] at hrl
              have h00 : (ParS.new).out.length = 0 := rfl
              have h01 : (ParS.new).held = 0 := rfl
              have hq0 : 0 ≤ q.held ∧ q.held ≤ 4000 := by rw [hqe, feed_held]; omega
              have hqi : ParS.Inv q := by rw [hqe]; exact ParS.inv_new.feed _
              have hqc : inB q.cur := by rw [hqe]; exact run_in (d.take k) nil_in (fun z hz => HDI.out z (List.mem_of_mem_take hz))
              have hqo : q.out = [] := by rw [hqe]; rfl
              have hr1 := run_le [c0] (p := q) hq0.1
              have hl1 : ([c0] : List Int).length = 1 := rfl
              rw [hqo, hl1, List.length_nil] at hr1
              have HFA : Aside0 (Calls Try.prog 13 #[ptr wb.heap.size, .slice (some (ad.add k)) 1 (cd - k)] w7 fun e w' => ∃ vt, e = .returned (.tuple #[vt, .int .i64 (ParS.feed q [c0]).broken]) ∧ FQ w7 w' (PO wb.heap.size Oa Oc Oo) wb.heap.size (ParS.feed q [c0]) vt (ParS.run q [c0]).out) := ⟨HN.out.feed hqi hqc hqo hq0.1 (by omega) (some (ad.add k)) (cd - k) [c0] hC1 (fun z hz => by rw [List.mem_singleton.1 hz]; exact hcb) hA1 (by simp)⟩
              have HQ1 : Aside0 (ParS.Inv (ParS.feed q [c0]) ∧ inB (ParS.feed q [c0]).cur ∧ 0 ≤ (ParS.feed q [c0]).held ∧ (ParS.feed q [c0]).held ≤ 1000000000000 ∧ (ParS.feed q [c0]).out = []) := ⟨hqi.feed _, run_in [c0] hqc (fun z hz => by rw [List.mem_singleton.1 hz]; exact hcb), hr1.2.1, by rw [feed_held]; omega, rfl⟩
              have HLEN : Aside0 (ol.length ≤ 10000 ∧ (ParS.run q [c0]).out.length ≤ 10000) := ⟨by rw [hoe]; omega⟩
              have hby := HN.out.byte hqe hc0
              rw [← hoe] at hby
              have HBY := Aside0.mk hby
              have HMS : Aside0 (k + 1 ≤ d.length ∧ d.length - (k + 1) < d.length - k) := ⟨by omega⟩
              have HWK : Aside0 (wrap64 ((k : Int) + 1) = ((k + 1 : Nat) : Int)) := ⟨LinW.w64n k (by omega)⟩
              have hk1 : (k : Int) < (d.length : Int) := by omega
              have hk2 : (0 : Int) ≤ (k : Int) := by omega
              have hk3 : (k : Int) + 1 ≤ (d.length : Int) := by omega
              have hcc := HCDD.out
              have hk4 : (k : Int) + 1 ≤ (cd : Int) := by omega
              have hk5 : (k : Int) ≤ (k : Int) + 1 := by omega
              have hk6 : ¬ cd = k := by omega
              have hk7 : (0 : Int) ≤ (k : Int) + 1 := by omega
              have hk8 : IntKind.i64.wrap ((k : Int) + 1) = (k : Int) + 1 := IntWalk.i64_in _ (by omega)
              obtain ⟨q1, hq1⟩ : ∃ q1, q1 = ParS.feed q [c0] := ⟨_, rfl⟩
              obtain ⟨X, hX⟩ : ∃ X, X = (ParS.run q [c0]).out := ⟨_, rfl⟩
              rw [← hq1, ← hX] at HFA HBY
              rw [← hq1] at HQ1
              rw [← hX] at HLEN
              clear hq1 hX
              obtain ⟨Ao, co2, eo⟩ := HN.out.ro.slice
              subst eo
              subst e
              clear hc0 hcb hcell hblk hC1 hA1 hqe hoe hrl hdl4 h00 h01 hq0 hqi hqc hqo hr1 hl1 hby hcc hk
              go_upto_region 23 with (go_at_call 13; refine HFA.out.mono ?_; rintro e w8 ⟨vt, rfl, hfq⟩; obtain ⟨va1, vc1, vx1, Oa1, Oc1, Oo1, Ott, m1, m2, m3, m4⟩ := HN.out.fed hfq; have M1 := Aside0.mk m1; have M2 := Aside0.mk (And.intro m2 (And.intro m3 m4)); clear hfq m1 m2 m3 m4)
              clear hk8 hk1 hk2 hk3 hk4 hk5 hk6 hk7
              go_upto_region 24 with (go_at_call 13; refine (M1.out.feedNil HQ1.out.1 HQ1.out.2.1 HQ1.out.2.2.2.2 HQ1.out.2.2.1 HQ1.out.2.2.2.1).mono ?_; rintro e w9 ⟨vy, rfl, hfq⟩; obtain ⟨va2, vc2, vx2, Oa2, Oc2, Oo2, n1, n2', n3, Oy, n4⟩ := M1.out.fed2 M2.out.1 M2.out.2.1 hfq; have N0 := Aside0.mk (And.intro n1 (And.intro n2' (And.intro n3 n4))); clear hfq n1 n2' n3 n4)
              obtain ⟨n1, n2', n3, n4⟩ := N0.out
              obtain ⟨Ay, cy, ey⟩ := n4.slice
              subst ey
              obtain ⟨vs, O1, g1', g2, g3⟩ := n1.ro
              obtain ⟨us, O2, g4', g5, g6⟩ := n2'
              obtain ⟨At, ct, et⟩ := g4'.slice
              subst et
              have N1 := Aside0.mk (And.intro n1 (And.intro n3 M2.out.2.2))
              have HE := Aside0.mk (And.intro g1' (And.intro g2 g3))
              have HT := Aside0.mk (And.intro g4' (And.intro g5 g6))
              have HLU : Aside0 (vs.length + us.length ≤ 1000000000) := ⟨addLen g2.len g5.len HLEN.out⟩
              clear n1 n3 n4 g1' g2 g3 g4' g5 g6
              go_wp2_with ((with_reducible refine gate_builtin (b := .append) (xs := #[.tmp 169, .tmp 170]) rfl ?_); at_builtin; refine wpList_vals _ rfl (.tmp 169) (.tmp 170) 36 22 rfl Try.underlying36 (.slice none 0 0) 24 (by kernel_rfl) rfl (by decide) _ vs rfl HE.out.1 _ us rfl HT.out.1 (HT.out.2.1.one RwR.fit) HLU.out ?_; intro v3 w10 hr3; obtain ⟨Ot3, m5⟩ := N1.out.1.app HE.out.2.1 HE.out.2.2 HT.out.2.1 HT.out.2.2 N1.out.2.1 N1.out.2.2 hr3; have HM3 := Aside0.mk m5; clear hr3 m5)
              rw [HWK.out]
              exact ⟨⟨q1, _, _, _, _, _, _, _, _, k + 1, rfl, ⟨HM3.out, HMS.out.1, HBY.out.1, HBY.out.2⟩⟩, by have := HMS.out.2; simp only [intOf]; omega⟩
            · have hke : k = d.length := by have := HNN.out.2.1; omega
              have hqe : q = P := by rw [HNN.out.2.2.1, hke, List.take_length, HMP.out.2]
              have hoe : ol = M := by rw [HNN.out.2.2.2, hke, List.take_length, HMP.out.1]
              subst hqe hoe
              obtain ⟨Ao, co2, eo⟩ := HN.out.ro.slice
              subst eo
              have HB7 : Aside0 (Pd w7 wb.heap.size q (.slice Ao ol.length co2) ol (.slice none 0 0) []) := ⟨⟨⟨_, _, _, _, _, _, HN.out.pm⟩, ⟨_, HN.out.ro⟩, GV.nil _ _⟩⟩
              have HP7 := Aside0.mk (HPW.out.below HN.out.bel)
              have HS7 := Aside0.mk (sameP HP7.out HB7.out HMB.out)
              have HW7 : Aside0 (Below W.heap.size W w7) := ⟨below_next HWB.out HN.out.bel⟩
              have hk1 : ¬ (k : Int) < (d.length : Int) := by omega
              clear hke hk
              go_wp2_with (first | (go_at_call 19; refine HS7.out.mono ?_; rintro e w8 ⟨rfl, hd8⟩; have B8 := Aside0.mk hd8.below; have HP8 := Aside0.mk (HP7.out.below B8.out); have HL8 := Aside0.mk (HB7.out.below B8.out); have HW8 : Aside0 (Below W.heap.size W w8) := ⟨below_next HW7.out B8.out⟩; clear hd8) | (go_at_call 21; (first | refine HP8.out.broken.mono ?_ | refine HL8.out.broken.mono ?_); rintro e w6 ⟨rfl, rfl⟩) | (go_at_call 23; (first | refine HP8.out.held.mono ?_ | refine HL8.out.held.mono ?_); rintro e w6 ⟨rfl, rfl⟩))
              go_ret
              exact ⟨by simp, HW8.out⟩
end Go.Proofs.Ytfdkcnbkoagmiaa.ChkW
end

section
namespace Go.Proofs.Ytfdkcnbkoagmiaa.LawWireChunks
open Go.ChangeShapes Go.WideShapes Go.ChangeAt Go.RowKit
theorem own : ownKnob Try.prog.godebug = none := by kernel_rfl
theorem laidOut : laidOutB Try.prog = true := by kernel_rfl
set_option maxRecDepth 100000 in
theorem contract (H : Type) (enc : TypeId × Value → H) (W : World) (base : Nat) (args : Array Value) (ds gs : List (DataW H)) (before : List MemPlace)
    (hval0 : ∀ (j : Nat) t v, Try.f5.params[j]? = some t → args[j]? = some v → Value.okWide Try.prog W .any base t v)
    (hW : DataW.Whole enc Try.prog Try.f5.params.toList Rows.wireChunksSpec.vars false W args.toList ds gs before)
    (hsz0 : (DataW.weightsEach Try.prog (Try.f5.params.toList ++ (OpenSpec.ofChange Rows.wireChunksSpec).bare.plain.varTypes Try.prog) (ds ++ gs)).all (· ≤ reachBytes) = true) (hL : laidMetH Try.prog Rows.wireChunksUptoRow.laid W) (hk : Rows.uptoSmall H (ds ++ gs) = true) :
    Calls Try.prog 5 args W fun e W' => ∃ v, e = .returned v ∧ Rows.wireChunksSpec.post enc Try.prog Try.f5 false true false false W args v W' := by
  have hsz : (DataW.weightsEach Try.prog (Try.f5.params.toList ++ Rows.wireChunksSpec.plain.varTypes Try.prog) (ds ++ gs)).all (· ≤ reachBytes) = true := hsz0
  have hval : ∀ (j : Nat) t v, Try.f5.params[j]? = some t → args[j]? = some v → Value.okWide Try.prog W .any base t v := hval0
  have hW' := hW
  obtain ⟨p, q, hA0, hV, rfl, _, _⟩ := hW
  have hA : DataW.TrodAll enc Try.prog W 0 (fun _ => true) true Try.f5.params.toList args.toList ds p := hA0
  rw [Try.params5] at hA hval hsz
  obtain ⟨v0, vs0, d0, ds0, p0, q0, hargs, rfl, rfl, h0, r0⟩ := trodAll_cons hA
  obtain ⟨rfl, rfl, rfl⟩ := trodAll_nil r0
  obtain rfl : args = #[v0] := by cases args; simp_all
  obtain ⟨rfl, rfl⟩ := trodVars_none hV
  have k0 := h0
  have lt0 : ∀ x ∈ p0, x.block < W.heap.size := by obtain ⟨m, hm⟩ := k0; exact DataW.trod_lt m _ _ _ hm
  have hk0 : Rows.uptoBulkAll [d0] ≤ 1048576 := OpenB.bound (by simpa only [List.append_nil] using hk)
  obtain ⟨y, hK, hg⟩ := OpenB.open_arg StrB.b_str hsz (j := 0) rfl rfl hk0 h0
  obtain ⟨ca, rfl, _⟩ := okWide_struct Try.underlying73 (hval 0 _ v0 rfl rfl)
  clear hA0 hval0 hsz0 hsz
  refine (ChkW.walk y ca W hK hg).mono fun e W' ⟨he, bel⟩ => ?_
  subst he
  exact ⟨_, rfl, _, _, _, [], _, [], hW', trodAll_mk1 (shut_bool Try.underlying4 _), (trodAll_cons_mk (Below.trod laidOut (by kernel_rfl) (of_decide_eq_true (by kernel_rfl)) k0 bel lt0) trodAll_mk0), rfl, bel.frame _, fun h => by cases h⟩
noncomputable def laidWorld (os : Os) : World := World.holding Try.prog os ⟨#[], #[], []⟩
theorem laid_met (os : Os) : laidMet Try.prog Rows.wireChunksUptoRow.laid ((laidWorld os).forCall (fun _ _ => 0) ⟨#[], #[.agg #[.slice none 0 0, .slice none 0 0]], []⟩).memory :=
  laidMet_of_run' 8 (by kernel_rfl) (by kernel_rfl)
theorem reads (os : Os) {H : Type} (enc : TypeId × Value → H) : ∃ places, DataW.whole enc Try.prog ((laidWorld os).forCall (fun _ _ => 0) ⟨#[], #[.agg #[.slice none 0 0, .slice none 0 0]], []⟩).memory Try.f5.params.toList Rows.wireChunksSpec.vars false (#[.agg #[.slice none 0 0, .slice none 0 0]] : Array Value).toList 8 = some ([.agg [.nil, .nil]], [], places) :=
  ⟨[], by kernel_rfl⟩
set_option maxRecDepth 100000 in
theorem lifted (os : Os) (started : os.Started) (H : Type) (enc : TypeId × Value → H) (F : Stop.Interp) :
    ReturnsInHanded {} Try.checked os 5 .any ((Rows.OpenSpec.upto Rows.wireChunksSpec).preRow enc Try.prog Try.f5 Rows.wireChunksUptoRow.domain false Rows.wireChunksUptoRow.laid) (((Rows.OpenSpec.upto Rows.wireChunksSpec).at F).post enc Try.prog Try.f5 false true false false) := by
  obtain ⟨places, hx⟩ := reads os enc
  refine returnsInHanded_of_row (C := Try.checked) (s := Rows.OpenSpec.upto Rows.wireChunksSpec) own started (by kernel_rfl) Try.func5
    (witness_row_at (enc := enc) (C := Try.checked) false (laidWorld os) #[.agg #[.slice none 0 0, .slice none 0 0]] rfl (by kernel_rfl) (by kernel_rfl) (by kernel_rfl)
      (OpenSpec.preRow_of_cond 8 hx (by kernel_rfl) (fun k hk => by cases hk; kernel_rfl) (by kernel_rfl) (laid_met os))) ?_
  intro W base args ds gs before hval hW _ hcond hsz hL _ _
  exact contract H enc W base args ds gs before hval hW hsz hL (hcond _ rfl)
theorem said : Rows.WireChunksUptoSaid :=
  OpenClaim.holds_of_cond 5 Try.f5 rfl rfl rfl rfl rfl rfl rfl ⟨rfl, rfl, rfl, rfl, rfl⟩ rfl rfl rfl rfl rfl (by kernel_rfl) Try.func5 (by kernel_rfl)
    (of_decide_eq_true (by kernel_rfl)) (by unfold Func.isWrapper; first | (rw [if_pos (by decide +kernel)]; kernel_rfl) | (rw [if_neg (by decide +kernel)]; exact ⟨rfl, rfl⟩))
    (fun os started H enc _ F => by rw [OpenClaim.pre_eq_preRow]; exact lifted os started H enc F)
#print axioms said
end Go.Proofs.Ytfdkcnbkoagmiaa.LawWireChunks
namespace Go.Proofs.Ytfdkcnbkoagmiaa
theorem wireChunks_holds : Rows.WireChunksUptoSaid := LawWireChunks.said
end Go.Proofs.Ytfdkcnbkoagmiaa
end
