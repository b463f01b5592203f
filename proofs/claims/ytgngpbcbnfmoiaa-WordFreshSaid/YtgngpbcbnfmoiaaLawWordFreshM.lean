-- JOINED by tailmerge2.py: PDm SpellF PackL RefD TxtW FreW LawWordFresh
import Derived.Test.YtgngpbcbnfmoiaaLawWordFreshM1
import Derived.Test.YtgngpbcbnfmoiaaProg
import Derived.Below
import Derived.Deep.Draws
import Derived.Deep.AppendLies
import Derived.Maps.AppendAt
import Derived.OwnWalk
import Derived.Laws.BytesArg
import Derived.Laws.MakeOwn
import Derived.Laws.OwnMore
import Derived.Deep.OwnRows
import Derived.Tactics
import Derived.Lib.ConvBytes
import Derived.Laws.Slices
import Derived.WalkKit
import Derived.KernelRfl
import Derived.RowKit3
import Derived.Deep.LoopGhost
import Derived.Deep.QuietTactic
import Derived.BigQuiet
import Derived.WideLaws
import Derived.Deep.DeepCutAuto
import Derived.Deep.CutBlock
import Derived.Deep.RegionHeld3
import Derived.Laws.Rows
import Derived.Lib.AppendStr
import Derived.ArgAppend
import Derived.Laws.IdiomCopy
import Derived.OrdersHeld
import Derived.Laws.BitsLemmas
import Derived.RowKit
import Derived.Test.YtgngpbcbnfmoiaaHeadW
import Derived.Test.YtgngpbcbnfmoiaaWWords
import Derived.Test.YtgngpbcbnfmoiaaWLast
import Derived.Test.YtgngpbcbnfmoiaaWTab
import Derived.Test.YtgngpbcbnfmoiaaWFour
import Derived.Test.YtgngpbcbnfmoiaaWQPut
import Derived.Test.YtgngpbcbnfmoiaaWApart
import Derived.Test.YtgngpbcbnfmoiaaWArr
import Derived.Test.YtgngpbcbnfmoiaaWZeros
import Derived.Test.YtgngpbcbnfmoiaaWFoot
import Derived.Test.YtgngpbcbnfmoiaaWKept
import Derived.Test.YtgngpbcbnfmoiaaWShare
import Derived.Test.YtgngpbcbnfmoiaaWN
import Derived.Test.YtgngpbcbnfmoiaaWFootNe
import Derived.Test.YtgngpbcbnfmoiaaWAt
import Derived.Test.YtgngpbcbnfmoiaaWEqStruct
import Derived.Test.YtgngpbcbnfmoiaaWRepsOne
import Derived.Test.YtgngpbcbnfmoiaaWInv
import Derived.Test.YtgngpbcbnfmoiaaWInvWords
import Derived.Test.YtgngpbcbnfmoiaaWGuard
import Derived.Test.YtgngpbcbnfmoiaaWNEv
import Derived.Test.YtgngpbcbnfmoiaaWMore
import Derived.Test.YtgngpbcbnfmoiaaPAx7
import Derived.Test.YtgngpbcbnfmoiaaPAx1
import Derived.Test.YtgngpbcbnfmoiaaWordS
import Derived.Test.YtgngpbcbnfmoiaaRefL
import Derived.Deep.DeepMust
import Derived.Test.YtgngpbcbnfmoiaaRows
import Derived.ProofKit
import Derived.OpenShut
import Derived.ShutString
import Derived.ChangeOld
import Derived.SizedLaws

section
-- MERGED by merge.py: PDx0 PDx1 PDx2 PDx3 PDx4 PDx5 PDx6 PDx7 PDx8 PDx9 PDx10 PDx

section
-- PRINTED by print.py (a twelfth state) out of the translation. Not trusted: Lean checks it.
namespace Go.Proofs.Ytgngpbcbnfmoiaa.PD
open Go.RowKit Go.Proofs.YtgngpbcbnfmoiaaW.PrintWords Go.Proofs.YtgngpbcbnfmoiaaW.PrintLast Go.Proofs.YtgngpbcbnfmoiaaW.PrintMore
attribute [local go_sem] max2_int min2_int max_two min_two max_three min_three max_four min_four   -- for this text's walks alone
open Go.Proofs.Ytgngpbcbnfmoiaa.PA Go.Proofs.Ytgngpbcbnfmoiaa.PB
set_option linter.unusedVariables false
set_option linter.unusedSimpArgs false



def errW : Option Int → Value
  | none => .nilIface
  | some c => .iface 0 (.int .i64 c)
theorem errW_none : errW none = .nilIface := rfl
theorem errW_some (c : Int) : errW (some c) = .iface 0 (.int .i64 c) := rfl

theorem info5 : (Try.prog.info? 5).map (fun i => (i.zero, i.size, i.bytes)) = some (some (.int .u8 0), 1, 1) := by kernel_rfl
-- the values' own types

end Go.Proofs.Ytgngpbcbnfmoiaa.PD
end

section
-- PRINTED by print.py (a twelfth state) out of the translation. Not trusted: Lean checks it.
namespace Go.Proofs.Ytgngpbcbnfmoiaa.PD
open Go.RowKit Go.Proofs.YtgngpbcbnfmoiaaW.PrintWords Go.Proofs.YtgngpbcbnfmoiaaW.PrintLast Go.Proofs.YtgngpbcbnfmoiaaW.PrintMore
attribute [local go_sem] max2_int min2_int max_two min_two max_three min_three max_four min_four   -- for this text's walks alone
open Go.Proofs.Ytgngpbcbnfmoiaa.PA Go.Proofs.Ytgngpbcbnfmoiaa.PB
set_option linter.unusedVariables false
set_option linter.unusedSimpArgs false

/-! ### larderref1_digits: function 65 -/
mutual
def larderref1_digits.j0 : Nat → ByteArray → Bool → Option (ByteArray × Bool)
  | 0, _, _ => none
  | k + 1, x4, x20 => if x20 = true then (if 1 ≤ (x4.size : Int) then (larderref1_digits.j1 k (x4.extract 1 x4.size)) else (none)) else (larderref1_digits.j1 k x4)
def larderref1_digits.j1 : Nat → ByteArray → Option (ByteArray × Bool)
  | 0, _ => none
  | k + 1, x4 => if x4.toList = ([] : List UInt8) then (some ((⟨#[]⟩ : ByteArray), false)) else (larderref1_digits.l0 k x4 0)
def larderref1_digits.l0 : Nat → ByteArray → Int → Option (ByteArray × Bool)
  | 0, _, _ => none
  | k + 1, x4, x5 => if x5 < (x4.size : Int) then (if 0 ≤ x5 then (if (bt x4 x5) < 48 then (some ((⟨#[]⟩ : ByteArray), false)) else (if (bt x4 x5) > 57 then (some ((⟨#[]⟩ : ByteArray), false)) else (larderref1_digits.l0 k x4 (wrap64 (x5 + 1))))) else (none)) else (if 0 < (x4.size : Int) then (if (bt x4 0) = 48 then (if (x4.size : Int) > 1 then (some ((⟨#[]⟩ : ByteArray), false)) else (some (x4, true))) else (some (x4, true))) else (none))
end
def larderref1_digits.f (k : Nat) (l0 : List Int) : Option (ByteArray × Bool) := if ((strOfNums l0).size : Int) > 1 then (if 0 < ((strOfNums l0).size : Int) then (if (bt (strOfNums l0) 0) = 45 then (if 1 < ((strOfNums l0).size : Int) then (larderref1_digits.j0 k (strOfNums l0) ((bt (strOfNums l0) 1) != 48)) else (none)) else (larderref1_digits.j0 k (strOfNums l0) false)) else (none)) else (larderref1_digits.j0 k (strOfNums l0) false)
theorem larderref1_digits.mono_l : ∀ k, (∀ y0 y1, LeO (larderref1_digits.j0 k y0 y1) (larderref1_digits.j0 (k + 1) y0 y1)) ∧ (∀ y0, LeO (larderref1_digits.j1 k y0) (larderref1_digits.j1 (k + 1) y0)) ∧ (∀ y0 y1, LeO (larderref1_digits.l0 k y0 y1) (larderref1_digits.l0 (k + 1) y0 y1))
  | 0 => ⟨fun _ _ r h => by simp [larderref1_digits.j0] at h, fun _ r h => by simp [larderref1_digits.j1] at h, fun _ _ r h => by simp [larderref1_digits.l0] at h⟩
  | k + 1 => by
    obtain ⟨ih0, ih1, ih2⟩ := larderref1_digits.mono_l k
    refine ⟨?_, ?_, ?_⟩
    · intro y0 y1
      unfold larderref1_digits.j0
      repeat' first
      | (with_reducible exact ih0 _ _)
      | (with_reducible exact ih1 _)
      | (with_reducible exact ih2 _ _)
      | (with_reducible exact LeO.refl _)
      | (with_reducible exact LeO.none _)
      | (with_reducible refine LeO.ite ?_ ?_)
      | (with_reducible refine LeO.bind ?_ (fun _ => ?_))
      | exact ih0 _ _
      | exact ih1 _
      | exact ih2 _ _
      | exact LeO.none _
      | refine LeO.ite ?_ ?_
      | refine LeO.bind ?_ (fun _ => ?_)
    · intro y0
      unfold larderref1_digits.j1
      repeat' first
      | (with_reducible exact ih0 _ _)
      | (with_reducible exact ih1 _)
      | (with_reducible exact ih2 _ _)
      | (with_reducible exact LeO.refl _)
      | (with_reducible exact LeO.none _)
      | (with_reducible refine LeO.ite ?_ ?_)
      | (with_reducible refine LeO.bind ?_ (fun _ => ?_))
      | exact ih0 _ _
      | exact ih1 _
      | exact ih2 _ _
      | exact LeO.none _
      | refine LeO.ite ?_ ?_
      | refine LeO.bind ?_ (fun _ => ?_)
    · intro y0 y1
      unfold larderref1_digits.l0
      repeat' first
      | (with_reducible exact ih0 _ _)
      | (with_reducible exact ih1 _)
      | (with_reducible exact ih2 _ _)
      | (with_reducible exact LeO.refl _)
      | (with_reducible exact LeO.none _)
      | (with_reducible refine LeO.ite ?_ ?_)
      | (with_reducible refine LeO.bind ?_ (fun _ => ?_))
      | exact ih0 _ _
      | exact ih1 _
      | exact ih2 _ _
      | exact LeO.none _
      | refine LeO.ite ?_ ?_
      | refine LeO.bind ?_ (fun _ => ?_)
theorem larderref1_digits.mono : ∀ a0 k, LeO (larderref1_digits.f k a0) (larderref1_digits.f (k + 1) a0) := by
  intro a0 k
  obtain ⟨ih0, ih1, ih2⟩ := larderref1_digits.mono_l k
  unfold larderref1_digits.f
  repeat' first
      | (with_reducible exact ih0 _ _)
      | (with_reducible exact ih1 _)
      | (with_reducible exact ih2 _ _)
      | (with_reducible exact LeO.refl _)
      | (with_reducible exact LeO.none _)
      | (with_reducible refine LeO.ite ?_ ?_)
      | (with_reducible refine LeO.bind ?_ (fun _ => ?_))
      | exact ih0 _ _
      | exact ih1 _
      | exact ih2 _ _
      | exact LeO.none _
      | refine LeO.ite ?_ ?_
      | refine LeO.bind ?_ (fun _ => ?_)
set_option maxHeartbeats 8000000 in
set_option maxRecDepth 100000 in
theorem larderref1_digits.calls (k : Nat) (A0 : Option Addr) (c0 : Nat) (l0 : List Int) (r1 : ByteArray) (r2 : Bool) (w : World) (hr0 : Kd.C (Kd.int .u8) w A0 l0.length l0) (hc0 : l0.length ≤ c0) (h : larderref1_digits.f k l0 = some (r1, r2)) :
    Calls Try.prog 65 #[.slice A0 l0.length c0] w fun e w' => e = .returned (.tuple #[.string r1, .bool r2]) ∧ Drawn0 w w' := by
  have HR0 := Aside0.mk hr0
  have HC0 := Aside0.mk hc0
  clear hr0 hc0
  have H : (if ((strOfNums l0).size : Int) > 1 then (if 0 < ((strOfNums l0).size : Int) then (if (bt (strOfNums l0) 0) = 45 then (if 1 < ((strOfNums l0).size : Int) then (larderref1_digits.j0 k (strOfNums l0) ((bt (strOfNums l0) 1) != 48)) else (none)) else (larderref1_digits.j0 k (strOfNums l0) false)) else (none)) else (larderref1_digits.j0 k (strOfNums l0) false)) = some (r1, r2) := h
  clear h
  have HC2 := Aside0.mk H
  clear H
  have hcv3 := Kd.C_string (P := Try.prog) (A := A0) (c := c0) Try.underlying22 Try.underlying5 Try.underlying9 HR0.out
  go_enter Try.func65, Try.ntmps65
  go_upto_region 2 with (fail)
  go_cut [20] (fun v20 wc => ∃ (kq : Nat) (x20_1 : Bool), v20 = .bool x20_1 ∧ Aside0 (larderref1_digits.j0 kq (strOfNums l0) x20_1 = some (r1, r2)) ∧ Aside0 (kq ≤ k) ∧ Drawn0 w wc)
  case first =>
    have H := HC2.out
    clear HC2
    by_cases c4 : ((strOfNums l0).size : Int) > 1
    · rw [if_pos c4] at H
      have c4b0 : decide (1 < ((strOfNums l0).size : Int)) = true := decide_eq_true c4
      have c4b1 : decide (1 < (strOfNums l0).size) = true := decide_eq_true (by omega)
      clear c4
      (first | rw [c4b0] | (simp only [i64_w, i32_w]; rw [c4b0]) | skip)
      by_cases c5 : 0 < ((strOfNums l0).size : Int)
      · rw [if_pos c5] at H
        have c5b0 : decide (0 < ((strOfNums l0).size : Int)) = true := decide_eq_true c5
        have c5b1 : decide (0 < (strOfNums l0).size) = true := decide_eq_true (by omega)
        clear c5
        by_cases c7 : (bt (strOfNums l0) 0) = 45
        · rw [if_pos c7] at H
          have c7b0 : ((bt (strOfNums l0) 0) == 45) = true := beq_iff_eq.mpr c7
          have c7b1 : ((bt (strOfNums l0) 0) != 45) = false := bne_eq_false_iff_eq.mpr c7
          clear c7
          by_cases c8 : 1 < ((strOfNums l0).size : Int)
          · rw [if_pos c8] at H
            have c8b0 : decide (1 < ((strOfNums l0).size : Int)) = true := decide_eq_true c8
            have c8b1 : decide (1 < (strOfNums l0).size) = true := decide_eq_true (by omega)
            clear c8
            have H' := Aside0.mk H
            clear H
            have p6 : 0 ≤ (0 : Int) := (by omega)
            have q6 : 0 < (strOfNums l0).size := (by have : (0 : Int) < ((strOfNums l0).size : Int) := of_decide_eq_true (by first | (with_reducible assumption) | assumption); omega)
            have hx6 : ∀ h : 0 < (strOfNums l0).size, (((strOfNums l0)[0]'h).toNat : Int) = bt (strOfNums l0) 0 := bt_at (strOfNums l0) 0
            clear p6
            have qi6 : (0 < ((strOfNums l0).size : Int)) = True := eq_true (of_decide_eq_true (by first | (with_reducible assumption) | assumption))
            replace q6 := eq_true q6
            have p9 : 0 ≤ (1 : Int) := (by omega)
            have q9 : 1 < (strOfNums l0).size := (by have : (1 : Int) < ((strOfNums l0).size : Int) := of_decide_eq_true (by first | (with_reducible assumption) | assumption); omega)
            have hx9 : ∀ h : 1 < (strOfNums l0).size, (((strOfNums l0)[1]'h).toNat : Int) = bt (strOfNums l0) 1 := bt_at (strOfNums l0) 1
            clear p9
            have qi9 : (1 < ((strOfNums l0).size : Int)) = True := eq_true (of_decide_eq_true (by first | (with_reducible assumption) | assumption))
            replace q9 := eq_true q9
            go_wp2
            go_meet
            case rel => exact ⟨_, (((bt (strOfNums l0) 1) != 48)), (by first | rfl | (simp; done) | (simp [*]; done)), H', ⟨by first | omega | exact Nat.le_refl _⟩, by repeat (first | exact Drawn0.refl _ | apply Drawn0.step)⟩
          · rw [if_neg c8] at H
            exact absurd H (by simp)
        · rw [if_neg c7] at H
          have c7b0 : ((bt (strOfNums l0) 0) == 45) = false := beq_eq_false_iff_ne.mpr c7
          have c7b1 : ((bt (strOfNums l0) 0) != 45) = true := bne_iff_ne.mpr c7
          have H' := Aside0.mk H
          clear H
          have p6 : 0 ≤ (0 : Int) := (by omega)
          have q6 : 0 < (strOfNums l0).size := (by have : (0 : Int) < ((strOfNums l0).size : Int) := of_decide_eq_true (by first | (with_reducible assumption) | assumption); omega)
          have hx6 : ∀ h : 0 < (strOfNums l0).size, (((strOfNums l0)[0]'h).toNat : Int) = bt (strOfNums l0) 0 := bt_at (strOfNums l0) 0
          clear p6
          have qi6 : (0 < ((strOfNums l0).size : Int)) = True := eq_true (of_decide_eq_true (by first | (with_reducible assumption) | assumption))
          replace q6 := eq_true q6
          go_wp2
          go_meet
          case rel => exact ⟨_, (false), (by first | rfl | (simp; done) | (simp [*]; done)), H', ⟨by first | omega | exact Nat.le_refl _⟩, by repeat (first | exact Drawn0.refl _ | apply Drawn0.step)⟩
      · rw [if_neg c5] at H
        exact absurd H (by simp)
    · rw [if_neg c4] at H
      have c4b0 : decide (1 < ((strOfNums l0).size : Int)) = false := decide_eq_false c4
      have c4b1 : decide (1 < (strOfNums l0).size) = false := decide_eq_false (by omega)
      clear c4
      (first | rw [c4b0] | (simp only [i64_w, i32_w]; rw [c4b0]) | skip)
      have H' := Aside0.mk H
      clear H
      go_wp2
      go_meet
      case rel => exact ⟨_, (false), (by first | rfl | (simp; done) | (simp [*]; done)), H', ⟨by first | omega | exact Nat.le_refl _⟩, by repeat (first | exact Drawn0.refl _ | apply Drawn0.step)⟩
  case rest =>
    clear HC2
    try clear p2
    try clear hcv3
    try clear c4
    try clear c4b0
    try clear c4b1
    try clear c5
    try clear c5b0
    try clear c5b1
    try clear c6
    try clear p6
    try clear q6
    try clear hx6
    try clear qi6
    try clear c7
    try clear c7b0
    try clear c7b1
    try clear c8
    try clear c8b0
    try clear c8b1
    try clear p9
    try clear q9
    try clear hx9
    try clear qi9
    try clear p6
    try clear p9
    try clear q6
    try clear q9
    obtain ⟨kq, x20_1, rfl, HA, HJ1, ⟨mc1, rfl⟩⟩ := hcut
    cases kq with
    | zero => exact absurd HA.out (by simp [larderref1_digits.j0])
    | succ kj1 =>
      have H := HA.out
      clear HA
      simp only [larderref1_digits.j0] at H
      have HC10 := Aside0.mk H
      clear H
      go_upto_if 20 with (fail)
      go_cut [4] (fun v4 wc => ∃ (kq : Nat) (x4_9 : ByteArray), v4 = .string x4_9 ∧ Aside0 (larderref1_digits.j1 kq x4_9 = some (r1, r2)) ∧ Aside0 (kq ≤ kj1) ∧ Drawn0 w wc)
      case first =>
        have H := HC10.out
        clear HC10
        by_cases c11 : x20_1 = true
        · subst c11
          have H1 : (if 1 ≤ ((strOfNums l0).size : Int) then (larderref1_digits.j1 kj1 ((strOfNums l0).extract 1 (strOfNums l0).size)) else (none)) = some (r1, r2) := by rw [if_pos rfl] at H; exact H
          clear H
          have H := H1
          clear H1
          by_cases c12 : 1 ≤ ((strOfNums l0).size : Int)
          · rw [if_pos c12] at H
            have c12b0 := eq_true c12
            have c12b1 : decide (1 ≤ ((strOfNums l0).size : Int)) = true := decide_eq_true c12
            clear c12
            have H' := Aside0.mk H
            clear H
            go_wp2
            go_meet
            case rel => exact ⟨_, ((strOfNums l0).extract 1 (strOfNums l0).size), (by first | rfl | (simp; done) | (simp [*]; done)), H', ⟨by have := HJ1.out; first | omega | exact Nat.le_refl _⟩, by repeat (first | exact Drawn0.refl _ | apply Drawn0.step)⟩
          · rw [if_neg c12] at H
            exact absurd H (by simp)
        · replace c11 := Bool.eq_false_iff.mpr c11
          subst c11
          have H1 : (larderref1_digits.j1 kj1 (strOfNums l0)) = some (r1, r2) := by rw [if_neg (show ¬ (false = true) by decide)] at H; exact H
          clear H
          have H := H1
          clear H1
          have H' := Aside0.mk H
          clear H
          go_wp2
          go_meet
          case rel => exact ⟨_, ((strOfNums l0)), (by first | rfl | (simp; done) | (simp [*]; done)), H', ⟨by have := HJ1.out; first | omega | exact Nat.le_refl _⟩, by repeat (first | exact Drawn0.refl _ | apply Drawn0.step)⟩
      case rest =>
        clear HC10
        try clear c1
        try clear p2
        try clear hcv3
        try clear c4
        try clear c4b0
        try clear c4b1
        try clear c5
        try clear c5b0
        try clear c5b1
        try clear c6
        try clear p6
        try clear q6
        try clear hx6
        try clear qi6
        try clear c7
        try clear c7b0
        try clear c7b1
        try clear c8
        try clear c8b0
        try clear c8b1
        try clear p9
        try clear q9
        try clear hx9
        try clear qi9
        try clear c11
        try clear c12
        try clear c12b0
        try clear c12b1
        try clear p2
        try clear p6
        try clear p9
        try clear q6
        try clear q9
        obtain ⟨kq, x4_9, rfl, HA, HJ9, ⟨mc9, rfl⟩⟩ := hcut
        cases kq with
        | zero => exact absurd HA.out (by simp [larderref1_digits.j1])
        | succ kj9 =>
          have H := HA.out
          clear HA
          simp only [larderref1_digits.j1] at H
          by_cases c13 : x4_9.toList = ([] : List UInt8)
          · rw [if_pos c13] at H
            have c13b0 : (x4_9.toList == ([] : List UInt8)) = true := beq_iff_eq.mpr c13
            have c13b1 : (x4_9.toList != ([] : List UInt8)) = false := bne_eq_false_iff_eq.mpr c13
            clear c13
            simp only [Option.some.injEq, Prod.mk.injEq] at H
            obtain ⟨rfl, rfl⟩ := H
            go_wp2
            go_ret2
            exact ⟨by first | rfl | (simp; done) | (simp [*]; done), by repeat (first | exact Drawn0.refl _ | apply Drawn0.step)⟩
          · rw [if_neg c13] at H
            have c13b0 : (x4_9.toList == ([] : List UInt8)) = false := beq_eq_false_iff_ne.mpr c13
            have c13b1 : (x4_9.toList != ([] : List UInt8)) = true := bne_iff_ne.mpr c13
            have H' := Aside0.mk H
            clear H
            go_wp2
            go_loopg [5] kj9 (fun kq v5 w' => ∃ (x5_3 : Int), v5 = .int .i64 x5_3 ∧ Aside0 (larderref1_digits.l0 kq x4_9 x5_3 = some (r1, r2)) ∧ Aside0 (kq ≤ kj9) ∧ Drawn0 w w')
            case atStart => exact ⟨(0), (by first | rfl | (simp; done) | (simp [*]; done)), H', ⟨Nat.le_refl _⟩, by repeat (first | exact Drawn0.refl _ | apply Drawn0.step)⟩
            case round =>
              clear H'
              try clear c1
              try clear p2
              try clear hcv3
              try clear c4
              try clear c4b0
              try clear c4b1
              try clear c5
              try clear c5b0
              try clear c5b1
              try clear c6
              try clear p6
              try clear q6
              try clear hx6
              try clear qi6
              try clear c7
              try clear c7b0
              try clear c7b1
              try clear c8
              try clear c8b0
              try clear c8b1
              try clear c9
              try clear p9
              try clear q9
              try clear hx9
              try clear qi9
              try clear c11
              try clear c12
              try clear c12b0
              try clear c12b1
              try clear c13
              try clear c13b0
              try clear c13b1
              try clear p2
              try clear p6
              try clear p9
              try clear q6
              try clear q9
              obtain ⟨x5_3, rfl, HA, HK3, ⟨m3, rfl⟩⟩ := hrel
              cases gk with
              | zero => exact absurd HA.out (by simp [larderref1_digits.l0])
              | succ k3 =>
                have H := HA.out
                clear HA
                simp only [larderref1_digits.l0] at H
                by_cases c14 : x5_3 < (x4_9.size : Int)
                · rw [if_pos c14] at H
                  have c14b0 : decide (x5_3 < (x4_9.size : Int)) = true := decide_eq_true c14
                  clear c14
                  by_cases c15 : 0 ≤ x5_3
                  · rw [if_pos c15] at H
                    have c15b0 : decide (0 ≤ x5_3) = true := decide_eq_true c15
                    clear c15
                    by_cases c17 : (bt x4_9 x5_3) < 48
                    · rw [if_pos c17] at H
                      have c17b0 : decide ((bt x4_9 x5_3) < 48) = true := decide_eq_true c17
                      clear c17
                      simp only [Option.some.injEq, Prod.mk.injEq] at H
                      obtain ⟨rfl, rfl⟩ := H
                      have p16 : 0 ≤ (x5_3 : Int) := of_decide_eq_true (by first | (with_reducible assumption) | assumption)
                      have q16 : x5_3 < (x4_9.size : Int) := of_decide_eq_true (by first | (with_reducible assumption) | assumption)
                      have hx16 := bt_at x4_9 x5_3
                      replace p16 := eq_true p16
                      replace q16 := eq_true q16
                      go_wp2
                      go_ret2
                      exact ⟨by first | rfl | (simp; done) | (simp [*]; done), by repeat (first | exact Drawn0.refl _ | apply Drawn0.step)⟩
                    · rw [if_neg c17] at H
                      have c17b0 : decide ((bt x4_9 x5_3) < 48) = false := decide_eq_false c17
                      clear c17
                      by_cases c19 : (bt x4_9 x5_3) > 57
                      · rw [if_pos c19] at H
                        have c19b0 : decide (57 < (bt x4_9 x5_3)) = true := decide_eq_true c19
                        clear c19
                        simp only [Option.some.injEq, Prod.mk.injEq] at H
                        obtain ⟨rfl, rfl⟩ := H
                        have p16 : 0 ≤ (x5_3 : Int) := of_decide_eq_true (by first | (with_reducible assumption) | assumption)
                        have q16 : x5_3 < (x4_9.size : Int) := of_decide_eq_true (by first | (with_reducible assumption) | assumption)
                        have hx16 := bt_at x4_9 x5_3
                        replace p16 := eq_true p16
                        replace q16 := eq_true q16
                        have p18 : 0 ≤ (x5_3 : Int) := of_decide_eq_true (by first | (with_reducible assumption) | assumption)
                        have q18 : x5_3 < (x4_9.size : Int) := of_decide_eq_true (by first | (with_reducible assumption) | assumption)
                        have hx18 := bt_at x4_9 x5_3
                        replace p18 := eq_true p18
                        replace q18 := eq_true q18
                        go_wp2
                        go_ret2
                        exact ⟨by first | rfl | (simp; done) | (simp [*]; done), by repeat (first | exact Drawn0.refl _ | apply Drawn0.step)⟩
                      · rw [if_neg c19] at H
                        have c19b0 : decide (57 < (bt x4_9 x5_3)) = false := decide_eq_false c19
                        clear c19
                        have H' := Aside0.mk H
                        clear H
                        have p16 : 0 ≤ (x5_3 : Int) := of_decide_eq_true (by first | (with_reducible assumption) | assumption)
                        have q16 : x5_3 < (x4_9.size : Int) := of_decide_eq_true (by first | (with_reducible assumption) | assumption)
                        have hx16 := bt_at x4_9 x5_3
                        replace p16 := eq_true p16
                        replace q16 := eq_true q16
                        have p18 : 0 ≤ (x5_3 : Int) := of_decide_eq_true (by first | (with_reducible assumption) | assumption)
                        have q18 : x5_3 < (x4_9.size : Int) := of_decide_eq_true (by first | (with_reducible assumption) | assumption)
                        have hx18 := bt_at x4_9 x5_3
                        replace p18 := eq_true p18
                        replace q18 := eq_true q18
                        go_wp2
                        go_roundg k3
                        case measure => have := HJ1.out; have := HJ9.out; have := HK3.out; omega
                        case rel => exact ⟨(wrap64 (x5_3 + 1)), (by first | rfl | (simp; done) | (simp [*]; done)), H', ⟨by have := HJ1.out; have := HJ9.out; have := HK3.out; omega⟩, by repeat (first | exact Drawn0.refl _ | apply Drawn0.step)⟩
                  · rw [if_neg c15] at H
                    exact absurd H (by simp)
                · rw [if_neg c14] at H
                  have c14b0 : decide (x5_3 < (x4_9.size : Int)) = false := decide_eq_false c14
                  clear c14
                  by_cases c20 : 0 < (x4_9.size : Int)
                  · rw [if_pos c20] at H
                    have c20b0 : decide (0 < (x4_9.size : Int)) = true := decide_eq_true c20
                    have c20b1 : decide (0 < x4_9.size) = true := decide_eq_true (by omega)
                    clear c20
                    by_cases c22 : (bt x4_9 0) = 48
                    · rw [if_pos c22] at H
                      have c22b0 : ((bt x4_9 0) == 48) = true := beq_iff_eq.mpr c22
                      have c22b1 : ((bt x4_9 0) != 48) = false := bne_eq_false_iff_eq.mpr c22
                      clear c22
                      by_cases c23 : (x4_9.size : Int) > 1
                      · rw [if_pos c23] at H
                        have c23b0 : decide (1 < (x4_9.size : Int)) = true := decide_eq_true c23
                        have c23b1 : decide (1 < x4_9.size) = true := decide_eq_true (by omega)
                        clear c23
                        simp only [Option.some.injEq, Prod.mk.injEq] at H
                        obtain ⟨rfl, rfl⟩ := H
                        have p21 : 0 ≤ (0 : Int) := (by omega)
                        have q21 : 0 < x4_9.size := (by have : (0 : Int) < (x4_9.size : Int) := of_decide_eq_true (by first | (with_reducible assumption) | assumption); omega)
                        have hx21 : ∀ h : 0 < x4_9.size, ((x4_9[0]'h).toNat : Int) = bt x4_9 0 := bt_at x4_9 0
                        clear p21
                        have qi21 : (0 < (x4_9.size : Int)) = True := eq_true (of_decide_eq_true (by first | (with_reducible assumption) | assumption))
                        replace q21 := eq_true q21
                        go_wp2
                        go_ret2
                        exact ⟨by first | rfl | (simp; done) | (simp [*]; done), by repeat (first | exact Drawn0.refl _ | apply Drawn0.step)⟩
                      · rw [if_neg c23] at H
                        have c23b0 : decide (1 < (x4_9.size : Int)) = false := decide_eq_false c23
                        have c23b1 : decide (1 < x4_9.size) = false := decide_eq_false (by omega)
                        clear c23
                        simp only [Option.some.injEq, Prod.mk.injEq] at H
                        obtain ⟨rfl, rfl⟩ := H
                        have p21 : 0 ≤ (0 : Int) := (by omega)
                        have q21 : 0 < x4_9.size := (by have : (0 : Int) < (x4_9.size : Int) := of_decide_eq_true (by first | (with_reducible assumption) | assumption); omega)
                        have hx21 : ∀ h : 0 < x4_9.size, ((x4_9[0]'h).toNat : Int) = bt x4_9 0 := bt_at x4_9 0
                        clear p21
                        have qi21 : (0 < (x4_9.size : Int)) = True := eq_true (of_decide_eq_true (by first | (with_reducible assumption) | assumption))
                        replace q21 := eq_true q21
                        go_wp2
                        go_ret2
                        exact ⟨by first | rfl | (simp; done) | (simp [*]; done), by repeat (first | exact Drawn0.refl _ | apply Drawn0.step)⟩
                    · rw [if_neg c22] at H
                      have c22b0 : ((bt x4_9 0) == 48) = false := beq_eq_false_iff_ne.mpr c22
                      have c22b1 : ((bt x4_9 0) != 48) = true := bne_iff_ne.mpr c22
                      simp only [Option.some.injEq, Prod.mk.injEq] at H
                      obtain ⟨rfl, rfl⟩ := H
                      have p21 : 0 ≤ (0 : Int) := (by omega)
                      have q21 : 0 < x4_9.size := (by have : (0 : Int) < (x4_9.size : Int) := of_decide_eq_true (by first | (with_reducible assumption) | assumption); omega)
                      have hx21 : ∀ h : 0 < x4_9.size, ((x4_9[0]'h).toNat : Int) = bt x4_9 0 := bt_at x4_9 0
                      clear p21
                      have qi21 : (0 < (x4_9.size : Int)) = True := eq_true (of_decide_eq_true (by first | (with_reducible assumption) | assumption))
                      replace q21 := eq_true q21
                      go_wp2
                      go_ret2
                      exact ⟨by first | rfl | (simp; done) | (simp [*]; done), by repeat (first | exact Drawn0.refl _ | apply Drawn0.step)⟩
                  · rw [if_neg c20] at H
                    exact absurd H (by simp)

end Go.Proofs.Ytgngpbcbnfmoiaa.PD
end

section
-- PRINTED by print.py (a twelfth state) out of the translation. Not trusted: Lean checks it.
namespace Go.Proofs.Ytgngpbcbnfmoiaa.PD
open Go.RowKit Go.Proofs.YtgngpbcbnfmoiaaW.PrintWords Go.Proofs.YtgngpbcbnfmoiaaW.PrintLast Go.Proofs.YtgngpbcbnfmoiaaW.PrintMore
attribute [local go_sem] max2_int min2_int max_two min_two max_three min_three max_four min_four   -- for this text's walks alone
open Go.Proofs.Ytgngpbcbnfmoiaa.PA Go.Proofs.Ytgngpbcbnfmoiaa.PB
set_option linter.unusedVariables false
set_option linter.unusedSimpArgs false

/-! ### larderref1_Digits: function 46 -/
def larderref1_Digits.f : Nat → Int → Option (List Int)
  | 0, _ => none
  | k + 1, a0 => if a0 < 10 then (some (([(IntKind.u64.wrap (48 + a0)) % 256] : List Int))) else ((larderref1_Digits.f k (IntKind.u64.wrap (Int.tdiv a0 10))).bind fun t104 => (if t104.length < 140737488355328 then (some (t104 ++ [(IntKind.u64.wrap (48 + (Int.tmod a0 10))) % 256])) else (none)))
theorem larderref1_Digits.mono_l : ∀ k, (∀ y0, LeO (larderref1_Digits.f k y0) (larderref1_Digits.f (k + 1) y0))
  | 0 => fun _ r h => by simp [larderref1_Digits.f] at h
  | k + 1 => by
    have ih0 := larderref1_Digits.mono_l k
    · intro y0
      unfold larderref1_Digits.f
      repeat' first
      | (with_reducible exact ih0 _)
      | (with_reducible exact LeO.refl _)
      | (with_reducible exact LeO.none _)
      | (with_reducible refine LeO.ite ?_ ?_)
      | (with_reducible refine LeO.bind ?_ (fun _ => ?_))
      | exact ih0 _
      | exact LeO.none _
      | refine LeO.ite ?_ ?_
      | refine LeO.bind ?_ (fun _ => ?_)
theorem larderref1_Digits.mono : ∀ a0 k, LeO (larderref1_Digits.f k a0) (larderref1_Digits.f (k + 1) a0) := by
  intro a0 k
  have ih0 := larderref1_Digits.mono_l k
  exact ih0 a0
set_option maxHeartbeats 8000000 in
set_option maxRecDepth 100000 in
theorem larderref1_Digits.calls (k : Nat) : ∀ (a0 : Int) (r : List Int) (w : World) (h : larderref1_Digits.f k a0 = some r),
    Calls Try.prog 46 #[.int .u64 a0] w fun e w' => ∃ v0_ : Value, e = .returned (v0_) ∧ Kd.R (Kd.int .u8) 5 w' w.heap.size (fun _ => True) v0_ r ∧ Below w.heap.size w w' := by
  induction k using Nat.strongRecOn with
  | _ k ih =>
  intro a0 r w h
  cases k with
  | zero => exact absurd h (by simp [larderref1_Digits.f])
  | succ k =>
  simp only [larderref1_Digits.f] at h
  have HB := Aside0.mk (Below.refl w.heap.size w)
  have H : (if a0 < 10 then (some (([(IntKind.u64.wrap (48 + a0)) % 256] : List Int))) else ((larderref1_Digits.f k (IntKind.u64.wrap (Int.tdiv a0 10))).bind fun t104 => (if t104.length < 140737488355328 then (some (t104 ++ [(IntKind.u64.wrap (48 + (Int.tmod a0 10))) % 256])) else (none)))) = some r := h
  clear h
  by_cases c2 : a0 < 10
  · rw [if_pos c2] at H
    have c2b0 : decide (a0 < 10) = true := decide_eq_true c2
    clear c2
    obtain ⟨y101, hy101⟩ : ∃ y_ : List Int, y_ = (([(IntKind.u64.wrap (48 + a0)) % 256] : List Int)) := ⟨_, rfl⟩
    replace H : (some y101) = some r := by first | (rw [hy101]; with_reducible exact H) | (have H2_ := (Option.bind_some _ _).symm.trans H; rw [hy101]; with_reducible exact H2_) | (have H2_ := (Option.bind_some _ _).symm.trans H; with_reducible exact H2_) | with_reducible exact H | (rw [hy101]; exact H) | exact H
    have Ny101 := Aside0.mk hy101
    clear hy101
    obtain rfl := Option.some.inj H
    go_enter Try.func46, Try.ntmps46
    go_wp2_with (first | ((with_reducible refine gate_dst (N := 9) rfl ?_); refine Kd.R_lit (Kd.int .u8) _ 5 ?hg (N := 9) ?hd (xs := ([(IntKind.u64.wrap (48 + a0)) % 256] : List Int)) (inner := [.int .u8 ((IntKind.u64.wrap (48 + a0)) % 256)]) (ok := fun _ => True) (okp := fun _ => True) ?hr ?hp (fun _ hk => hk) trivial (Below.refl _ _) (Nat.le_refl _) (by simp) ?_; (case hd => rfl); (case hg => rfl); (case hr => first | (go_simp; done) | (go_simp; rfl)); (case hp => exact (Reps.one (show Kd.M (Kd.int .u8) _ _ _ ((IntKind.u64.wrap (48 + a0)) % 256) [.int .u8 ((IntKind.u64.wrap (48 + a0)) % 256)] from rfl) (Reps.none _ _))); intro v102 w3 ho4 hb hg_ hnew_; clear hg_ hnew_; (first | rw [← Ny101.out] at ho4 | (simp only [Int.reduceToNat] at ho4; rw [← Ny101.out] at ho4)); have n0_ := Aside0.mk (Kd.R_lower ho4 (below_size (by repeat (first | (with_reducible first | exact HB.out | apply below_alloc | apply pw_below_drewN | apply below_drew1) | exact HB.out)))); have n1_ := Aside0.mk (below_step (by repeat (first | (with_reducible first | exact HB.out | apply below_alloc | apply pw_below_drewN | apply below_drew1) | exact HB.out)) hb); clear HB; have HO103 := n0_; have HB := n1_; clear n0_ n1_; clear hb ho4))
    go_ret
    exact ⟨_, by first | rfl | (simp [errW_none, errW_some] <;> rfl) | (simp [*, errW_none, errW_some] <;> rfl), by (with_reducible repeat (first | apply Kd.R_alloc | apply Kd.R_drewN | apply Kd.R_drew)); exact HO103.out, by repeat (first | (with_reducible first | exact HB.out | apply below_alloc | apply pw_below_drewN | apply below_drew1) | exact HB.out)⟩
  · rw [if_neg c2] at H
    have c2b0 : decide (a0 < 10) = false := decide_eq_false c2
    clear c2
    replace H := Option.bind_eq_some_iff.mp H
    obtain ⟨t104, A50, H⟩ := H
    replace H : (if t104.length < 140737488355328 then (some (t104 ++ [(IntKind.u64.wrap (48 + (Int.tmod a0 10))) % 256])) else (none)) = some r := H
    have A5 := Aside0.mk A50
    clear A50
    by_cases c6 : t104.length < 140737488355328
    · rw [if_pos c6] at H
      have LMc6 := Aside0.mk c6
      clear c6
      obtain ⟨y107, hy107⟩ : ∃ y_ : List Int, y_ = (t104 ++ [(IntKind.u64.wrap (48 + (Int.tmod a0 10))) % 256]) := ⟨_, rfl⟩
      replace H : (some y107) = some r := by first | (rw [hy107]; with_reducible exact H) | (have H2_ := (Option.bind_some _ _).symm.trans H; rw [hy107]; with_reducible exact H2_) | (have H2_ := (Option.bind_some _ _).symm.trans H; with_reducible exact H2_) | with_reducible exact H | (rw [hy107]; exact H) | exact H
      have Ny107 := Aside0.mk hy107
      clear hy107
      obtain rfl := Option.some.inj H
      go_enter Try.func46, Try.ntmps46
      go_wp2_with (first | ((with_reducible refine gate_callee (f := 46) rfl ?_); refine goesL_ (some 12) rfl rfl Try.func46 (by kernel_rfl) rfl #[.int .u64 (IntKind.u64.wrap (Int.tdiv a0 10))] rfl (by (try simp only [List.map_toArray, List.map_cons, List.map_nil]); first | done | rfl | (simp only [List.length_drop, List.length_take]; rfl)) ?_; (with_reducible refine (ih k (by omega) (IntKind.u64.wrap (Int.tdiv a0 10)) t104 _ A5.out).mono ?_); rintro e w7 ⟨v105, rfl, ho0, hb⟩; refine ⟨_, rfl, ?_⟩; have n0_ := Aside0.mk (Kd.R_lower ho0 (below_size (by repeat (first | (with_reducible first | exact HB.out | apply below_alloc | apply pw_below_drewN | apply below_drew1) | exact HB.out)))); have n1_ := Aside0.mk (below_step (by repeat (first | (with_reducible first | exact HB.out | apply below_alloc | apply pw_below_drewN | apply below_drew1) | exact HB.out)) hb); clear HB; have HO106 := n0_; have HB := n1_; clear n0_ n1_; (try clear hb); (try clear hb2); (try clear hk); (try clear hi); (try clear ho0)) | ((with_reducible refine gate_builtin (b := .append) (xs := #[.tmp 13, .tmp 18]) rfl ?_); at_builtin; refine Kd.R_append (Kd.int .u8) (w0 := w) w.heap.size rfl (.tmp 13) (.tmp 18) 22 5 (.int .u8 0) 1 rfl Try.underlying22 info5 rfl (by decide) (by omega) v105 t104 ((IntKind.u64.wrap (48 + (Int.tmod a0 10))) % 256) [.int .u8 ((IntKind.u64.wrap (48 + (Int.tmod a0 10))) % 256)] (fun _ => True) (fun _ => False) rfl rfl ?aP (fun _ hk => hk.elim) ?aF ?aO ?aB ?aS ?aL ?_; (case aP => exact rfl); (case aB => exact (by repeat (first | (with_reducible first | exact HB.out | apply below_alloc | apply pw_below_drewN | apply below_drew1) | exact HB.out))); (case aF => exact (fun _ _ => trivial)); (case aO => exact (by (with_reducible repeat (first | apply Kd.R_alloc | apply Kd.R_drewN | apply Kd.R_drew)); exact HO106.out)); (case aS => exact (below_size (by repeat (first | (with_reducible first | exact HB.out | apply below_alloc | apply pw_below_drewN | apply below_drew1) | exact HB.out)))); (case aL => have := LMc6.out; omega); intro v108 w8 ho hb hg hat; rw [← Ny107.out] at ho; have n0_ := Aside0.mk (hb); have n1_ := Aside0.mk (ho); clear HB; clear HO106; have HB := n0_; have HO109 := n1_; clear n0_ n1_; clear ho hb hg hat))
      go_ret
      exact ⟨_, by first | rfl | (simp [errW_none, errW_some] <;> rfl) | (simp [*, errW_none, errW_some] <;> rfl), by (with_reducible repeat (first | apply Kd.R_alloc | apply Kd.R_drewN | apply Kd.R_drew)); exact HO109.out, by repeat (first | (with_reducible first | exact HB.out | apply below_alloc | apply pw_below_drewN | apply below_drew1) | exact HB.out)⟩
    · rw [if_neg c6] at H
      exact absurd H (by simp)

end Go.Proofs.Ytgngpbcbnfmoiaa.PD
end

section
-- PRINTED by print.py (a twelfth state) out of the translation. Not trusted: Lean checks it.
namespace Go.Proofs.Ytgngpbcbnfmoiaa.PD
open Go.RowKit Go.Proofs.YtgngpbcbnfmoiaaW.PrintWords Go.Proofs.YtgngpbcbnfmoiaaW.PrintLast Go.Proofs.YtgngpbcbnfmoiaaW.PrintMore
attribute [local go_sem] max2_int min2_int max_two min_two max_three min_three max_four min_four   -- for this text's walks alone
open Go.Proofs.Ytgngpbcbnfmoiaa.PA Go.Proofs.Ytgngpbcbnfmoiaa.PB
set_option linter.unusedVariables false
set_option linter.unusedSimpArgs false

/-! ### larderref1_Add: function 89 -/
def larderref1_Add.f (a0 : Int) (a1 : Int) : Option (Int × Int) := if a1 > 0 then (if a0 > (wrap64 (9223372036854775807 - a1)) then (some (0, 13)) else (if a1 < 0 then (if a0 < (wrap64 ((-9223372036854775808) - a1)) then (some (0, 13)) else (some (wrap64 (a0 + a1), 0))) else (some (wrap64 (a0 + a1), 0)))) else (if a1 < 0 then (if a0 < (wrap64 ((-9223372036854775808) - a1)) then (some (0, 13)) else (some (wrap64 (a0 + a1), 0))) else (some (wrap64 (a0 + a1), 0)))
set_option maxHeartbeats 8000000 in
set_option maxRecDepth 100000 in
theorem larderref1_Add.calls (a0 : Int) (a1 : Int) (r1 : Int) (r2 : Int) (w : World) (h : larderref1_Add.f a0 a1 = some (r1, r2)) :
    Calls Try.prog 89 #[.int .i64 a0, .int .i64 a1] w fun e w' => e = .returned (.tuple #[.int .i64 r1, .int .i64 r2]) ∧ Drawn0 w w' := by
  have H : (if a1 > 0 then (if a0 > (wrap64 (9223372036854775807 - a1)) then (some (0, 13)) else (if a1 < 0 then (if a0 < (wrap64 ((-9223372036854775808) - a1)) then (some (0, 13)) else (some (wrap64 (a0 + a1), 0))) else (some (wrap64 (a0 + a1), 0)))) else (if a1 < 0 then (if a0 < (wrap64 ((-9223372036854775808) - a1)) then (some (0, 13)) else (some (wrap64 (a0 + a1), 0))) else (some (wrap64 (a0 + a1), 0)))) = some (r1, r2) := h
  clear h
  by_cases c3 : a1 > 0
  · rw [if_pos c3] at H
    have c3b0 : decide (0 < a1) = true := decide_eq_true c3
    clear c3
    by_cases c4 : a0 > (wrap64 (9223372036854775807 - a1))
    · rw [if_pos c4] at H
      have c4b0 : decide ((wrap64 (9223372036854775807 - a1)) < a0) = true := decide_eq_true c4
      clear c4
      simp only [Option.some.injEq, Prod.mk.injEq] at H
      obtain ⟨rfl, rfl⟩ := H
      go_enter Try.func89, Try.ntmps89
      go_wp2
      go_ret2
      exact ⟨by first | rfl | (simp; done) | (simp [*]; done), by repeat (first | exact Drawn0.refl _ | apply Drawn0.step)⟩
    · rw [if_neg c4] at H
      have c4b0 : decide ((wrap64 (9223372036854775807 - a1)) < a0) = false := decide_eq_false c4
      clear c4
      by_cases c5 : a1 < 0
      · rw [if_pos c5] at H
        have c5b0 : decide (a1 < 0) = true := decide_eq_true c5
        clear c5
        by_cases c6 : a0 < (wrap64 ((-9223372036854775808) - a1))
        · rw [if_pos c6] at H
          have c6b0 : decide (a0 < (wrap64 ((-9223372036854775808) - a1))) = true := decide_eq_true c6
          clear c6
          simp only [Option.some.injEq, Prod.mk.injEq] at H
          obtain ⟨rfl, rfl⟩ := H
          go_enter Try.func89, Try.ntmps89
          go_wp2
          go_ret2
          exact ⟨by first | rfl | (simp; done) | (simp [*]; done), by repeat (first | exact Drawn0.refl _ | apply Drawn0.step)⟩
        · rw [if_neg c6] at H
          have c6b0 : decide (a0 < (wrap64 ((-9223372036854775808) - a1))) = false := decide_eq_false c6
          clear c6
          simp only [Option.some.injEq, Prod.mk.injEq] at H
          obtain ⟨rfl, rfl⟩ := H
          go_enter Try.func89, Try.ntmps89
          go_wp2
          go_ret2
          exact ⟨by first | rfl | (simp; done) | (simp [*]; done), by repeat (first | exact Drawn0.refl _ | apply Drawn0.step)⟩
      · rw [if_neg c5] at H
        have c5b0 : decide (a1 < 0) = false := decide_eq_false c5
        clear c5
        simp only [Option.some.injEq, Prod.mk.injEq] at H
        obtain ⟨rfl, rfl⟩ := H
        go_enter Try.func89, Try.ntmps89
        go_wp2
        go_ret2
        exact ⟨by first | rfl | (simp; done) | (simp [*]; done), by repeat (first | exact Drawn0.refl _ | apply Drawn0.step)⟩
  · rw [if_neg c3] at H
    have c3b0 : decide (0 < a1) = false := decide_eq_false c3
    clear c3
    by_cases c7 : a1 < 0
    · rw [if_pos c7] at H
      have c7b0 : decide (a1 < 0) = true := decide_eq_true c7
      clear c7
      by_cases c8 : a0 < (wrap64 ((-9223372036854775808) - a1))
      · rw [if_pos c8] at H
        have c8b0 : decide (a0 < (wrap64 ((-9223372036854775808) - a1))) = true := decide_eq_true c8
        clear c8
        simp only [Option.some.injEq, Prod.mk.injEq] at H
        obtain ⟨rfl, rfl⟩ := H
        go_enter Try.func89, Try.ntmps89
        go_wp2
        go_ret2
        exact ⟨by first | rfl | (simp; done) | (simp [*]; done), by repeat (first | exact Drawn0.refl _ | apply Drawn0.step)⟩
      · rw [if_neg c8] at H
        have c8b0 : decide (a0 < (wrap64 ((-9223372036854775808) - a1))) = false := decide_eq_false c8
        clear c8
        simp only [Option.some.injEq, Prod.mk.injEq] at H
        obtain ⟨rfl, rfl⟩ := H
        go_enter Try.func89, Try.ntmps89
        go_wp2
        go_ret2
        exact ⟨by first | rfl | (simp; done) | (simp [*]; done), by repeat (first | exact Drawn0.refl _ | apply Drawn0.step)⟩
    · rw [if_neg c7] at H
      have c7b0 : decide (a1 < 0) = false := decide_eq_false c7
      clear c7
      simp only [Option.some.injEq, Prod.mk.injEq] at H
      obtain ⟨rfl, rfl⟩ := H
      go_enter Try.func89, Try.ntmps89
      go_wp2
      go_ret2
      exact ⟨by first | rfl | (simp; done) | (simp [*]; done), by repeat (first | exact Drawn0.refl _ | apply Drawn0.step)⟩

end Go.Proofs.Ytgngpbcbnfmoiaa.PD
end

section
-- PRINTED by print.py (a twelfth state) out of the translation. Not trusted: Lean checks it.
namespace Go.Proofs.Ytgngpbcbnfmoiaa.PD
open Go.RowKit Go.Proofs.YtgngpbcbnfmoiaaW.PrintWords Go.Proofs.YtgngpbcbnfmoiaaW.PrintLast Go.Proofs.YtgngpbcbnfmoiaaW.PrintMore
attribute [local go_sem] max2_int min2_int max_two min_two max_three min_three max_four min_four   -- for this text's walks alone
open Go.Proofs.Ytgngpbcbnfmoiaa.PA Go.Proofs.Ytgngpbcbnfmoiaa.PB
set_option linter.unusedVariables false
set_option linter.unusedSimpArgs false

/-! ### larderref1_times: function 85 -/
def larderref1_times.l0 : Nat → Int → Int → Int → Option (Int)
  | 0, _, _, _ => none
  | k + 1, x0, x1, x5 => if x1 > 0 then (if (Int.tmod x1 2) = 1 then (larderref1_times.l0 k (IntKind.u64.wrap (x0 + x0)) (IntKind.u64.wrap (Int.tdiv x1 2)) (IntKind.u64.wrap (x5 + x0))) else (larderref1_times.l0 k (IntKind.u64.wrap (x0 + x0)) (IntKind.u64.wrap (Int.tdiv x1 2)) x5)) else (some x5)
def larderref1_times.f (k : Nat) (a0 : Int) (a1 : Int) : Option (Int) := larderref1_times.l0 k a0 a1 0
theorem larderref1_times.mono_l : ∀ k, (∀ y0 y1 y2, LeO (larderref1_times.l0 k y0 y1 y2) (larderref1_times.l0 (k + 1) y0 y1 y2))
  | 0 => fun _ _ _ r h => by simp [larderref1_times.l0] at h
  | k + 1 => by
    have ih0 := larderref1_times.mono_l k
    · intro y0 y1 y2
      unfold larderref1_times.l0
      repeat' first
      | (with_reducible exact ih0 _ _ _)
      | (with_reducible exact LeO.refl _)
      | (with_reducible exact LeO.none _)
      | (with_reducible refine LeO.ite ?_ ?_)
      | (with_reducible refine LeO.bind ?_ (fun _ => ?_))
      | exact ih0 _ _ _
      | exact LeO.none _
      | refine LeO.ite ?_ ?_
      | refine LeO.bind ?_ (fun _ => ?_)
theorem larderref1_times.mono : ∀ a0 a1 k, LeO (larderref1_times.f k a0 a1) (larderref1_times.f (k + 1) a0 a1) := by
  intro a0 a1 k
  have ih0 := larderref1_times.mono_l k
  unfold larderref1_times.f
  repeat' first
      | (with_reducible exact ih0 _ _ _)
      | (with_reducible exact LeO.refl _)
      | (with_reducible exact LeO.none _)
      | (with_reducible refine LeO.ite ?_ ?_)
      | (with_reducible refine LeO.bind ?_ (fun _ => ?_))
      | exact ih0 _ _ _
      | exact LeO.none _
      | refine LeO.ite ?_ ?_
      | refine LeO.bind ?_ (fun _ => ?_)
set_option maxHeartbeats 8000000 in
set_option maxRecDepth 100000 in
theorem larderref1_times.calls (k : Nat) (a0 : Int) (a1 : Int) (r : Int) (w : World) (h : larderref1_times.f k a0 a1 = some r) :
    Calls Try.prog 85 #[.int .u64 a0, .int .u64 a1] w fun e w' => e = .returned (.int .u64 r) ∧ Drawn0 w w' := by
  have H : (larderref1_times.l0 k a0 a1 0) = some r := h
  clear h
  have H' := Aside0.mk H
  clear H
  go_enter Try.func85, Try.ntmps85
  go_wp2
  go_loopg [0, 1, 5] k (fun kq v0 v1 v5 w' => ∃ (x0_1 : Int) (x1_1 : Int) (x5_1 : Int), v0 = .int .u64 x0_1 ∧ v1 = .int .u64 x1_1 ∧ v5 = .int .u64 x5_1 ∧ Aside0 (larderref1_times.l0 kq x0_1 x1_1 x5_1 = some r) ∧ Aside0 (kq ≤ k) ∧ Drawn0 w w')
  case atStart => exact ⟨(a0), (a1), (0), (by first | rfl | (simp; done) | (simp [*]; done)), (by first | rfl | (simp; done) | (simp [*]; done)), (by first | rfl | (simp; done) | (simp [*]; done)), H', ⟨Nat.le_refl _⟩, by repeat (first | exact Drawn0.refl _ | apply Drawn0.step)⟩
  case round =>
    clear H'
    try clear p2
    obtain ⟨x0_1, x1_1, x5_1, rfl, rfl, rfl, HA, HK1, ⟨m1, rfl⟩⟩ := hrel
    cases gk with
    | zero => exact absurd HA.out (by simp [larderref1_times.l0])
    | succ k1 =>
      have H := HA.out
      clear HA
      simp only [larderref1_times.l0] at H
      by_cases c3 : x1_1 > 0
      · rw [if_pos c3] at H
        have c3b0 : decide (0 < x1_1) = true := decide_eq_true c3
        clear c3
        by_cases c4 : (Int.tmod x1_1 2) = 1
        · rw [if_pos c4] at H
          have c4b0 : ((Int.tmod x1_1 2) == 1) = true := beq_iff_eq.mpr c4
          have c4b1 : ((Int.tmod x1_1 2) != 1) = false := bne_eq_false_iff_eq.mpr c4
          clear c4
          have H' := Aside0.mk H
          clear H
          go_wp2
          go_roundg k1
          case measure => have := HK1.out; omega
          case rel => exact ⟨(IntKind.u64.wrap (x0_1 + x0_1)), (IntKind.u64.wrap (Int.tdiv x1_1 2)), (IntKind.u64.wrap (x5_1 + x0_1)), (by first | rfl | (simp; done) | (simp [*]; done)), (by first | rfl | (simp; done) | (simp [*]; done)), (by first | rfl | (simp; done) | (simp [*]; done)), H', ⟨by have := HK1.out; omega⟩, by repeat (first | exact Drawn0.refl _ | apply Drawn0.step)⟩
        · rw [if_neg c4] at H
          have c4b0 : ((Int.tmod x1_1 2) == 1) = false := beq_eq_false_iff_ne.mpr c4
          have c4b1 : ((Int.tmod x1_1 2) != 1) = true := bne_iff_ne.mpr c4
          have H' := Aside0.mk H
          clear H
          go_wp2
          go_roundg k1
          case measure => have := HK1.out; omega
          case rel => exact ⟨(IntKind.u64.wrap (x0_1 + x0_1)), (IntKind.u64.wrap (Int.tdiv x1_1 2)), (x5_1), (by first | rfl | (simp; done) | (simp [*]; done)), (by first | rfl | (simp; done) | (simp [*]; done)), (by first | rfl | (simp; done) | (simp [*]; done)), H', ⟨by have := HK1.out; omega⟩, by repeat (first | exact Drawn0.refl _ | apply Drawn0.step)⟩
      · rw [if_neg c3] at H
        have c3b0 : decide (0 < x1_1) = false := decide_eq_false c3
        clear c3
        obtain rfl := Option.some.inj H
        go_wp2
        go_ret
        exact ⟨by first | rfl | (simp; done) | (simp [*]; done), by repeat (first | exact Drawn0.refl _ | apply Drawn0.step)⟩

end Go.Proofs.Ytgngpbcbnfmoiaa.PD
end

section
-- PRINTED by print.py (a twelfth state) out of the translation. Not trusted: Lean checks it.
namespace Go.Proofs.Ytgngpbcbnfmoiaa.PD
open Go.RowKit Go.Proofs.YtgngpbcbnfmoiaaW.PrintWords Go.Proofs.YtgngpbcbnfmoiaaW.PrintLast Go.Proofs.YtgngpbcbnfmoiaaW.PrintMore
attribute [local go_sem] max2_int min2_int max_two min_two max_three min_three max_four min_four   -- for this text's walks alone
open Go.Proofs.Ytgngpbcbnfmoiaa.PA Go.Proofs.Ytgngpbcbnfmoiaa.PB
set_option linter.unusedVariables false
set_option linter.unusedSimpArgs false

/-! ### larderref1_Mix: function 66 -/
def larderref1_Mix.f (k : Nat) (a0 : Int) : Option (Int) := (larderref1_times.f k (Go.bits .xor .u64 a0 (a0 / 4294967296)) 15466983567672013453).bind fun t110 => ((larderref1_times.f k (Go.bits .xor .u64 t110 (t110 / 536870912)) 12920666929402377605).bind fun t111 => (some (Go.bits .xor .u64 t111 (t111 / 4294967296))))
theorem larderref1_Mix.mono : ∀ a0 k, LeO (larderref1_Mix.f k a0) (larderref1_Mix.f (k + 1) a0) := by
  intro a0 k
  unfold larderref1_Mix.f
  repeat' first
      | (with_reducible exact larderref1_times.mono _ _ _)
      | (with_reducible exact LeO.refl _)
      | (with_reducible exact LeO.none _)
      | (with_reducible refine LeO.ite ?_ ?_)
      | (with_reducible refine LeO.bind ?_ (fun _ => ?_))
      | exact larderref1_times.mono _ _ _
      | exact LeO.none _
      | refine LeO.ite ?_ ?_
      | refine LeO.bind ?_ (fun _ => ?_)
set_option maxHeartbeats 8000000 in
set_option maxRecDepth 100000 in
theorem larderref1_Mix.calls (k : Nat) (a0 : Int) (r : Int) (w : World) (h : larderref1_Mix.f k a0 = some r) :
    Calls Try.prog 66 #[.int .u64 a0] w fun e w' => e = .returned (.int .u64 r) ∧ Drawn0 w w' := by
  have H : ((larderref1_times.f k (Go.bits .xor .u64 a0 (a0 / 4294967296)) 15466983567672013453).bind fun t110 => ((larderref1_times.f k (Go.bits .xor .u64 t110 (t110 / 536870912)) 12920666929402377605).bind fun t111 => (some (Go.bits .xor .u64 t111 (t111 / 4294967296))))) = some r := h
  clear h
  replace H := Option.bind_eq_some_iff.mp H
  obtain ⟨t110, A20, H⟩ := H
  replace H : ((larderref1_times.f k (Go.bits .xor .u64 t110 (t110 / 536870912)) 12920666929402377605).bind fun t111 => (some (Go.bits .xor .u64 t111 (t111 / 4294967296)))) = some r := H
  have A2 := Aside0.mk A20
  clear A20
  replace H := Option.bind_eq_some_iff.mp H
  obtain ⟨t111, A30, H⟩ := H
  replace H : (some (Go.bits .xor .u64 t111 (t111 / 4294967296))) = some r := H
  have A3 := Aside0.mk A30
  clear A30
  obtain rfl := Option.some.inj H
  go_enter Try.func66, Try.ntmps66
  go_wp2_with (first | ((with_reducible refine gate_callee (f := 85) rfl ?_); refine goesL_ (some 8) rfl rfl Try.func85 (by kernel_rfl) rfl #[.int .u64 (Go.bits .xor .u64 a0 (a0 / 4294967296)), .int .u64 15466983567672013453] rfl (by (try simp only [List.map_toArray, List.map_cons, List.map_nil]); first | done | rfl | (simp only [List.length_drop, List.length_take]; rfl)) ?_; (with_reducible refine (larderref1_times.calls k (Go.bits .xor .u64 a0 (a0 / 4294967296)) 15466983567672013453 t110 _ A2.out).mono ?_); rintro e w' ⟨rfl, ⟨nd, rfl⟩⟩; refine ⟨_, rfl, ?_⟩) | ((with_reducible refine gate_callee (f := 85) rfl ?_); refine goesL_ (some 14) rfl rfl Try.func85 (by kernel_rfl) rfl #[.int .u64 (Go.bits .xor .u64 t110 (t110 / 536870912)), .int .u64 12920666929402377605] rfl (by (try simp only [List.map_toArray, List.map_cons, List.map_nil]); first | done | rfl | (simp only [List.length_drop, List.length_take]; rfl)) ?_; (with_reducible refine (larderref1_times.calls k (Go.bits .xor .u64 t110 (t110 / 536870912)) 12920666929402377605 t111 _ A3.out).mono ?_); rintro e w' ⟨rfl, ⟨nd, rfl⟩⟩; refine ⟨_, rfl, ?_⟩))
  go_ret
  exact ⟨by first | rfl | (simp; done) | (simp [*]; done), by repeat (first | exact Drawn0.refl _ | apply Drawn0.step)⟩

end Go.Proofs.Ytgngpbcbnfmoiaa.PD
end

section
-- PRINTED by print.py (a twelfth state) out of the translation. Not trusted: Lean checks it.
namespace Go.Proofs.Ytgngpbcbnfmoiaa.PD
open Go.RowKit Go.Proofs.YtgngpbcbnfmoiaaW.PrintWords Go.Proofs.YtgngpbcbnfmoiaaW.PrintLast Go.Proofs.YtgngpbcbnfmoiaaW.PrintMore
attribute [local go_sem] max2_int min2_int max_two min_two max_three min_three max_four min_four   -- for this text's walks alone
open Go.Proofs.Ytgngpbcbnfmoiaa.PA Go.Proofs.Ytgngpbcbnfmoiaa.PB
set_option linter.unusedVariables false
set_option linter.unusedSimpArgs false

/-! ### larderref1_Hash: function 55 -/
def larderref1_Hash.l0 : Nat → Int → List Int → Int → Option (Int)
  | 0, _, _, _ => none
  | k + 1, x5, x6, x7 => if x7 < (x6.length : Int) then (if 0 ≤ x7 then ((larderref1_Mix.f k (Go.bits .xor .u64 x5 (rd x6 x7))).bind fun t117 => (larderref1_Hash.l0 k t117 x6 (wrap64 (x7 + 1)))) else (none)) else (some x5)
def larderref1_Hash.f (k : Nat) (a0 : Int) (l1 : List Int) : Option (Int) := (larderref1_Mix.f k (IntKind.u64.wrap (a0 + (IntKind.u64.wrap ((l1.length : Int)))))).bind fun t112 => ((larderref1_Pack.f k l1).bind fun t113 => (larderref1_Hash.l0 k t112 t113 0))
theorem larderref1_Hash.mono_l : ∀ k, (∀ y0 y1 y2, LeO (larderref1_Hash.l0 k y0 y1 y2) (larderref1_Hash.l0 (k + 1) y0 y1 y2))
  | 0 => fun _ _ _ r h => by simp [larderref1_Hash.l0] at h
  | k + 1 => by
    have ih0 := larderref1_Hash.mono_l k
    · intro y0 y1 y2
      unfold larderref1_Hash.l0
      repeat' first
      | (with_reducible exact ih0 _ _ _)
      | (with_reducible exact larderref1_Mix.mono _ _)
      | (with_reducible exact larderref1_Pack.mono _ _)
      | (with_reducible exact LeO.refl _)
      | (with_reducible exact LeO.none _)
      | (with_reducible refine LeO.ite ?_ ?_)
      | (with_reducible refine LeO.bind ?_ (fun _ => ?_))
      | exact ih0 _ _ _
      | exact larderref1_Mix.mono _ _
      | exact larderref1_Pack.mono _ _
      | exact LeO.none _
      | refine LeO.ite ?_ ?_
      | refine LeO.bind ?_ (fun _ => ?_)
theorem larderref1_Hash.mono : ∀ a0 a1 k, LeO (larderref1_Hash.f k a0 a1) (larderref1_Hash.f (k + 1) a0 a1) := by
  intro a0 a1 k
  have ih0 := larderref1_Hash.mono_l k
  unfold larderref1_Hash.f
  repeat' first
      | (with_reducible exact ih0 _ _ _)
      | (with_reducible exact larderref1_Mix.mono _ _)
      | (with_reducible exact larderref1_Pack.mono _ _)
      | (with_reducible exact LeO.refl _)
      | (with_reducible exact LeO.none _)
      | (with_reducible refine LeO.ite ?_ ?_)
      | (with_reducible refine LeO.bind ?_ (fun _ => ?_))
      | exact ih0 _ _ _
      | exact larderref1_Mix.mono _ _
      | exact larderref1_Pack.mono _ _
      | exact LeO.none _
      | refine LeO.ite ?_ ?_
      | refine LeO.bind ?_ (fun _ => ?_)
set_option maxHeartbeats 8000000 in
set_option maxRecDepth 100000 in
theorem larderref1_Hash.calls (k : Nat) (a0 : Int) (A1 : Option Addr) (c1 : Nat) (l1 : List Int) (r : Int) (w : World) (hr1 : Kd.C (Kd.int .u8) w A1 l1.length l1) (hc1 : l1.length ≤ c1) (h : larderref1_Hash.f k a0 l1 = some r) :
    Calls Try.prog 55 #[.int .u64 a0, .slice A1 l1.length c1] w fun e w' => e = .returned (.int .u64 r) ∧ Below w.heap.size w w' := by
  have HR1 := Aside0.mk hr1
  have HC1 := Aside0.mk hc1
  clear hr1 hc1
  have HB := Aside0.mk (Below.refl w.heap.size w)
  have H : ((larderref1_Mix.f k (IntKind.u64.wrap (a0 + (IntKind.u64.wrap ((l1.length : Int)))))).bind fun t112 => ((larderref1_Pack.f k l1).bind fun t113 => (larderref1_Hash.l0 k t112 t113 0))) = some r := h
  clear h
  replace H := Option.bind_eq_some_iff.mp H
  obtain ⟨t112, A30, H⟩ := H
  replace H : ((larderref1_Pack.f k l1).bind fun t113 => (larderref1_Hash.l0 k t112 t113 0)) = some r := H
  have A3 := Aside0.mk A30
  clear A30
  replace H := Option.bind_eq_some_iff.mp H
  obtain ⟨t113, A40, H⟩ := H
  replace H : (larderref1_Hash.l0 k t112 t113 0) = some r := H
  have A4 := Aside0.mk A40
  clear A40
  have H' := Aside0.mk H
  clear H
  go_enter Try.func55, Try.ntmps55
  go_wp2_with (first | ((with_reducible refine gate_callee (f := 66) rfl ?_); refine goesL_ (some 13) rfl rfl Try.func66 (by kernel_rfl) rfl #[.int .u64 (IntKind.u64.wrap (a0 + (IntKind.u64.wrap ((l1.length : Int)))))] rfl (by (try simp only [List.map_toArray, List.map_cons, List.map_nil]); first | done | rfl | (simp only [List.length_drop, List.length_take]; rfl)) ?_; (with_reducible refine (larderref1_Mix.calls k (IntKind.u64.wrap (a0 + (IntKind.u64.wrap ((l1.length : Int))))) t112 _ A3.out).mono ?_); rintro e w' ⟨rfl, ⟨nd, rfl⟩⟩; refine ⟨_, rfl, ?_⟩) | ((with_reducible refine gate_callee (f := 26) rfl ?_); refine goesL_ (some 15) rfl rfl Try.func26 (by kernel_rfl) rfl #[.slice A1 l1.length c1] rfl (by (try simp only [List.map_toArray, List.map_cons, List.map_nil]); first | done | rfl | (simp only [List.length_drop, List.length_take]; rfl)) ?_; (with_reducible refine (larderref1_Pack.calls k _ _ l1 t113 _ ?side1 ?side2 A4.out).mono ?_); (case side1 => repeat (first | exact HR1.out | (with_reducible refine Kd.C_alloc ?_ _) | (with_reducible refine Kd.C_drewN ?_ _) | (with_reducible refine Kd.C_drew ?_))); (case side2 => exact HC1.out); rintro e w5 ⟨v114, rfl, ho0, hb⟩; refine ⟨_, rfl, ?_⟩; have n0_ := Aside0.mk (Kd.R_lower ho0 (below_size (by repeat (first | (with_reducible first | exact HB.out | apply below_alloc | apply pw_below_drewN | apply below_drew1) | exact HB.out)))); have n1_ := Aside0.mk (below_step (by repeat (first | (with_reducible first | exact HB.out | apply below_alloc | apply pw_below_drewN | apply below_drew1) | exact HB.out)) hb); clear HB; have HO115 := n0_; have HB := n1_; clear n0_ n1_; (try clear hb); (try clear hb2); (try clear hk); (try clear hi); (try clear ho0)))
  go_loopg [5, 7] k (fun kq v5 v7 w' => ∃ (x5_1 : Int) (x7_1 : Int), v5 = .int .u64 x5_1 ∧ v7 = .int .i64 x7_1 ∧ Aside0 (larderref1_Hash.l0 kq x5_1 t113 x7_1 = some r) ∧ Aside0 (kq ≤ k) ∧ Aside0 (Kd.R (Kd.int .u64) 23 w' w.heap.size (fun _ => True) v114 t113) ∧ Aside0 (Below w.heap.size w w'))
  case atStart => exact ⟨(t112), (0), (by first | rfl | (simp; done) | (simp [*]; done)), (by first | rfl | (simp; done) | (simp [*]; done)), H', ⟨Nat.le_refl _⟩, ⟨by (with_reducible repeat (first | apply Kd.R_alloc | apply Kd.R_drewN | apply Kd.R_drew)); exact HO115.out⟩, ⟨by repeat (first | (with_reducible first | exact HB.out | apply below_alloc | apply pw_below_drewN | apply below_drew1) | exact HB.out)⟩⟩
  case round =>
    clear H'
    try clear c1
    try clear c2
    try clear p2
    try clear c5
    obtain ⟨x5_1, x7_1, rfl, rfl, HA, HK1, HO_6, HB⟩ := hrel
    cases gk with
    | zero => exact absurd HA.out (by simp [larderref1_Hash.l0])
    | succ k1 =>
      have H := HA.out
      clear HA
      simp only [larderref1_Hash.l0] at H
      by_cases c6 : x7_1 < (t113.length : Int)
      · rw [if_pos c6] at H
        have c6b0 : decide (x7_1 < (t113.length : Int)) = true := decide_eq_true c6
        clear c6
        by_cases c7 : 0 ≤ x7_1
        · rw [if_pos c7] at H
          have c7b0 : decide (0 ≤ x7_1) = true := decide_eq_true c7
          clear c7
          replace H := Option.bind_eq_some_iff.mp H
          obtain ⟨t117, A80, H⟩ := H
          replace H : (larderref1_Hash.l0 k1 t117 t113 (wrap64 (x7_1 + 1))) = some r := H
          have A8 := Aside0.mk A80
          clear A80
          have H' := Aside0.mk H
          clear H
          obtain ⟨Ao9, co9, eo9⟩ := Kd.R_slice HO_6.out
          subst eo9
          have p116 : 0 ≤ (x7_1 : Int) := of_decide_eq_true (by first | (with_reducible assumption) | assumption)
          have q116 : x7_1 < (t113.length : Int) := of_decide_eq_true (by first | (with_reducible assumption) | assumption)
          obtain ⟨ad116, e116, hx116_0⟩ := Kd.at_int (Kd.R_reads' HO_6.out).2.2 x7_1 p116 q116
          cases e116
          replace p116 := eq_true p116
          replace q116 := eq_true q116
          go_wp2_with (first | ((with_reducible refine gate_callee (f := 66) rfl ?_); refine goesL_ (some 28) rfl rfl Try.func66 (by kernel_rfl) rfl #[.int .u64 (Go.bits .xor .u64 x5_1 (rd t113 x7_1))] rfl (by (try simp only [List.map_toArray, List.map_cons, List.map_nil]); first | done | rfl | (simp only [List.length_drop, List.length_take]; rfl)) ?_; (with_reducible refine (larderref1_Mix.calls k1 (Go.bits .xor .u64 x5_1 (rd t113 x7_1)) t117 _ A8.out).mono ?_); rintro e w' ⟨rfl, ⟨nd, rfl⟩⟩; refine ⟨_, rfl, ?_⟩))
          go_roundg k1
          case measure => have := HK1.out; omega
          case rel => exact ⟨(t117), (wrap64 (x7_1 + 1)), (by first | rfl | (simp; done) | (simp [*]; done)), (by first | rfl | (simp; done) | (simp [*]; done)), H', ⟨by have := HK1.out; omega⟩, ⟨by (with_reducible repeat (first | apply Kd.R_alloc | apply Kd.R_drewN | apply Kd.R_drew)); exact HO_6.out⟩, ⟨by repeat (first | (with_reducible first | exact HB.out | apply below_alloc | apply pw_below_drewN | apply below_drew1) | exact HB.out)⟩⟩
        · rw [if_neg c7] at H
          exact absurd H (by simp)
      · rw [if_neg c6] at H
        have c6b0 : decide (x7_1 < (t113.length : Int)) = false := decide_eq_false c6
        clear c6
        obtain rfl := Option.some.inj H
        obtain ⟨Ao10, co10, eo10⟩ := Kd.R_slice HO_6.out
        subst eo10
        go_wp2
        go_ret
        exact ⟨by first | rfl | (simp [errW_none, errW_some] <;> rfl) | (simp [*, errW_none, errW_some] <;> rfl), by repeat (first | (with_reducible first | exact HB.out | apply below_alloc | apply pw_below_drewN | apply below_drew1) | exact HB.out)⟩

end Go.Proofs.Ytgngpbcbnfmoiaa.PD
end

section
-- PRINTED by print.py (a twelfth state) out of the translation. Not trusted: Lean checks it.
namespace Go.Proofs.Ytgngpbcbnfmoiaa.PD
open Go.RowKit Go.Proofs.YtgngpbcbnfmoiaaW.PrintWords Go.Proofs.YtgngpbcbnfmoiaaW.PrintLast Go.Proofs.YtgngpbcbnfmoiaaW.PrintMore
attribute [local go_sem] max2_int min2_int max_two min_two max_three min_three max_four min_four   -- for this text's walks alone
open Go.Proofs.Ytgngpbcbnfmoiaa.PA Go.Proofs.Ytgngpbcbnfmoiaa.PB
set_option linter.unusedVariables false
set_option linter.unusedSimpArgs false

/-! ### larderref1_Sum: function 56 -/
mutual
def larderref1_Sum.l0 : Nat → List Int → Int → Int → Option (Int)
  | 0, _, _, _ => none
  | k + 1, x0, x3, x4 => if x4 < (x0.length : Int) then (if 0 ≤ x4 then (larderref1_Sum.l1 k x0 x3 x4 (IntKind.u64.wrap (rd x0 x4)) 0) else (none)) else (some x3)
def larderref1_Sum.l1 : Nat → List Int → Int → Int → Int → Int → Option (Int)
  | 0, _, _, _, _, _ => none
  | k + 1, x0, x3, x4, x5, x6 => if x6 < 8 then (if (Go.bits .xor .u64 (x3 / 9223372036854775808) (Go.bits .and .u64 (x5 / 128) 1)) = 1 then (larderref1_Sum.l1 k x0 (Go.bits .xor .u64 (IntKind.u64.wrap (x3 * 2)) 4823603603198064275) x4 (IntKind.u64.wrap (x5 * 2)) (wrap64 (x6 + 1))) else (larderref1_Sum.l1 k x0 (IntKind.u64.wrap (x3 * 2)) x4 (IntKind.u64.wrap (x5 * 2)) (wrap64 (x6 + 1)))) else (larderref1_Sum.l0 k x0 x3 (wrap64 (x4 + 1)))
end
def larderref1_Sum.f (k : Nat) (l0 : List Int) : Option (Int) := larderref1_Sum.l0 k l0 18446744073709551615 0
theorem larderref1_Sum.mono_l : ∀ k, (∀ y0 y1 y2, LeO (larderref1_Sum.l0 k y0 y1 y2) (larderref1_Sum.l0 (k + 1) y0 y1 y2)) ∧ (∀ y0 y1 y2 y3 y4, LeO (larderref1_Sum.l1 k y0 y1 y2 y3 y4) (larderref1_Sum.l1 (k + 1) y0 y1 y2 y3 y4))
  | 0 => ⟨fun _ _ _ r h => by simp [larderref1_Sum.l0] at h, fun _ _ _ _ _ r h => by simp [larderref1_Sum.l1] at h⟩
  | k + 1 => by
    obtain ⟨ih0, ih1⟩ := larderref1_Sum.mono_l k
    refine ⟨?_, ?_⟩
    · intro y0 y1 y2
      unfold larderref1_Sum.l0
      repeat' first
      | (with_reducible exact ih0 _ _ _)
      | (with_reducible exact ih1 _ _ _ _ _)
      | (with_reducible exact LeO.refl _)
      | (with_reducible exact LeO.none _)
      | (with_reducible refine LeO.ite ?_ ?_)
      | (with_reducible refine LeO.bind ?_ (fun _ => ?_))
      | exact ih0 _ _ _
      | exact ih1 _ _ _ _ _
      | exact LeO.none _
      | refine LeO.ite ?_ ?_
      | refine LeO.bind ?_ (fun _ => ?_)
    · intro y0 y1 y2 y3 y4
      unfold larderref1_Sum.l1
      repeat' first
      | (with_reducible exact ih0 _ _ _)
      | (with_reducible exact ih1 _ _ _ _ _)
      | (with_reducible exact LeO.refl _)
      | (with_reducible exact LeO.none _)
      | (with_reducible refine LeO.ite ?_ ?_)
      | (with_reducible refine LeO.bind ?_ (fun _ => ?_))
      | exact ih0 _ _ _
      | exact ih1 _ _ _ _ _
      | exact LeO.none _
      | refine LeO.ite ?_ ?_
      | refine LeO.bind ?_ (fun _ => ?_)
theorem larderref1_Sum.mono : ∀ a0 k, LeO (larderref1_Sum.f k a0) (larderref1_Sum.f (k + 1) a0) := by
  intro a0 k
  obtain ⟨ih0, ih1⟩ := larderref1_Sum.mono_l k
  unfold larderref1_Sum.f
  repeat' first
      | (with_reducible exact ih0 _ _ _)
      | (with_reducible exact ih1 _ _ _ _ _)
      | (with_reducible exact LeO.refl _)
      | (with_reducible exact LeO.none _)
      | (with_reducible refine LeO.ite ?_ ?_)
      | (with_reducible refine LeO.bind ?_ (fun _ => ?_))
      | exact ih0 _ _ _
      | exact ih1 _ _ _ _ _
      | exact LeO.none _
      | refine LeO.ite ?_ ?_
      | refine LeO.bind ?_ (fun _ => ?_)
set_option maxHeartbeats 8000000 in
set_option maxRecDepth 100000 in
theorem larderref1_Sum.calls (k : Nat) (A0 : Option Addr) (c0 : Nat) (l0 : List Int) (r : Int) (w : World) (hr0 : Kd.C (Kd.int .u8) w A0 l0.length l0) (hc0 : l0.length ≤ c0) (h : larderref1_Sum.f k l0 = some r) :
    Calls Try.prog 56 #[.slice A0 l0.length c0] w fun e w' => e = .returned (.int .u64 r) ∧ Drawn0 w w' := by
  have HR0 := Aside0.mk hr0
  have HC0 := Aside0.mk hc0
  clear hr0 hc0
  have H : (larderref1_Sum.l0 k l0 18446744073709551615 0) = some r := h
  clear h
  have H' := Aside0.mk H
  clear H
  go_enter Try.func56, Try.ntmps56
  go_wp2
  go_loopg [3, 4] k (fun kq v3 v4 w' => ∃ (x3_1 : Int) (x4_1 : Int), v3 = .int .u64 x3_1 ∧ v4 = .int .i64 x4_1 ∧ Aside0 (larderref1_Sum.l0 kq l0 x3_1 x4_1 = some r) ∧ Aside0 (kq ≤ k) ∧ Drawn0 w w')
  case atStart => exact ⟨(18446744073709551615), (0), (by first | rfl | (simp; done) | (simp [*]; done)), (by first | rfl | (simp; done) | (simp [*]; done)), H', ⟨Nat.le_refl _⟩, by repeat (first | exact Drawn0.refl _ | apply Drawn0.step)⟩
  case round =>
    clear H'
    obtain ⟨x3_1, x4_1, rfl, rfl, HA, HK1, ⟨m1, rfl⟩⟩ := hrel
    cases gk with
    | zero => exact absurd HA.out (by simp [larderref1_Sum.l0])
    | succ k1 =>
      have H := HA.out
      clear HA
      simp only [larderref1_Sum.l0] at H
      by_cases c2 : x4_1 < (l0.length : Int)
      · rw [if_pos c2] at H
        have c2b0 : decide (x4_1 < (l0.length : Int)) = true := decide_eq_true c2
        clear c2
        by_cases c3 : 0 ≤ x4_1
        · rw [if_pos c3] at H
          have c3b0 : decide (0 ≤ x4_1) = true := decide_eq_true c3
          clear c3
          have H' := Aside0.mk H
          clear H
          have p118 : 0 ≤ (x4_1 : Int) := of_decide_eq_true (by first | (with_reducible assumption) | assumption)
          have q118 : x4_1 < (l0.length : Int) := of_decide_eq_true (by first | (with_reducible assumption) | assumption)
          obtain ⟨ad118, e118, hx118_0⟩ := Kd.at_int HR0.out x4_1 p118 q118
          cases e118
          replace p118 := eq_true p118
          replace q118 := eq_true q118
          go_wp2
          go_loopg [3, 5, 6] k1 (fun kq v3 v5 v6 w' => ∃ (x3_2 : Int) (x5_2 : Int) (x6_2 : Int), v3 = .int .u64 x3_2 ∧ v5 = .int .u64 x5_2 ∧ v6 = .int .i64 x6_2 ∧ Aside0 (larderref1_Sum.l1 kq l0 x3_2 x4_1 x5_2 x6_2 = some r) ∧ Aside0 (kq ≤ k1) ∧ Drawn0 w w')
          case atStart => exact ⟨(x3_1), (IntKind.u64.wrap (rd l0 x4_1)), (0), (by first | rfl | (simp; done) | (simp [*]; done)), (by first | rfl | (simp; done) | (simp [*]; done)), (by first | rfl | (simp; done) | (simp [*]; done)), H', ⟨Nat.le_refl _⟩, by repeat (first | exact Drawn0.refl _ | apply Drawn0.step)⟩
          case round =>
            clear H'
            try clear p1
            try clear q1
            try clear hx1
            try clear c2
            try clear c2b0
            try clear p2
            try clear c3
            try clear c3b0
            try clear hx118_0
            try clear p118
            try clear q118
            obtain ⟨x3_2, x5_2, x6_2, rfl, rfl, rfl, HA, HK2, ⟨m2, rfl⟩⟩ := hrel
            cases gk with
            | zero => exact absurd HA.out (by simp [larderref1_Sum.l1])
            | succ k2 =>
              have H := HA.out
              clear HA
              simp only [larderref1_Sum.l1] at H
              by_cases c4 : x6_2 < 8
              · rw [if_pos c4] at H
                have c4b0 : decide (x6_2 < 8) = true := decide_eq_true c4
                clear c4
                by_cases c5 : (Go.bits .xor .u64 (x3_2 / 9223372036854775808) (Go.bits .and .u64 (x5_2 / 128) 1)) = 1
                · rw [if_pos c5] at H
                  have c5b0 : ((Go.bits .xor .u64 (x3_2 / 9223372036854775808) (Go.bits .and .u64 (x5_2 / 128) 1)) == 1) = true := beq_iff_eq.mpr c5
                  have c5b1 : ((Go.bits .xor .u64 (x3_2 / 9223372036854775808) (Go.bits .and .u64 (x5_2 / 128) 1)) != 1) = false := bne_eq_false_iff_eq.mpr c5
                  clear c5
                  have H' := Aside0.mk H
                  clear H
                  go_wp2
                  go_roundg k2
                  case measure => have := HK1.out; have := HK2.out; omega
                  case rel => exact ⟨(Go.bits .xor .u64 (IntKind.u64.wrap (x3_2 * 2)) 4823603603198064275), (IntKind.u64.wrap (x5_2 * 2)), (wrap64 (x6_2 + 1)), (by first | rfl | (simp; done) | (simp [*]; done)), (by first | rfl | (simp; done) | (simp [*]; done)), (by first | rfl | (simp; done) | (simp [*]; done)), H', ⟨by have := HK1.out; have := HK2.out; omega⟩, by repeat (first | exact Drawn0.refl _ | apply Drawn0.step)⟩
                · rw [if_neg c5] at H
                  have c5b0 : ((Go.bits .xor .u64 (x3_2 / 9223372036854775808) (Go.bits .and .u64 (x5_2 / 128) 1)) == 1) = false := beq_eq_false_iff_ne.mpr c5
                  have c5b1 : ((Go.bits .xor .u64 (x3_2 / 9223372036854775808) (Go.bits .and .u64 (x5_2 / 128) 1)) != 1) = true := bne_iff_ne.mpr c5
                  have H' := Aside0.mk H
                  clear H
                  go_wp2
                  go_roundg k2
                  case measure => have := HK1.out; have := HK2.out; omega
                  case rel => exact ⟨(IntKind.u64.wrap (x3_2 * 2)), (IntKind.u64.wrap (x5_2 * 2)), (wrap64 (x6_2 + 1)), (by first | rfl | (simp; done) | (simp [*]; done)), (by first | rfl | (simp; done) | (simp [*]; done)), (by first | rfl | (simp; done) | (simp [*]; done)), H', ⟨by have := HK1.out; have := HK2.out; omega⟩, by repeat (first | exact Drawn0.refl _ | apply Drawn0.step)⟩
              · rw [if_neg c4] at H
                have c4b0 : decide (x6_2 < 8) = false := decide_eq_false c4
                clear c4
                have H' := Aside0.mk H
                clear H
                go_wp2
                go_roundg k2
                case measure => have := HK1.out; have := HK2.out; omega
                case rel => exact ⟨(x3_2), (wrap64 (x4_1 + 1)), (by first | rfl | (simp; done) | (simp [*]; done)), (by first | rfl | (simp; done) | (simp [*]; done)), H', ⟨by have := HK1.out; have := HK2.out; omega⟩, by repeat (first | exact Drawn0.refl _ | apply Drawn0.step)⟩
        · rw [if_neg c3] at H
          exact absurd H (by simp)
      · rw [if_neg c2] at H
        have c2b0 : decide (x4_1 < (l0.length : Int)) = false := decide_eq_false c2
        clear c2
        obtain rfl := Option.some.inj H
        go_wp2
        go_ret
        exact ⟨by first | rfl | (simp; done) | (simp [*]; done), by repeat (first | exact Drawn0.refl _ | apply Drawn0.step)⟩

end Go.Proofs.Ytgngpbcbnfmoiaa.PD
end

section
-- PRINTED by print.py (a twelfth state) out of the translation. Not trusted: Lean checks it.
namespace Go.Proofs.Ytgngpbcbnfmoiaa.PD
open Go.RowKit Go.Proofs.YtgngpbcbnfmoiaaW.PrintWords Go.Proofs.YtgngpbcbnfmoiaaW.PrintLast Go.Proofs.YtgngpbcbnfmoiaaW.PrintMore
attribute [local go_sem] max2_int min2_int max_two min_two max_three min_three max_four min_four   -- for this text's walks alone
open Go.Proofs.Ytgngpbcbnfmoiaa.PA Go.Proofs.Ytgngpbcbnfmoiaa.PB
set_option linter.unusedVariables false
set_option linter.unusedSimpArgs false

/-! ### larderref1_Head: function 86 -/
def larderref1_Head.f (a0 : Int) (a1 : Int) (a2 : Int) : Option (Int × Int) := if a0 < 1 then (some (0, 10)) else (if a0 > 255 then (some (0, 10)) else (if a1 < 0 then (some (0, 10)) else (if a1 > 1048576 then (some (0, 10)) else (if a2 < 0 then (some (0, 10)) else (if a2 > 1048576 then (some (0, 10)) else (some (IntKind.u64.wrap ((IntKind.u64.wrap ((IntKind.u64.wrap (a0)) + (IntKind.u64.wrap (256 * (IntKind.u64.wrap (a1)))))) + (IntKind.u64.wrap (4294967296 * (IntKind.u64.wrap (a2))))), 0)))))))
set_option maxHeartbeats 8000000 in
set_option maxRecDepth 100000 in
theorem larderref1_Head.calls (a0 : Int) (a1 : Int) (a2 : Int) (r1 : Int) (r2 : Int) (w : World) (h : larderref1_Head.f a0 a1 a2 = some (r1, r2)) :
    Calls Try.prog 86 #[.int .i64 a0, .int .i64 a1, .int .i64 a2] w fun e w' => e = .returned (.tuple #[.int .u64 r1, .int .i64 r2]) ∧ Drawn0 w w' := by
  have H : (if a0 < 1 then (some (0, 10)) else (if a0 > 255 then (some (0, 10)) else (if a1 < 0 then (some (0, 10)) else (if a1 > 1048576 then (some (0, 10)) else (if a2 < 0 then (some (0, 10)) else (if a2 > 1048576 then (some (0, 10)) else (some (IntKind.u64.wrap ((IntKind.u64.wrap ((IntKind.u64.wrap (a0)) + (IntKind.u64.wrap (256 * (IntKind.u64.wrap (a1)))))) + (IntKind.u64.wrap (4294967296 * (IntKind.u64.wrap (a2))))), 0)))))))) = some (r1, r2) := h
  clear h
  by_cases c4 : a0 < 1
  · rw [if_pos c4] at H
    have c4b0 : decide (a0 < 1) = true := decide_eq_true c4
    clear c4
    simp only [Option.some.injEq, Prod.mk.injEq] at H
    obtain ⟨rfl, rfl⟩ := H
    go_enter Try.func86, Try.ntmps86
    go_wp2
    go_ret2
    exact ⟨by first | rfl | (simp; done) | (simp [*]; done), by repeat (first | exact Drawn0.refl _ | apply Drawn0.step)⟩
  · rw [if_neg c4] at H
    have c4b0 : decide (a0 < 1) = false := decide_eq_false c4
    clear c4
    by_cases c5 : a0 > 255
    · rw [if_pos c5] at H
      have c5b0 : decide (255 < a0) = true := decide_eq_true c5
      clear c5
      simp only [Option.some.injEq, Prod.mk.injEq] at H
      obtain ⟨rfl, rfl⟩ := H
      go_enter Try.func86, Try.ntmps86
      go_wp2
      go_ret2
      exact ⟨by first | rfl | (simp; done) | (simp [*]; done), by repeat (first | exact Drawn0.refl _ | apply Drawn0.step)⟩
    · rw [if_neg c5] at H
      have c5b0 : decide (255 < a0) = false := decide_eq_false c5
      clear c5
      by_cases c6 : a1 < 0
      · rw [if_pos c6] at H
        have c6b0 : decide (a1 < 0) = true := decide_eq_true c6
        clear c6
        simp only [Option.some.injEq, Prod.mk.injEq] at H
        obtain ⟨rfl, rfl⟩ := H
        go_enter Try.func86, Try.ntmps86
        go_wp2
        go_ret2
        exact ⟨by first | rfl | (simp; done) | (simp [*]; done), by repeat (first | exact Drawn0.refl _ | apply Drawn0.step)⟩
      · rw [if_neg c6] at H
        have c6b0 : decide (a1 < 0) = false := decide_eq_false c6
        clear c6
        by_cases c7 : a1 > 1048576
        · rw [if_pos c7] at H
          have c7b0 : decide (1048576 < a1) = true := decide_eq_true c7
          clear c7
          simp only [Option.some.injEq, Prod.mk.injEq] at H
          obtain ⟨rfl, rfl⟩ := H
          go_enter Try.func86, Try.ntmps86
          go_wp2
          go_ret2
          exact ⟨by first | rfl | (simp; done) | (simp [*]; done), by repeat (first | exact Drawn0.refl _ | apply Drawn0.step)⟩
        · rw [if_neg c7] at H
          have c7b0 : decide (1048576 < a1) = false := decide_eq_false c7
          clear c7
          by_cases c8 : a2 < 0
          · rw [if_pos c8] at H
            have c8b0 : decide (a2 < 0) = true := decide_eq_true c8
            clear c8
            simp only [Option.some.injEq, Prod.mk.injEq] at H
            obtain ⟨rfl, rfl⟩ := H
            go_enter Try.func86, Try.ntmps86
            go_wp2
            go_ret2
            exact ⟨by first | rfl | (simp; done) | (simp [*]; done), by repeat (first | exact Drawn0.refl _ | apply Drawn0.step)⟩
          · rw [if_neg c8] at H
            have c8b0 : decide (a2 < 0) = false := decide_eq_false c8
            clear c8
            by_cases c9 : a2 > 1048576
            · rw [if_pos c9] at H
              have c9b0 : decide (1048576 < a2) = true := decide_eq_true c9
              clear c9
              simp only [Option.some.injEq, Prod.mk.injEq] at H
              obtain ⟨rfl, rfl⟩ := H
              go_enter Try.func86, Try.ntmps86
              go_wp2
              go_ret2
              exact ⟨by first | rfl | (simp; done) | (simp [*]; done), by repeat (first | exact Drawn0.refl _ | apply Drawn0.step)⟩
            · rw [if_neg c9] at H
              have c9b0 : decide (1048576 < a2) = false := decide_eq_false c9
              clear c9
              simp only [Option.some.injEq, Prod.mk.injEq] at H
              obtain ⟨rfl, rfl⟩ := H
              go_enter Try.func86, Try.ntmps86
              go_wp2
              go_ret2
              exact ⟨by first | rfl | (simp; done) | (simp [*]; done), by repeat (first | exact Drawn0.refl _ | apply Drawn0.step)⟩

end Go.Proofs.Ytgngpbcbnfmoiaa.PD
end

section
-- PRINTED by print.py (a twelfth state) out of the translation. Not trusted: Lean checks it.
namespace Go.Proofs.Ytgngpbcbnfmoiaa.PD
open Go.RowKit Go.Proofs.YtgngpbcbnfmoiaaW.PrintWords Go.Proofs.YtgngpbcbnfmoiaaW.PrintLast Go.Proofs.YtgngpbcbnfmoiaaW.PrintMore
attribute [local go_sem] max2_int min2_int max_two min_two max_three min_three max_four min_four   -- for this text's walks alone
open Go.Proofs.Ytgngpbcbnfmoiaa.PA Go.Proofs.Ytgngpbcbnfmoiaa.PB
set_option linter.unusedVariables false
set_option linter.unusedSimpArgs false

/-! ### larderref1_Split: function 87 -/
def larderref1_Split.f (a0 : Int) : Option (Int × Int × Int × Int) := (larderref1_Head.f (wrap64 (Int.tmod a0 256)) (wrap64 (Int.tmod (IntKind.u64.wrap (Int.tdiv a0 256)) 16777216)) (wrap64 (Int.tmod (IntKind.u64.wrap (Int.tdiv a0 4294967296)) 16777216))).bind fun bt119 => (if bt119.2 = 0 then (if bt119.1 = a0 then (some (wrap64 (Int.tmod a0 256), wrap64 (Int.tmod (IntKind.u64.wrap (Int.tdiv a0 256)) 16777216), wrap64 (Int.tmod (IntKind.u64.wrap (Int.tdiv a0 4294967296)) 16777216), 0)) else (some (0, 0, 0, 10))) else (some (0, 0, 0, 10)))
set_option maxHeartbeats 8000000 in
set_option maxRecDepth 100000 in
theorem larderref1_Split.calls (a0 : Int) (r1 : Int) (r2 : Int) (r3 : Int) (r4 : Int) (w : World) (h : larderref1_Split.f a0 = some (r1, r2, r3, r4)) :
    Calls Try.prog 87 #[.int .u64 a0] w fun e w' => e = .returned (.tuple #[.int .i64 r1, .int .i64 r2, .int .i64 r3, .int .i64 r4]) ∧ Drawn0 w w' := by
  have H : ((larderref1_Head.f (wrap64 (Int.tmod a0 256)) (wrap64 (Int.tmod (IntKind.u64.wrap (Int.tdiv a0 256)) 16777216)) (wrap64 (Int.tmod (IntKind.u64.wrap (Int.tdiv a0 4294967296)) 16777216))).bind fun bt119 => (if bt119.2 = 0 then (if bt119.1 = a0 then (some (wrap64 (Int.tmod a0 256), wrap64 (Int.tmod (IntKind.u64.wrap (Int.tdiv a0 256)) 16777216), wrap64 (Int.tmod (IntKind.u64.wrap (Int.tdiv a0 4294967296)) 16777216), 0)) else (some (0, 0, 0, 10))) else (some (0, 0, 0, 10)))) = some (r1, r2, r3, r4) := h
  clear h
  replace H := Option.bind_eq_some_iff.mp H
  obtain ⟨⟨t119, t120⟩, A20, H⟩ := H
  replace H : (if t120 = 0 then (if t119 = a0 then (some (wrap64 (Int.tmod a0 256), wrap64 (Int.tmod (IntKind.u64.wrap (Int.tdiv a0 256)) 16777216), wrap64 (Int.tmod (IntKind.u64.wrap (Int.tdiv a0 4294967296)) 16777216), 0)) else (some (0, 0, 0, 10))) else (some (0, 0, 0, 10))) = some (r1, r2, r3, r4) := H
  have A2 := Aside0.mk A20
  clear A20
  by_cases c3 : t120 = 0
  · rw [if_pos c3] at H
    have c3b0 : (t120 == 0) = true := beq_iff_eq.mpr c3
    have c3b1 : (t120 != 0) = false := bne_eq_false_iff_eq.mpr c3
    clear c3
    by_cases c4 : t119 = a0
    · rw [if_pos c4] at H
      have c4b0 : (t119 == a0) = true := beq_iff_eq.mpr c4
      have c4b1 : (t119 != a0) = false := bne_eq_false_iff_eq.mpr c4
      clear c4
      simp only [Option.some.injEq, Prod.mk.injEq] at H
      obtain ⟨rfl, rfl, rfl, rfl⟩ := H
      go_enter Try.func87, Try.ntmps87
      go_wp2_with (first | ((with_reducible refine gate_callee (f := 86) rfl ?_); refine goesL_ (some 26) rfl rfl Try.func86 (by kernel_rfl) rfl #[.int .i64 (wrap64 (Int.tmod a0 256)), .int .i64 (wrap64 (Int.tmod (IntKind.u64.wrap (Int.tdiv a0 256)) 16777216)), .int .i64 (wrap64 (Int.tmod (IntKind.u64.wrap (Int.tdiv a0 4294967296)) 16777216))] rfl (by (try simp only [List.map_toArray, List.map_cons, List.map_nil]); first | done | rfl | (simp only [List.length_drop, List.length_take]; rfl)) ?_; (with_reducible refine (larderref1_Head.calls (wrap64 (Int.tmod a0 256)) (wrap64 (Int.tmod (IntKind.u64.wrap (Int.tdiv a0 256)) 16777216)) (wrap64 (Int.tmod (IntKind.u64.wrap (Int.tdiv a0 4294967296)) 16777216)) t119 t120 _ A2.out).mono ?_); rintro e w' ⟨rfl, ⟨nd, rfl⟩⟩; refine ⟨_, rfl, ?_⟩))
      refine bodyPost_ret (results_list (rs := [.tmp 2, .tmp 3, .tmp 4, .tmp 5]) rfl (by simp) (.tmp (.tmp (.tmp (.tmp .nil))))) rfl ?_
      exact ⟨by first | rfl | (simp; done) | (simp [*]; done), by repeat (first | exact Drawn0.refl _ | apply Drawn0.step)⟩
    · rw [if_neg c4] at H
      have c4b0 : (t119 == a0) = false := beq_eq_false_iff_ne.mpr c4
      have c4b1 : (t119 != a0) = true := bne_iff_ne.mpr c4
      simp only [Option.some.injEq, Prod.mk.injEq] at H
      obtain ⟨rfl, rfl, rfl, rfl⟩ := H
      go_enter Try.func87, Try.ntmps87
      go_wp2_with (first | ((with_reducible refine gate_callee (f := 86) rfl ?_); refine goesL_ (some 26) rfl rfl Try.func86 (by kernel_rfl) rfl #[.int .i64 (wrap64 (Int.tmod a0 256)), .int .i64 (wrap64 (Int.tmod (IntKind.u64.wrap (Int.tdiv a0 256)) 16777216)), .int .i64 (wrap64 (Int.tmod (IntKind.u64.wrap (Int.tdiv a0 4294967296)) 16777216))] rfl (by (try simp only [List.map_toArray, List.map_cons, List.map_nil]); first | done | rfl | (simp only [List.length_drop, List.length_take]; rfl)) ?_; (with_reducible refine (larderref1_Head.calls (wrap64 (Int.tmod a0 256)) (wrap64 (Int.tmod (IntKind.u64.wrap (Int.tdiv a0 256)) 16777216)) (wrap64 (Int.tmod (IntKind.u64.wrap (Int.tdiv a0 4294967296)) 16777216)) t119 t120 _ A2.out).mono ?_); rintro e w' ⟨rfl, ⟨nd, rfl⟩⟩; refine ⟨_, rfl, ?_⟩))
      refine bodyPost_ret (results_list (rs := [.tmp 2, .tmp 3, .tmp 4, .tmp 5]) rfl (by simp) (.tmp (.tmp (.tmp (.tmp .nil))))) rfl ?_
      exact ⟨by first | rfl | (simp; done) | (simp [*]; done), by repeat (first | exact Drawn0.refl _ | apply Drawn0.step)⟩
  · rw [if_neg c3] at H
    have c3b0 : (t120 == 0) = false := beq_eq_false_iff_ne.mpr c3
    have c3b1 : (t120 != 0) = true := bne_iff_ne.mpr c3
    simp only [Option.some.injEq, Prod.mk.injEq] at H
    obtain ⟨rfl, rfl, rfl, rfl⟩ := H
    go_enter Try.func87, Try.ntmps87
    go_wp2_with (first | ((with_reducible refine gate_callee (f := 86) rfl ?_); refine goesL_ (some 26) rfl rfl Try.func86 (by kernel_rfl) rfl #[.int .i64 (wrap64 (Int.tmod a0 256)), .int .i64 (wrap64 (Int.tmod (IntKind.u64.wrap (Int.tdiv a0 256)) 16777216)), .int .i64 (wrap64 (Int.tmod (IntKind.u64.wrap (Int.tdiv a0 4294967296)) 16777216))] rfl (by (try simp only [List.map_toArray, List.map_cons, List.map_nil]); first | done | rfl | (simp only [List.length_drop, List.length_take]; rfl)) ?_; (with_reducible refine (larderref1_Head.calls (wrap64 (Int.tmod a0 256)) (wrap64 (Int.tmod (IntKind.u64.wrap (Int.tdiv a0 256)) 16777216)) (wrap64 (Int.tmod (IntKind.u64.wrap (Int.tdiv a0 4294967296)) 16777216)) t119 t120 _ A2.out).mono ?_); rintro e w' ⟨rfl, ⟨nd, rfl⟩⟩; refine ⟨_, rfl, ?_⟩))
    refine bodyPost_ret (results_list (rs := [.tmp 2, .tmp 3, .tmp 4, .tmp 5]) rfl (by simp) (.tmp (.tmp (.tmp (.tmp .nil))))) rfl ?_
    exact ⟨by first | rfl | (simp; done) | (simp [*]; done), by repeat (first | exact Drawn0.refl _ | apply Drawn0.step)⟩

end Go.Proofs.Ytgngpbcbnfmoiaa.PD
end

section
-- PRINTED by print.py (a twelfth state) out of the translation. Not trusted: Lean checks it.
namespace Go.Proofs.Ytgngpbcbnfmoiaa.PD
open Go.RowKit Go.Proofs.YtgngpbcbnfmoiaaW.PrintWords Go.Proofs.YtgngpbcbnfmoiaaW.PrintLast Go.Proofs.YtgngpbcbnfmoiaaW.PrintMore
attribute [local go_sem] max2_int min2_int max_two min_two max_three min_three max_four min_four   -- for this text's walks alone
open Go.Proofs.Ytgngpbcbnfmoiaa.PA Go.Proofs.Ytgngpbcbnfmoiaa.PB
set_option linter.unusedVariables false
set_option linter.unusedSimpArgs false

/-! ### larderlaw1_headers: function 67 -/
def larderlaw1_headers.f (a0_0 : Int) (a0_1 : Int) (a0_2 : Int) (a0_3 : Int) (a0_4 : Int) (a0_5 : Int) (a0_6 : Int) (l0_7 : List Int) (l0_8 : List Int) : Option (Bool) := if a0_0 = 1 then ((word_Head.f a0_1 a0_2 a0_3).bind fun bt122 => ((larderref1_Head.f a0_1 a0_2 a0_3).bind fun bt124 => (if bt122.1 = bt124.1 then ((larderlaw1_num.f bt122.2).bind fun t126 => (some (t126 == bt124.2))) else (some false)))) else ((word_Split.f a0_6).bind fun bt127 => ((larderref1_Split.f a0_6).bind fun bt131 => (if bt127.1 = bt131.1 then (if bt127.2.1 = bt131.2.1 then (if bt127.2.2.1 = bt131.2.2.1 then ((larderlaw1_num.f bt127.2.2.2).bind fun t135 => (some (t135 == bt131.2.2.2))) else (some false)) else (some false)) else (some false))))
set_option maxHeartbeats 8000000 in
set_option maxRecDepth 100000 in
theorem larderlaw1_headers.calls (a0_0 : Int) (a0_1 : Int) (a0_2 : Int) (a0_3 : Int) (a0_4 : Int) (a0_5 : Int) (a0_6 : Int) (A0_7 : Option Addr) (c0_7 : Nat) (l0_7 : List Int) (A0_8 : Option Addr) (c0_8 : Nat) (l0_8 : List Int) (r : Bool) (w : World) (hr0_7 : Kd.C (Kd.int .u8) w A0_7 l0_7.length l0_7) (hc0_7 : l0_7.length ≤ c0_7) (hr0_8 : Kd.C (Kd.int .u64) w A0_8 l0_8.length l0_8) (hc0_8 : l0_8.length ≤ c0_8) (h : larderlaw1_headers.f a0_0 a0_1 a0_2 a0_3 a0_4 a0_5 a0_6 l0_7 l0_8 = some r) :
    Calls Try.prog 67 #[.agg #[.int .i64 a0_0, .int .i64 a0_1, .int .i64 a0_2, .int .i64 a0_3, .int .i64 a0_4, .int .i64 a0_5, .int .u64 a0_6, .slice A0_7 l0_7.length c0_7, .slice A0_8 l0_8.length c0_8]] w fun e w' => e = .returned (.bool r) ∧ Below w.heap.size w w' := by
  have hu71 := Try.underlying71
  have HR0_7 := Aside0.mk hr0_7
  have HC0_7 := Aside0.mk hc0_7
  clear hr0_7 hc0_7
  have HR0_8 := Aside0.mk hr0_8
  have HC0_8 := Aside0.mk hc0_8
  clear hr0_8 hc0_8
  have HB := Aside0.mk (Below.refl w.heap.size w)
  have H : (if a0_0 = 1 then ((word_Head.f a0_1 a0_2 a0_3).bind fun bt122 => ((larderref1_Head.f a0_1 a0_2 a0_3).bind fun bt124 => (if bt122.1 = bt124.1 then ((larderlaw1_num.f bt122.2).bind fun t126 => (some (t126 == bt124.2))) else (some false)))) else ((word_Split.f a0_6).bind fun bt127 => ((larderref1_Split.f a0_6).bind fun bt131 => (if bt127.1 = bt131.1 then (if bt127.2.1 = bt131.2.1 then (if bt127.2.2.1 = bt131.2.2.1 then ((larderlaw1_num.f bt127.2.2.2).bind fun t135 => (some (t135 == bt131.2.2.2))) else (some false)) else (some false)) else (some false))))) = some r := h
  clear h
  by_cases c2 : a0_0 = 1
  · rw [if_pos c2] at H
    have c2b0 : (a0_0 == 1) = true := beq_iff_eq.mpr c2
    have c2b1 : (a0_0 != 1) = false := bne_eq_false_iff_eq.mpr c2
    clear c2
    replace H := Option.bind_eq_some_iff.mp H
    obtain ⟨⟨t122, t123⟩, A30, H⟩ := H
    replace H : ((larderref1_Head.f a0_1 a0_2 a0_3).bind fun bt124 => (if t122 = bt124.1 then ((larderlaw1_num.f t123).bind fun t126 => (some (t126 == bt124.2))) else (some false))) = some r := H
    have A3 := Aside0.mk A30
    clear A30
    replace H := Option.bind_eq_some_iff.mp H
    obtain ⟨⟨t124, t125⟩, A40, H⟩ := H
    replace H : (if t122 = t124 then ((larderlaw1_num.f t123).bind fun t126 => (some (t126 == t125))) else (some false)) = some r := H
    have A4 := Aside0.mk A40
    clear A40
    by_cases c5 : t122 = t124
    · rw [if_pos c5] at H
      have c5b0 : (t122 == t124) = true := beq_iff_eq.mpr c5
      have c5b1 : (t122 != t124) = false := bne_eq_false_iff_eq.mpr c5
      clear c5
      replace H := Option.bind_eq_some_iff.mp H
      obtain ⟨t126, A60, H⟩ := H
      replace H : (some (t126 == t125)) = some r := H
      have A6 := Aside0.mk A60
      clear A60
      obtain rfl := Option.some.inj H
      go_enter Try.func67, Try.ntmps67
      go_wp2_with (first | ((with_reducible refine gate_dst (N := 1) rfl ?_); refine box_event ?hg (N := 1) ?hd (cs := #[.int .i64 a0_0, .int .i64 a0_1, .int .i64 a0_2, .int .i64 a0_3, .int .i64 a0_4, .int .i64 a0_5, .int .u64 a0_6, .slice A0_7 l0_7.length c0_7, .slice A0_8 l0_8.length c0_8]) (t := 71) ?hr ?_; (case hd => rfl); (case hg => rfl); (case hr => first | (go_simp; done) | (go_simp; rfl)); intro gb121 hg w7 hbox hb; have n0_ := Aside0.mk (below_step (by repeat (first | (with_reducible first | exact HB.out | apply below_alloc | apply pw_below_drewN | apply below_drew1) | exact HB.out)) hb); have n1_ := Aside0.mk (hbox); have n2_ := Aside0.mk ((by rw [hg]; exact (below_size (by repeat (first | (with_reducible first | exact HB.out | apply below_alloc | apply pw_below_drewN | apply below_drew1) | exact HB.out))) : w.heap.size ≤ gb121)); have n3_ := Aside0.mk ((by rw [hg]; exact (below_size (by repeat (first | (with_reducible first | exact HB.out | apply below_alloc | apply pw_below_drewN | apply below_drew1) | exact HB.out))) : w.heap.size ≤ gb121)); clear HB; have HB := n0_; have BK121 := n1_; have GW121 := n2_; have GE121 := n3_; clear n0_ n1_ n2_ n3_; clear hb hbox hg; have hcz8_0 : w7.cell? ⟨gb121, 0, none⟩ = some (.int .i64 a0_0) := (blk_cell BK121.out 0).trans rfl; have hcz8_1 : w7.cell? ⟨gb121, 1, none⟩ = some (.int .i64 a0_1) := (blk_cell BK121.out 1).trans rfl; have hcz8_2 : w7.cell? ⟨gb121, 2, none⟩ = some (.int .i64 a0_2) := (blk_cell BK121.out 2).trans rfl; have hcz8_3 : w7.cell? ⟨gb121, 3, none⟩ = some (.int .i64 a0_3) := (blk_cell BK121.out 3).trans rfl; have hcz8_4 : w7.cell? ⟨gb121, 4, none⟩ = some (.int .i64 a0_4) := (blk_cell BK121.out 4).trans rfl; have hcz8_5 : w7.cell? ⟨gb121, 5, none⟩ = some (.int .i64 a0_5) := (blk_cell BK121.out 5).trans rfl; have hcz8_6 : w7.cell? ⟨gb121, 6, none⟩ = some (.int .u64 a0_6) := (blk_cell BK121.out 6).trans rfl; have hcz8_7 : w7.cell? ⟨gb121, 7, none⟩ = some (.slice A0_7 l0_7.length c0_7) := (blk_cell BK121.out 7).trans rfl; have hcz8_8 : w7.cell? ⟨gb121, 8, none⟩ = some (.slice A0_8 l0_8.length c0_8) := (blk_cell BK121.out 8).trans rfl; have hfz8_0 := blk_frozen BK121.out 0; have hfz8_1 := blk_frozen BK121.out 1; have hfz8_2 := blk_frozen BK121.out 2; have hfz8_3 := blk_frozen BK121.out 3; have hfz8_4 := blk_frozen BK121.out 4; have hfz8_5 := blk_frozen BK121.out 5; have hfz8_6 := blk_frozen BK121.out 6; have hfz8_7 := blk_frozen BK121.out 7; have hfz8_8 := blk_frozen BK121.out 8) | ((with_reducible refine gate_callee (f := 20) rfl ?_); refine goesL_ (some 25) rfl rfl Try.func20 (by kernel_rfl) rfl #[.int .i64 a0_1, .int .i64 a0_2, .int .i64 a0_3] rfl (by (try simp only [List.map_toArray, List.map_cons, List.map_nil]); first | done | rfl | (simp only [List.length_drop, List.length_take]; rfl)) ?_; (with_reducible refine (word_Head.calls a0_1 a0_2 a0_3 t122 t123 _ A3.out).mono ?_); rintro e w' ⟨rfl, ⟨nd, rfl⟩⟩; refine ⟨_, rfl, ?_⟩) | ((with_reducible refine gate_callee (f := 86) rfl ?_); refine goesL_ (some 35) rfl rfl Try.func86 (by kernel_rfl) rfl #[.int .i64 a0_1, .int .i64 a0_2, .int .i64 a0_3] rfl (by (try simp only [List.map_toArray, List.map_cons, List.map_nil]); first | done | rfl | (simp only [List.length_drop, List.length_take]; rfl)) ?_; (with_reducible refine (larderref1_Head.calls a0_1 a0_2 a0_3 t124 t125 _ A4.out).mono ?_); rintro e w' ⟨rfl, ⟨nd, rfl⟩⟩; refine ⟨_, rfl, ?_⟩) | (go_at_call 21; (with_reducible refine (larderlaw1_num.calls t123 t126 _ A6.out).mono ?_); rintro e w' ⟨rfl, ⟨nd, rfl⟩⟩))
      go_ret
      exact ⟨by first | rfl | (simp [errW_none, errW_some] <;> rfl) | (simp [*, errW_none, errW_some] <;> rfl), by repeat (first | (with_reducible first | exact HB.out | apply below_alloc | apply pw_below_drewN | apply below_drew1 | refine below_set ?_ GE121.out) | exact HB.out)⟩
    · rw [if_neg c5] at H
      have c5b0 : (t122 == t124) = false := beq_eq_false_iff_ne.mpr c5
      have c5b1 : (t122 != t124) = true := bne_iff_ne.mpr c5
      obtain rfl := Option.some.inj H
      go_enter Try.func67, Try.ntmps67
      go_wp2_with (first | ((with_reducible refine gate_dst (N := 1) rfl ?_); refine box_event ?hg (N := 1) ?hd (cs := #[.int .i64 a0_0, .int .i64 a0_1, .int .i64 a0_2, .int .i64 a0_3, .int .i64 a0_4, .int .i64 a0_5, .int .u64 a0_6, .slice A0_7 l0_7.length c0_7, .slice A0_8 l0_8.length c0_8]) (t := 71) ?hr ?_; (case hd => rfl); (case hg => rfl); (case hr => first | (go_simp; done) | (go_simp; rfl)); intro gb121 hg w9 hbox hb; have n0_ := Aside0.mk (below_step (by repeat (first | (with_reducible first | exact HB.out | apply below_alloc | apply pw_below_drewN | apply below_drew1) | exact HB.out)) hb); have n1_ := Aside0.mk (hbox); have n2_ := Aside0.mk ((by rw [hg]; exact (below_size (by repeat (first | (with_reducible first | exact HB.out | apply below_alloc | apply pw_below_drewN | apply below_drew1) | exact HB.out))) : w.heap.size ≤ gb121)); have n3_ := Aside0.mk ((by rw [hg]; exact (below_size (by repeat (first | (with_reducible first | exact HB.out | apply below_alloc | apply pw_below_drewN | apply below_drew1) | exact HB.out))) : w.heap.size ≤ gb121)); clear HB; have HB := n0_; have BK121 := n1_; have GW121 := n2_; have GE121 := n3_; clear n0_ n1_ n2_ n3_; clear hb hbox hg; have hcz10_0 : w9.cell? ⟨gb121, 0, none⟩ = some (.int .i64 a0_0) := (blk_cell BK121.out 0).trans rfl; have hcz10_1 : w9.cell? ⟨gb121, 1, none⟩ = some (.int .i64 a0_1) := (blk_cell BK121.out 1).trans rfl; have hcz10_2 : w9.cell? ⟨gb121, 2, none⟩ = some (.int .i64 a0_2) := (blk_cell BK121.out 2).trans rfl; have hcz10_3 : w9.cell? ⟨gb121, 3, none⟩ = some (.int .i64 a0_3) := (blk_cell BK121.out 3).trans rfl; have hcz10_4 : w9.cell? ⟨gb121, 4, none⟩ = some (.int .i64 a0_4) := (blk_cell BK121.out 4).trans rfl; have hcz10_5 : w9.cell? ⟨gb121, 5, none⟩ = some (.int .i64 a0_5) := (blk_cell BK121.out 5).trans rfl; have hcz10_6 : w9.cell? ⟨gb121, 6, none⟩ = some (.int .u64 a0_6) := (blk_cell BK121.out 6).trans rfl; have hcz10_7 : w9.cell? ⟨gb121, 7, none⟩ = some (.slice A0_7 l0_7.length c0_7) := (blk_cell BK121.out 7).trans rfl; have hcz10_8 : w9.cell? ⟨gb121, 8, none⟩ = some (.slice A0_8 l0_8.length c0_8) := (blk_cell BK121.out 8).trans rfl; have hfz10_0 := blk_frozen BK121.out 0; have hfz10_1 := blk_frozen BK121.out 1; have hfz10_2 := blk_frozen BK121.out 2; have hfz10_3 := blk_frozen BK121.out 3; have hfz10_4 := blk_frozen BK121.out 4; have hfz10_5 := blk_frozen BK121.out 5; have hfz10_6 := blk_frozen BK121.out 6; have hfz10_7 := blk_frozen BK121.out 7; have hfz10_8 := blk_frozen BK121.out 8) | ((with_reducible refine gate_callee (f := 20) rfl ?_); refine goesL_ (some 25) rfl rfl Try.func20 (by kernel_rfl) rfl #[.int .i64 a0_1, .int .i64 a0_2, .int .i64 a0_3] rfl (by (try simp only [List.map_toArray, List.map_cons, List.map_nil]); first | done | rfl | (simp only [List.length_drop, List.length_take]; rfl)) ?_; (with_reducible refine (word_Head.calls a0_1 a0_2 a0_3 t122 t123 _ A3.out).mono ?_); rintro e w' ⟨rfl, ⟨nd, rfl⟩⟩; refine ⟨_, rfl, ?_⟩) | ((with_reducible refine gate_callee (f := 86) rfl ?_); refine goesL_ (some 35) rfl rfl Try.func86 (by kernel_rfl) rfl #[.int .i64 a0_1, .int .i64 a0_2, .int .i64 a0_3] rfl (by (try simp only [List.map_toArray, List.map_cons, List.map_nil]); first | done | rfl | (simp only [List.length_drop, List.length_take]; rfl)) ?_; (with_reducible refine (larderref1_Head.calls a0_1 a0_2 a0_3 t124 t125 _ A4.out).mono ?_); rintro e w' ⟨rfl, ⟨nd, rfl⟩⟩; refine ⟨_, rfl, ?_⟩))
      go_ret
      exact ⟨by first | rfl | (simp [errW_none, errW_some] <;> rfl) | (simp [*, errW_none, errW_some] <;> rfl), by repeat (first | (with_reducible first | exact HB.out | apply below_alloc | apply pw_below_drewN | apply below_drew1 | refine below_set ?_ GE121.out) | exact HB.out)⟩
  · rw [if_neg c2] at H
    have c2b0 : (a0_0 == 1) = false := beq_eq_false_iff_ne.mpr c2
    have c2b1 : (a0_0 != 1) = true := bne_iff_ne.mpr c2
    replace H := Option.bind_eq_some_iff.mp H
    obtain ⟨⟨t127, t128, t129, t130⟩, A110, H⟩ := H
    replace H : ((larderref1_Split.f a0_6).bind fun bt131 => (if t127 = bt131.1 then (if t128 = bt131.2.1 then (if t129 = bt131.2.2.1 then ((larderlaw1_num.f t130).bind fun t135 => (some (t135 == bt131.2.2.2))) else (some false)) else (some false)) else (some false))) = some r := H
    have A11 := Aside0.mk A110
    clear A110
    replace H := Option.bind_eq_some_iff.mp H
    obtain ⟨⟨t131, t132, t133, t134⟩, A120, H⟩ := H
    replace H : (if t127 = t131 then (if t128 = t132 then (if t129 = t133 then ((larderlaw1_num.f t130).bind fun t135 => (some (t135 == t134))) else (some false)) else (some false)) else (some false)) = some r := H
    have A12 := Aside0.mk A120
    clear A120
    by_cases c13 : t127 = t131
    · rw [if_pos c13] at H
      have c13b0 : (t127 == t131) = true := beq_iff_eq.mpr c13
      have c13b1 : (t127 != t131) = false := bne_eq_false_iff_eq.mpr c13
      clear c13
      by_cases c14 : t128 = t132
      · rw [if_pos c14] at H
        have c14b0 : (t128 == t132) = true := beq_iff_eq.mpr c14
        have c14b1 : (t128 != t132) = false := bne_eq_false_iff_eq.mpr c14
        clear c14
        by_cases c15 : t129 = t133
        · rw [if_pos c15] at H
          have c15b0 : (t129 == t133) = true := beq_iff_eq.mpr c15
          have c15b1 : (t129 != t133) = false := bne_eq_false_iff_eq.mpr c15
          clear c15
          replace H := Option.bind_eq_some_iff.mp H
          obtain ⟨t135, A160, H⟩ := H
          replace H : (some (t135 == t134)) = some r := H
          have A16 := Aside0.mk A160
          clear A160
          obtain rfl := Option.some.inj H
          go_enter Try.func67, Try.ntmps67
          go_wp2_with (first | ((with_reducible refine gate_dst (N := 1) rfl ?_); refine box_event ?hg (N := 1) ?hd (cs := #[.int .i64 a0_0, .int .i64 a0_1, .int .i64 a0_2, .int .i64 a0_3, .int .i64 a0_4, .int .i64 a0_5, .int .u64 a0_6, .slice A0_7 l0_7.length c0_7, .slice A0_8 l0_8.length c0_8]) (t := 71) ?hr ?_; (case hd => rfl); (case hg => rfl); (case hr => first | (go_simp; done) | (go_simp; rfl)); intro gb121 hg w17 hbox hb; have n0_ := Aside0.mk (below_step (by repeat (first | (with_reducible first | exact HB.out | apply below_alloc | apply pw_below_drewN | apply below_drew1) | exact HB.out)) hb); have n1_ := Aside0.mk (hbox); have n2_ := Aside0.mk ((by rw [hg]; exact (below_size (by repeat (first | (with_reducible first | exact HB.out | apply below_alloc | apply pw_below_drewN | apply below_drew1) | exact HB.out))) : w.heap.size ≤ gb121)); have n3_ := Aside0.mk ((by rw [hg]; exact (below_size (by repeat (first | (with_reducible first | exact HB.out | apply below_alloc | apply pw_below_drewN | apply below_drew1) | exact HB.out))) : w.heap.size ≤ gb121)); clear HB; have HB := n0_; have BK121 := n1_; have GW121 := n2_; have GE121 := n3_; clear n0_ n1_ n2_ n3_; clear hb hbox hg; have hcz18_0 : w17.cell? ⟨gb121, 0, none⟩ = some (.int .i64 a0_0) := (blk_cell BK121.out 0).trans rfl; have hcz18_1 : w17.cell? ⟨gb121, 1, none⟩ = some (.int .i64 a0_1) := (blk_cell BK121.out 1).trans rfl; have hcz18_2 : w17.cell? ⟨gb121, 2, none⟩ = some (.int .i64 a0_2) := (blk_cell BK121.out 2).trans rfl; have hcz18_3 : w17.cell? ⟨gb121, 3, none⟩ = some (.int .i64 a0_3) := (blk_cell BK121.out 3).trans rfl; have hcz18_4 : w17.cell? ⟨gb121, 4, none⟩ = some (.int .i64 a0_4) := (blk_cell BK121.out 4).trans rfl; have hcz18_5 : w17.cell? ⟨gb121, 5, none⟩ = some (.int .i64 a0_5) := (blk_cell BK121.out 5).trans rfl; have hcz18_6 : w17.cell? ⟨gb121, 6, none⟩ = some (.int .u64 a0_6) := (blk_cell BK121.out 6).trans rfl; have hcz18_7 : w17.cell? ⟨gb121, 7, none⟩ = some (.slice A0_7 l0_7.length c0_7) := (blk_cell BK121.out 7).trans rfl; have hcz18_8 : w17.cell? ⟨gb121, 8, none⟩ = some (.slice A0_8 l0_8.length c0_8) := (blk_cell BK121.out 8).trans rfl; have hfz18_0 := blk_frozen BK121.out 0; have hfz18_1 := blk_frozen BK121.out 1; have hfz18_2 := blk_frozen BK121.out 2; have hfz18_3 := blk_frozen BK121.out 3; have hfz18_4 := blk_frozen BK121.out 4; have hfz18_5 := blk_frozen BK121.out 5; have hfz18_6 := blk_frozen BK121.out 6; have hfz18_7 := blk_frozen BK121.out 7; have hfz18_8 := blk_frozen BK121.out 8) | ((with_reducible refine gate_callee (f := 22) rfl ?_); refine goesL_ (some 50) rfl rfl Try.func22 (by kernel_rfl) rfl #[.int .u64 a0_6] rfl (by (try simp only [List.map_toArray, List.map_cons, List.map_nil]); first | done | rfl | (simp only [List.length_drop, List.length_take]; rfl)) ?_; (with_reducible refine (word_Split.calls a0_6 t127 t128 t129 t130 _ A11.out).mono ?_); rintro e w' ⟨rfl, ⟨nd, rfl⟩⟩; refine ⟨_, rfl, ?_⟩) | ((with_reducible refine gate_callee (f := 87) rfl ?_); refine goesL_ (some 58) rfl rfl Try.func87 (by kernel_rfl) rfl #[.int .u64 a0_6] rfl (by (try simp only [List.map_toArray, List.map_cons, List.map_nil]); first | done | rfl | (simp only [List.length_drop, List.length_take]; rfl)) ?_; (with_reducible refine (larderref1_Split.calls a0_6 t131 t132 t133 t134 _ A12.out).mono ?_); rintro e w' ⟨rfl, ⟨nd, rfl⟩⟩; refine ⟨_, rfl, ?_⟩) | (go_at_call 21; (with_reducible refine (larderlaw1_num.calls t130 t135 _ A16.out).mono ?_); rintro e w' ⟨rfl, ⟨nd, rfl⟩⟩))
          go_ret
          exact ⟨by first | rfl | (simp [errW_none, errW_some] <;> rfl) | (simp [*, errW_none, errW_some] <;> rfl), by repeat (first | (with_reducible first | exact HB.out | apply below_alloc | apply pw_below_drewN | apply below_drew1 | refine below_set ?_ GE121.out) | exact HB.out)⟩
        · rw [if_neg c15] at H
          have c15b0 : (t129 == t133) = false := beq_eq_false_iff_ne.mpr c15
          have c15b1 : (t129 != t133) = true := bne_iff_ne.mpr c15
          obtain rfl := Option.some.inj H
          go_enter Try.func67, Try.ntmps67
          go_wp2_with (first | ((with_reducible refine gate_dst (N := 1) rfl ?_); refine box_event ?hg (N := 1) ?hd (cs := #[.int .i64 a0_0, .int .i64 a0_1, .int .i64 a0_2, .int .i64 a0_3, .int .i64 a0_4, .int .i64 a0_5, .int .u64 a0_6, .slice A0_7 l0_7.length c0_7, .slice A0_8 l0_8.length c0_8]) (t := 71) ?hr ?_; (case hd => rfl); (case hg => rfl); (case hr => first | (go_simp; done) | (go_simp; rfl)); intro gb121 hg w19 hbox hb; have n0_ := Aside0.mk (below_step (by repeat (first | (with_reducible first | exact HB.out | apply below_alloc | apply pw_below_drewN | apply below_drew1) | exact HB.out)) hb); have n1_ := Aside0.mk (hbox); have n2_ := Aside0.mk ((by rw [hg]; exact (below_size (by repeat (first | (with_reducible first | exact HB.out | apply below_alloc | apply pw_below_drewN | apply below_drew1) | exact HB.out))) : w.heap.size ≤ gb121)); have n3_ := Aside0.mk ((by rw [hg]; exact (below_size (by repeat (first | (with_reducible first | exact HB.out | apply below_alloc | apply pw_below_drewN | apply below_drew1) | exact HB.out))) : w.heap.size ≤ gb121)); clear HB; have HB := n0_; have BK121 := n1_; have GW121 := n2_; have GE121 := n3_; clear n0_ n1_ n2_ n3_; clear hb hbox hg; have hcz20_0 : w19.cell? ⟨gb121, 0, none⟩ = some (.int .i64 a0_0) := (blk_cell BK121.out 0).trans rfl; have hcz20_1 : w19.cell? ⟨gb121, 1, none⟩ = some (.int .i64 a0_1) := (blk_cell BK121.out 1).trans rfl; have hcz20_2 : w19.cell? ⟨gb121, 2, none⟩ = some (.int .i64 a0_2) := (blk_cell BK121.out 2).trans rfl; have hcz20_3 : w19.cell? ⟨gb121, 3, none⟩ = some (.int .i64 a0_3) := (blk_cell BK121.out 3).trans rfl; have hcz20_4 : w19.cell? ⟨gb121, 4, none⟩ = some (.int .i64 a0_4) := (blk_cell BK121.out 4).trans rfl; have hcz20_5 : w19.cell? ⟨gb121, 5, none⟩ = some (.int .i64 a0_5) := (blk_cell BK121.out 5).trans rfl; have hcz20_6 : w19.cell? ⟨gb121, 6, none⟩ = some (.int .u64 a0_6) := (blk_cell BK121.out 6).trans rfl; have hcz20_7 : w19.cell? ⟨gb121, 7, none⟩ = some (.slice A0_7 l0_7.length c0_7) := (blk_cell BK121.out 7).trans rfl; have hcz20_8 : w19.cell? ⟨gb121, 8, none⟩ = some (.slice A0_8 l0_8.length c0_8) := (blk_cell BK121.out 8).trans rfl; have hfz20_0 := blk_frozen BK121.out 0; have hfz20_1 := blk_frozen BK121.out 1; have hfz20_2 := blk_frozen BK121.out 2; have hfz20_3 := blk_frozen BK121.out 3; have hfz20_4 := blk_frozen BK121.out 4; have hfz20_5 := blk_frozen BK121.out 5; have hfz20_6 := blk_frozen BK121.out 6; have hfz20_7 := blk_frozen BK121.out 7; have hfz20_8 := blk_frozen BK121.out 8) | ((with_reducible refine gate_callee (f := 22) rfl ?_); refine goesL_ (some 50) rfl rfl Try.func22 (by kernel_rfl) rfl #[.int .u64 a0_6] rfl (by (try simp only [List.map_toArray, List.map_cons, List.map_nil]); first | done | rfl | (simp only [List.length_drop, List.length_take]; rfl)) ?_; (with_reducible refine (word_Split.calls a0_6 t127 t128 t129 t130 _ A11.out).mono ?_); rintro e w' ⟨rfl, ⟨nd, rfl⟩⟩; refine ⟨_, rfl, ?_⟩) | ((with_reducible refine gate_callee (f := 87) rfl ?_); refine goesL_ (some 58) rfl rfl Try.func87 (by kernel_rfl) rfl #[.int .u64 a0_6] rfl (by (try simp only [List.map_toArray, List.map_cons, List.map_nil]); first | done | rfl | (simp only [List.length_drop, List.length_take]; rfl)) ?_; (with_reducible refine (larderref1_Split.calls a0_6 t131 t132 t133 t134 _ A12.out).mono ?_); rintro e w' ⟨rfl, ⟨nd, rfl⟩⟩; refine ⟨_, rfl, ?_⟩))
          go_ret
          exact ⟨by first | rfl | (simp [errW_none, errW_some] <;> rfl) | (simp [*, errW_none, errW_some] <;> rfl), by repeat (first | (with_reducible first | exact HB.out | apply below_alloc | apply pw_below_drewN | apply below_drew1 | refine below_set ?_ GE121.out) | exact HB.out)⟩
      · rw [if_neg c14] at H
        have c14b0 : (t128 == t132) = false := beq_eq_false_iff_ne.mpr c14
        have c14b1 : (t128 != t132) = true := bne_iff_ne.mpr c14
        obtain rfl := Option.some.inj H
        go_enter Try.func67, Try.ntmps67
        go_wp2_with (first | ((with_reducible refine gate_dst (N := 1) rfl ?_); refine box_event ?hg (N := 1) ?hd (cs := #[.int .i64 a0_0, .int .i64 a0_1, .int .i64 a0_2, .int .i64 a0_3, .int .i64 a0_4, .int .i64 a0_5, .int .u64 a0_6, .slice A0_7 l0_7.length c0_7, .slice A0_8 l0_8.length c0_8]) (t := 71) ?hr ?_; (case hd => rfl); (case hg => rfl); (case hr => first | (go_simp; done) | (go_simp; rfl)); intro gb121 hg w21 hbox hb; have n0_ := Aside0.mk (below_step (by repeat (first | (with_reducible first | exact HB.out | apply below_alloc | apply pw_below_drewN | apply below_drew1) | exact HB.out)) hb); have n1_ := Aside0.mk (hbox); have n2_ := Aside0.mk ((by rw [hg]; exact (below_size (by repeat (first | (with_reducible first | exact HB.out | apply below_alloc | apply pw_below_drewN | apply below_drew1) | exact HB.out))) : w.heap.size ≤ gb121)); have n3_ := Aside0.mk ((by rw [hg]; exact (below_size (by repeat (first | (with_reducible first | exact HB.out | apply below_alloc | apply pw_below_drewN | apply below_drew1) | exact HB.out))) : w.heap.size ≤ gb121)); clear HB; have HB := n0_; have BK121 := n1_; have GW121 := n2_; have GE121 := n3_; clear n0_ n1_ n2_ n3_; clear hb hbox hg; have hcz22_0 : w21.cell? ⟨gb121, 0, none⟩ = some (.int .i64 a0_0) := (blk_cell BK121.out 0).trans rfl; have hcz22_1 : w21.cell? ⟨gb121, 1, none⟩ = some (.int .i64 a0_1) := (blk_cell BK121.out 1).trans rfl; have hcz22_2 : w21.cell? ⟨gb121, 2, none⟩ = some (.int .i64 a0_2) := (blk_cell BK121.out 2).trans rfl; have hcz22_3 : w21.cell? ⟨gb121, 3, none⟩ = some (.int .i64 a0_3) := (blk_cell BK121.out 3).trans rfl; have hcz22_4 : w21.cell? ⟨gb121, 4, none⟩ = some (.int .i64 a0_4) := (blk_cell BK121.out 4).trans rfl; have hcz22_5 : w21.cell? ⟨gb121, 5, none⟩ = some (.int .i64 a0_5) := (blk_cell BK121.out 5).trans rfl; have hcz22_6 : w21.cell? ⟨gb121, 6, none⟩ = some (.int .u64 a0_6) := (blk_cell BK121.out 6).trans rfl; have hcz22_7 : w21.cell? ⟨gb121, 7, none⟩ = some (.slice A0_7 l0_7.length c0_7) := (blk_cell BK121.out 7).trans rfl; have hcz22_8 : w21.cell? ⟨gb121, 8, none⟩ = some (.slice A0_8 l0_8.length c0_8) := (blk_cell BK121.out 8).trans rfl; have hfz22_0 := blk_frozen BK121.out 0; have hfz22_1 := blk_frozen BK121.out 1; have hfz22_2 := blk_frozen BK121.out 2; have hfz22_3 := blk_frozen BK121.out 3; have hfz22_4 := blk_frozen BK121.out 4; have hfz22_5 := blk_frozen BK121.out 5; have hfz22_6 := blk_frozen BK121.out 6; have hfz22_7 := blk_frozen BK121.out 7; have hfz22_8 := blk_frozen BK121.out 8) | ((with_reducible refine gate_callee (f := 22) rfl ?_); refine goesL_ (some 50) rfl rfl Try.func22 (by kernel_rfl) rfl #[.int .u64 a0_6] rfl (by (try simp only [List.map_toArray, List.map_cons, List.map_nil]); first | done | rfl | (simp only [List.length_drop, List.length_take]; rfl)) ?_; (with_reducible refine (word_Split.calls a0_6 t127 t128 t129 t130 _ A11.out).mono ?_); rintro e w' ⟨rfl, ⟨nd, rfl⟩⟩; refine ⟨_, rfl, ?_⟩) | ((with_reducible refine gate_callee (f := 87) rfl ?_); refine goesL_ (some 58) rfl rfl Try.func87 (by kernel_rfl) rfl #[.int .u64 a0_6] rfl (by (try simp only [List.map_toArray, List.map_cons, List.map_nil]); first | done | rfl | (simp only [List.length_drop, List.length_take]; rfl)) ?_; (with_reducible refine (larderref1_Split.calls a0_6 t131 t132 t133 t134 _ A12.out).mono ?_); rintro e w' ⟨rfl, ⟨nd, rfl⟩⟩; refine ⟨_, rfl, ?_⟩))
        go_ret
        exact ⟨by first | rfl | (simp [errW_none, errW_some] <;> rfl) | (simp [*, errW_none, errW_some] <;> rfl), by repeat (first | (with_reducible first | exact HB.out | apply below_alloc | apply pw_below_drewN | apply below_drew1 | refine below_set ?_ GE121.out) | exact HB.out)⟩
    · rw [if_neg c13] at H
      have c13b0 : (t127 == t131) = false := beq_eq_false_iff_ne.mpr c13
      have c13b1 : (t127 != t131) = true := bne_iff_ne.mpr c13
      obtain rfl := Option.some.inj H
      go_enter Try.func67, Try.ntmps67
      go_wp2_with (first | ((with_reducible refine gate_dst (N := 1) rfl ?_); refine box_event ?hg (N := 1) ?hd (cs := #[.int .i64 a0_0, .int .i64 a0_1, .int .i64 a0_2, .int .i64 a0_3, .int .i64 a0_4, .int .i64 a0_5, .int .u64 a0_6, .slice A0_7 l0_7.length c0_7, .slice A0_8 l0_8.length c0_8]) (t := 71) ?hr ?_; (case hd => rfl); (case hg => rfl); (case hr => first | (go_simp; done) | (go_simp; rfl)); intro gb121 hg w23 hbox hb; have n0_ := Aside0.mk (below_step (by repeat (first | (with_reducible first | exact HB.out | apply below_alloc | apply pw_below_drewN | apply below_drew1) | exact HB.out)) hb); have n1_ := Aside0.mk (hbox); have n2_ := Aside0.mk ((by rw [hg]; exact (below_size (by repeat (first | (with_reducible first | exact HB.out | apply below_alloc | apply pw_below_drewN | apply below_drew1) | exact HB.out))) : w.heap.size ≤ gb121)); have n3_ := Aside0.mk ((by rw [hg]; exact (below_size (by repeat (first | (with_reducible first | exact HB.out | apply below_alloc | apply pw_below_drewN | apply below_drew1) | exact HB.out))) : w.heap.size ≤ gb121)); clear HB; have HB := n0_; have BK121 := n1_; have GW121 := n2_; have GE121 := n3_; clear n0_ n1_ n2_ n3_; clear hb hbox hg; have hcz24_0 : w23.cell? ⟨gb121, 0, none⟩ = some (.int .i64 a0_0) := (blk_cell BK121.out 0).trans rfl; have hcz24_1 : w23.cell? ⟨gb121, 1, none⟩ = some (.int .i64 a0_1) := (blk_cell BK121.out 1).trans rfl; have hcz24_2 : w23.cell? ⟨gb121, 2, none⟩ = some (.int .i64 a0_2) := (blk_cell BK121.out 2).trans rfl; have hcz24_3 : w23.cell? ⟨gb121, 3, none⟩ = some (.int .i64 a0_3) := (blk_cell BK121.out 3).trans rfl; have hcz24_4 : w23.cell? ⟨gb121, 4, none⟩ = some (.int .i64 a0_4) := (blk_cell BK121.out 4).trans rfl; have hcz24_5 : w23.cell? ⟨gb121, 5, none⟩ = some (.int .i64 a0_5) := (blk_cell BK121.out 5).trans rfl; have hcz24_6 : w23.cell? ⟨gb121, 6, none⟩ = some (.int .u64 a0_6) := (blk_cell BK121.out 6).trans rfl; have hcz24_7 : w23.cell? ⟨gb121, 7, none⟩ = some (.slice A0_7 l0_7.length c0_7) := (blk_cell BK121.out 7).trans rfl; have hcz24_8 : w23.cell? ⟨gb121, 8, none⟩ = some (.slice A0_8 l0_8.length c0_8) := (blk_cell BK121.out 8).trans rfl; have hfz24_0 := blk_frozen BK121.out 0; have hfz24_1 := blk_frozen BK121.out 1; have hfz24_2 := blk_frozen BK121.out 2; have hfz24_3 := blk_frozen BK121.out 3; have hfz24_4 := blk_frozen BK121.out 4; have hfz24_5 := blk_frozen BK121.out 5; have hfz24_6 := blk_frozen BK121.out 6; have hfz24_7 := blk_frozen BK121.out 7; have hfz24_8 := blk_frozen BK121.out 8) | ((with_reducible refine gate_callee (f := 22) rfl ?_); refine goesL_ (some 50) rfl rfl Try.func22 (by kernel_rfl) rfl #[.int .u64 a0_6] rfl (by (try simp only [List.map_toArray, List.map_cons, List.map_nil]); first | done | rfl | (simp only [List.length_drop, List.length_take]; rfl)) ?_; (with_reducible refine (word_Split.calls a0_6 t127 t128 t129 t130 _ A11.out).mono ?_); rintro e w' ⟨rfl, ⟨nd, rfl⟩⟩; refine ⟨_, rfl, ?_⟩) | ((with_reducible refine gate_callee (f := 87) rfl ?_); refine goesL_ (some 58) rfl rfl Try.func87 (by kernel_rfl) rfl #[.int .u64 a0_6] rfl (by (try simp only [List.map_toArray, List.map_cons, List.map_nil]); first | done | rfl | (simp only [List.length_drop, List.length_take]; rfl)) ?_; (with_reducible refine (larderref1_Split.calls a0_6 t131 t132 t133 t134 _ A12.out).mono ?_); rintro e w' ⟨rfl, ⟨nd, rfl⟩⟩; refine ⟨_, rfl, ?_⟩))
      go_ret
      exact ⟨by first | rfl | (simp [errW_none, errW_some] <;> rfl) | (simp [*, errW_none, errW_some] <;> rfl), by repeat (first | (with_reducible first | exact HB.out | apply below_alloc | apply pw_below_drewN | apply below_drew1 | refine below_set ?_ GE121.out) | exact HB.out)⟩

end Go.Proofs.Ytgngpbcbnfmoiaa.PD
end

section
-- PRINTED by print.py (a twelfth state) out of the translation. Not trusted: Lean checks it.
namespace Go.Proofs.Ytgngpbcbnfmoiaa.PD
open Go.RowKit Go.Proofs.YtgngpbcbnfmoiaaW.PrintWords Go.Proofs.YtgngpbcbnfmoiaaW.PrintLast Go.Proofs.YtgngpbcbnfmoiaaW.PrintMore
attribute [local go_sem] max2_int min2_int max_two min_two max_three min_three max_four min_four   -- for this text's walks alone
open Go.Proofs.Ytgngpbcbnfmoiaa.PA Go.Proofs.Ytgngpbcbnfmoiaa.PB
set_option linter.unusedVariables false
set_option linter.unusedSimpArgs false

end Go.Proofs.Ytgngpbcbnfmoiaa.PD
end
end

section
/- What word.Text, Int, Uint, Add, Digits compute, in plain words. -/
namespace Go.Proofs.Ytgngpbcbnfmoiaa.SpellF
open Go Go.RowKit Go.Proofs.YtgngpbcbnfmoiaaW.PrintWords Go.Proofs.YtgngpbcbnfmoiaaW.PrintLast Go.Proofs.YtgngpbcbnfmoiaaW.PrintMore Go.Proofs.Ytgngpbcbnfmoiaa.NumS Go.Proofs.Ytgngpbcbnfmoiaa.NumT

theorem num_some (x : Int) : PA.larderlaw1_num.f x = some x := rfl
theorem dig_some (n : Int) (h : 0 ≤ n ∧ n < 18446744073709551616) : PA.word_Digits.f n = some (PA.digitsL n.toNat) := if_pos h
theorem text_some (n : Int) (h : -9223372036854775808 ≤ n ∧ n < 9223372036854775808) : PB.word_Text.f n = some (textL n) := by
  unfold PB.word_Text.f textL
  by_cases h0 : n < 0
  · have e : IntKind.u64.wrap (-(IntKind.u64.wrap n)) = (n.natAbs : Int) := by rw [IntKind.wrap_u64, IntKind.wrap_u64]; omega
    have hl := PA.digitsL_len 20 n.natAbs (by omega) (by decide)
    rw [if_pos h0, if_pos h0, Option.bind_some, e, dig_some _ (by omega), Option.bind_some, Int.toNat_natCast, if_pos (by simp; omega)]
    rfl
  · have e : IntKind.u64.wrap n = n := by rw [IntKind.wrap_u64]; omega
    rw [if_neg h0, if_neg h0, e, dig_some _ (by omega), Option.bind_some]
theorem int_some (l : List Int) : PB.word_Int.f l = some (intS l) := rfl
theorem uint_some (l : List Int) : PB.word_Uint.f l = some (uintS l) := rfl
theorem add_some (a b : Int) (ha : -9223372036854775808 ≤ a ∧ a < 9223372036854775808) (hb : -9223372036854775808 ≤ b ∧ b < 9223372036854775808) :
    PB.word_Add.f a b = some (if -9223372036854775808 ≤ a + b ∧ a + b < 9223372036854775808 then (a + b, 0) else (0, 13)) := by
  unfold PB.word_Add.f
  by_cases c : -9223372036854775808 ≤ a + b ∧ a + b < 9223372036854775808
  · have e : wrap64 (a + b) = a + b := by unfold wrap64; omega
    rw [if_pos c, e]
    by_cases h1 : ((decide (a ≥ 0)) == (decide (b ≥ 0))) = true
    · rw [if_pos h1]
      rw [beq_iff_eq, decide_eq_decide] at h1
      rw [if_neg]
      rw [bne_iff_ne, ne_eq, Decidable.not_not, decide_eq_decide]
      omega
    · rw [if_neg h1]
  · rw [if_neg c, if_pos (by rw [beq_iff_eq, decide_eq_decide]; omega), if_pos]
    rw [bne_iff_ne, ne_eq, decide_eq_decide]
    unfold wrap64
    omega

theorem ref_add_some (a b : Int) (ha : -9223372036854775808 ≤ a ∧ a < 9223372036854775808) (hb : -9223372036854775808 ≤ b ∧ b < 9223372036854775808) :
    PD.larderref1_Add.f a b = some (if -9223372036854775808 ≤ a + b ∧ a + b < 9223372036854775808 then (a + b, 0) else (0, 13)) := by
  unfold PD.larderref1_Add.f
  have e1 : b > 0 → wrap64 (9223372036854775807 - b) = 9223372036854775807 - b := fun h => by unfold wrap64; omega
  have e2 : b < 0 → wrap64 ((-9223372036854775808) - b) = (-9223372036854775808) - b := fun h => by unfold wrap64; omega
  by_cases c : -9223372036854775808 ≤ a + b ∧ a + b < 9223372036854775808
  · have e : wrap64 (a + b) = a + b := by unfold wrap64; omega
    rw [if_pos c, e]
    by_cases h1 : b > 0
    · rw [if_pos h1, e1 h1, if_neg (by omega), if_neg (by omega)]
    · rw [if_neg h1]
      by_cases h2 : b < 0
      · rw [if_pos h2, e2 h2, if_neg (by omega)]
      · rw [if_neg h2]
  · rw [if_neg c]
    by_cases h1 : b > 0
    · rw [if_pos h1, e1 h1, if_pos (by omega)]
    · have h2 : b < 0 := by omega
      rw [if_neg h1, if_pos h2, e2 h2, if_pos (by omega)]
end Go.Proofs.Ytgngpbcbnfmoiaa.SpellF
end

section
/- A step as the program's call takes it (the part of PackW that WordFresh needs). -/
namespace Go.Proofs.Ytgngpbcbnfmoiaa.PL
open Go Go.RowKit Go.Proofs.YtgngpbcbnfmoiaaW.PrintWords Go.Proofs.YtgngpbcbnfmoiaaW.PrintLast Go.Proofs.YtgngpbcbnfmoiaaW.PrintMore Go.Proofs.Ytgngpbcbnfmoiaa.PA Go.Proofs.Ytgngpbcbnfmoiaa.WordS
set_option linter.unusedVariables false
set_option linter.unusedSimpArgs false

abbrev opV (a0 a1 a2 a3 a4 a5 a6 : Int) (A7 : Option Addr) (c7 : Nat) (l7 : List Int) (A8 : Option Addr) (c8 : Nat) (l8 : List Int) : Value :=
  .agg #[.int .i64 a0, .int .i64 a1, .int .i64 a2, .int .i64 a3, .int .i64 a4, .int .i64 a5, .int .u64 a6, .slice A7 l7.length c7, .slice A8 l8.length c8]
theorem pack_bound (l : List Int) (h : l.length ≤ 140737488351232) : (pack l).length < 9223372036854775807 := by rw [pack_len]; omega
theorem same_refl (l : List Int) : larderlaw1_sameBytes.f l l = some true := by
  unfold larderlaw1_sameBytes.f
  simp
end Go.Proofs.Ytgngpbcbnfmoiaa.PL
end

section
/- What the document's own Digits computes (the part of RefS that WordFresh needs). -/
namespace Go.Proofs.Ytgngpbcbnfmoiaa.RefS
open Go Go.RowKit Go.Proofs.YtgngpbcbnfmoiaaW.PrintWords Go.Proofs.YtgngpbcbnfmoiaaW.PrintLast Go.Proofs.YtgngpbcbnfmoiaaW.PrintMore Go.Proofs.Ytgngpbcbnfmoiaa.PA Go.Proofs.Ytgngpbcbnfmoiaa.PD Go.Proofs.Ytgngpbcbnfmoiaa.WordS Go.Proofs.Ytgngpbcbnfmoiaa.NumA

/-! ### Digits -/
theorem Digits (n : Nat) : n < 18446744073709551616 → Ev (fun k => larderref1_Digits.f k n) (digitsL n) := by
  induction n using Nat.strongRecOn with
  | _ n ih =>
    intro hn
    by_cases h : n < 10
    · rw [digitsL_small h]
      refine Ev.step (f := fun _ => some [((48 + n : Nat) : Int)]) (fun k => ?_) (Ev.now _)
      simp only [larderref1_Digits.f]
      rw [if_pos (by omega), show (IntKind.u64.wrap (48 + (n : Int))) % 256 = ((48 + n : Nat) : Int) from by rw [IntKind.wrap_u64]; omega]
    · rw [digitsL_great h]
      have e1 : IntKind.u64.wrap (Int.tdiv (n : Int) 10) = ((n / 10 : Nat) : Int) := by rw [Int.tdiv_eq_ediv_of_nonneg (by omega), IntKind.wrap_u64]; omega
      have e2 : (IntKind.u64.wrap (48 + Int.tmod (n : Int) 10)) % 256 = ((48 + n % 10 : Nat) : Int) := by rw [Int.tmod_eq_emod_of_nonneg (by omega), IntKind.wrap_u64]; omega
      refine Ev.step (fun k => by simp only [larderref1_Digits.f]; rw [if_neg (by omega), e1, e2]) ?_
      refine Ev.bind (ih (n / 10) (by omega) (by omega)) ?_
      have hl := digitsL_len 20 (n / 10) (by omega) (by decide)
      exact Ev.congr (fun k => by rw [if_pos (by omega)]) (Ev.now _)

end Go.Proofs.Ytgngpbcbnfmoiaa.RefS
end

section
/- larderlaw1.texts walked: what Unpack, Text and Digits answer, twice, in new blocks. -/
namespace Go.Proofs.Ytgngpbcbnfmoiaa.TxtW
open Go Go.RowKit Go.Proofs.YtgngpbcbnfmoiaaW.PrintWords Go.Proofs.YtgngpbcbnfmoiaaW.PrintLast Go.Proofs.YtgngpbcbnfmoiaaW.PrintMore Go.Proofs.Ytgngpbcbnfmoiaa.RowU Go.Proofs.Ytgngpbcbnfmoiaa.PA Go.Proofs.Ytgngpbcbnfmoiaa.ArM Go.Proofs.Ytgngpbcbnfmoiaa.GenM Go.Proofs.Ytgngpbcbnfmoiaa.FreM Go.Proofs.Ytgngpbcbnfmoiaa.LatS Go.Proofs.Ytgngpbcbnfmoiaa.NumT Go.Proofs.Ytgngpbcbnfmoiaa.WordS Go.Proofs.Ytgngpbcbnfmoiaa.PL
set_option linter.unusedVariables false
set_option maxRecDepth 100000

/-- Two lists alike, each in a new block of its own. -/
def Two (w w' : World) (e : Ending) : Prop := ∃ (l v : Value) (ls : List Int), e = .returned (.tuple #[l, v]) ∧ GV 5 w' l (ls.map (Value.int .u8)) ∧ (∀ b, l.ownBlock = some b → w.heap.size ≤ b) ∧ GU w' v (ls.map (Value.int .u8)) ∧ (∀ b, v.ownBlock = some b → w.heap.size ≤ b ∧ l.ownBlock ≠ some b) ∧ (∀ x ∈ ls, 0 ≤ x ∧ x < 256) ∧ ls.length ≤ 200000000000000 ∧ Below w.heap.size w w'
theorem two_nil (w w' : World) (h : Below w.heap.size w w') : Two w w' (.returned (.tuple #[.slice none 0 0, .slice none 0 0])) :=
  ⟨_, _, [], rfl, GV.nil _ _, fun b hb => (by cases hb), GU.of_gv (GV.nil 5 _), fun b hb => (by cases hb), fun x hx => (by cases hx), by simp, h⟩
theorem two_end {w w5 w6 w7 : World} {l v : Value} {ls : List Int} {ok : Nat → Prop} (h5 : Below w.heap.size w w5) (hR : (Kd.int .u8).R 5 w6 w5.heap.size ok l ls) (h6 : Below w5.heap.size w5 w6) (hv : GU w7 v (ls.map (Value.int .u8))) (hvn : ∀ b, v.ownBlock = some b → w6.heap.size ≤ b) (h7 : Below w6.heap.size w6 w7)
    (hb : ∀ x ∈ ls, 0 ≤ x ∧ x < 256) (hl : ls.length ≤ 200000000000000) : Two w w7 (.returned (.tuple #[l, v])) := by
  obtain ⟨g1, g2⟩ := gv_of_R hR
  have s5 := h5.size
  have s6 := h6.size
  refine ⟨l, v, ls, rfl, g1.upd (S := none_) (Upd.of_below h7) (fun _ _ h => h), fun b hb => ?_, hv, fun b hb => ⟨?_, fun h => ?_⟩, hb, hl, below_next (below_next h5 h6) h7⟩
  · have := g2 b hb; omega
  · have := hvn b hb; omega
  · have h1 := hvn b hb
    have h2 := g1.lt b h
    omega
theorem two_end2 {w w5 w6 w7 : World} {l v : Value} {ls : List Int} {ok : Nat → Prop} (h5 : Below w.heap.size w w5) (hv : GU w6 v (ls.map (Value.int .u8))) (hvn : ∀ b, v.ownBlock = some b → w5.heap.size ≤ b) (h6 : Below w5.heap.size w5 w6) (hR : (Kd.int .u8).R 5 w7 w6.heap.size ok l ls) (h7 : Below w6.heap.size w6 w7)
    (hb : ∀ x ∈ ls, 0 ≤ x ∧ x < 256) (hl : ls.length ≤ 200000000000000) : Two w w7 (.returned (.tuple #[l, v])) := by
  obtain ⟨g1, g2⟩ := gv_of_R hR
  have s5 := h5.size
  have s6 := h6.size
  refine ⟨l, v, ls, rfl, g1, fun b hb => ?_, hv.upd (S := none_) (Upd.of_below h7) (fun _ _ h => h), fun b hb => ⟨?_, fun h => ?_⟩, hb, hl, below_next (below_next h5 h6) h7⟩
  · have := g2 b hb; omega
  · have := hvn b hb; omega
  · have h1 := Go.Proofs.Ytgngpbcbnfmoiaa.LatS.GU.lt hv b hb
    have h2 := g2 b h
    omega
theorem gu_of_R {w : World} {base : Nat} {ok : Nat → Prop} {v : Value} {l : List Int} (h : (Kd.int .u8).R 5 w base ok v l) : GU w v (l.map (Value.int .u8)) ∧ ∀ b, v.ownBlock = some b → base ≤ b :=
  ⟨GU.of_gv (gv_of_R h).1, (gv_of_R h).2⟩
theorem unpack_in (w : List Int) (n : Nat) : ∀ x ∈ unpack w n, 0 ≤ x ∧ x < 256 := by
  intro x hx
  obtain ⟨i, _, rfl⟩ := List.mem_map.1 hx
  unfold byteAt
  omega
theorem unpack_two (w : List Int) (hw : inW w) (hl : w.length ≤ 17592186043904) (n : Int) (hn : -9223372036854775808 ≤ n ∧ n < 9223372036854775808) :
    ∃ (r1 : List Int) (r2 : Int), Ev (fun k => word_Unpack.f k w n) (r1, r2) ∧ Ev (fun k => larderref1_Unpack.f k w n) (r1, r2) ∧ (∀ x ∈ r1, 0 ≤ x ∧ x < 256) ∧ r1.length ≤ 200000000000000 := by
  by_cases c : n < 0 ∨ 8 * (w.length : Int) < n
  · exact ⟨_, _, Unpack_bad w n hn c, RefS.Unpack_bad w n hn c, fun x hx => (by cases hx), by simp⟩
  · obtain ⟨m, rfl⟩ := Int.eq_ofNat_of_zero_le (show 0 ≤ n by omega)
    exact ⟨_, _, Unpack_ok w m (by omega) (by omega), RefS.Unpack_ok w hw m (by omega) (by omega) (by omega), unpack_in w m, by rw [RefS.unpack_len]; omega⟩
section
variable (a1 a2 a3 a4 a5 a6 : Int) (A7 : Option Addr) (c7 : Nat) (l7 : List Int) (A8 : Option Addr) (c8 : Nat) (l8 : List Int) (w : World)
set_option maxHeartbeats 1600000 in
theorem texts5 (h1 : -9223372036854775808 ≤ a1 ∧ a1 < 9223372036854775808) (hr8 : Kd.C (Kd.int .u64) w A8 l8.length l8) (hc8 : l8.length ≤ c8) (hi8 : inW l8) (hl8 : l8.length ≤ 17592186043904) :
    Calls Try.prog 28 #[opV 5 a1 a2 a3 a4 a5 a6 A7 c7 l7 A8 c8 l8] w fun e w' => Two w w' e := by
  obtain ⟨r1, r2, hu1, hu2, hb1, hl1⟩ := unpack_two l8 hi8 hl8 a1 h1
  obtain ⟨k1, hk1⟩ := Ev.rounds hu1
  obtain ⟨k2, hk2⟩ := Ev.rounds hu2
  have K1 := Aside0.mk hk1
  have K2 := Aside0.mk hk2
  have K3 := Aside0.mk (And.intro hb1 hl1)
  have H8w := Aside0.mk hr8
  clear hk1 hk2 hr8 hu1 hu2 hb1 hl1 hi8
  go_enter Try.func28, Try.ntmps28
  go_wp2_with (first | ((with_reducible refine gate_dst (N := 1) rfl ?_); refine box_event ?hg (N := 1) ?hd (cs := #[.int .i64 5, .int .i64 a1, .int .i64 a2, .int .i64 a3, .int .i64 a4, .int .i64 a5, .int .u64 a6, .slice A7 l7.length c7, .slice A8 l8.length c8]) (t := 71) ?hr ?_; (case hd => rfl); (case hg => rfl); (case hr => first | (go_simp; done) | (go_simp; rfl)); intro gb hg w5 hbox hb; have HB := Aside0.mk hb; have BK := Aside0.mk hbox; clear hb hbox hg; have hcz0 : w5.cell? ⟨gb, 0, none⟩ = some (.int .i64 5) := (blk_cell BK.out 0).trans rfl; have hcz1 : w5.cell? ⟨gb, 1, none⟩ = some (.int .i64 a1) := (blk_cell BK.out 1).trans rfl; have hcz4 : w5.cell? ⟨gb, 4, none⟩ = some (.int .i64 a4) := (blk_cell BK.out 4).trans rfl; have hcz6 : w5.cell? ⟨gb, 6, none⟩ = some (.int .u64 a6) := (blk_cell BK.out 6).trans rfl; have hcz8 : w5.cell? ⟨gb, 8, none⟩ = some (.slice A8 l8.length c8) := (blk_cell BK.out 8).trans rfl))
  refine (word_Unpack.calls k1 A8 c8 l8 a1 r1 r2 _ (Kd.C_below H8w.out HB.out) hc8 K1.out).mono ?_
  rintro e w6 ⟨v6, rfl, hR, hb⟩
  have R6 := Aside0.mk (And.intro hR hb)
  have hd1 : w6.cell? ⟨gb, 1, none⟩ = some (.int .i64 a1) := pw_cell_below hb hcz1
  have hd8 : w6.cell? ⟨gb, 8, none⟩ = some (.slice A8 l8.length c8) := pw_cell_below hb hcz8
  clear hR hb hcz0 hcz1 hcz4 hcz6 hcz8
  go_wp2_with fail
  refine (larderref1_Unpack.calls k2 A8 c8 l8 a1 r1 r2 _ (Kd.C_below H8w.out (below_next HB.out R6.out.2)) hc8 K2.out).mono ?_
  rintro e w7 ⟨v7, rfl, hR, hb⟩
  have R7 := Aside0.mk (And.intro hR hb)
  clear hR hb
  go_wp2_with fail
  go_ret2
  exact two_end HB.out R6.out.1 R6.out.2 (gu_of_R R7.out.1).1 (gu_of_R R7.out.1).2 R7.out.2 K3.out.1 K3.out.2
set_option maxHeartbeats 1600000 in
theorem texts7 (h4 : -9223372036854775808 ≤ a4 ∧ a4 < 9223372036854775808) :
    Calls Try.prog 28 #[opV 7 a1 a2 a3 a4 a5 a6 A7 c7 l7 A8 c8 l8] w fun e w' => Two w w' e := by
  have K1 := Aside0.mk (SpellF.text_some a4 h4)
  have K3 := Aside0.mk (And.intro (textL_in a4) (textL_len a4 h4))
  go_enter Try.func28, Try.ntmps28
  go_wp2_with (first | ((with_reducible refine gate_dst (N := 1) rfl ?_); refine box_event ?hg (N := 1) ?hd (cs := #[.int .i64 7, .int .i64 a1, .int .i64 a2, .int .i64 a3, .int .i64 a4, .int .i64 a5, .int .u64 a6, .slice A7 l7.length c7, .slice A8 l8.length c8]) (t := 71) ?hr ?_; (case hd => rfl); (case hg => rfl); (case hr => first | (go_simp; done) | (go_simp; rfl)); intro gb hg w5 hbox hb; have HB := Aside0.mk hb; have BK := Aside0.mk hbox; clear hb hbox hg; have hcz0 : w5.cell? ⟨gb, 0, none⟩ = some (.int .i64 7) := (blk_cell BK.out 0).trans rfl; have hcz1 : w5.cell? ⟨gb, 1, none⟩ = some (.int .i64 a1) := (blk_cell BK.out 1).trans rfl; have hcz4 : w5.cell? ⟨gb, 4, none⟩ = some (.int .i64 a4) := (blk_cell BK.out 4).trans rfl; have hcz6 : w5.cell? ⟨gb, 6, none⟩ = some (.int .u64 a6) := (blk_cell BK.out 6).trans rfl; have hcz8 : w5.cell? ⟨gb, 8, none⟩ = some (.slice A8 l8.length c8) := (blk_cell BK.out 8).trans rfl))
  have h5d := Aside0.mk (below_next HB.out (Below.refl w5.heap.size w5).drew)
  clear HB BK hcz0 hcz1 hcz6 hcz8
  go_region_held3 (fun w' => w'.cell? ⟨gb, 4, none⟩ = some (.int .i64 a4)) (first | assumption | exact hcz4 | go_keep) (first
    | (go_at_call 33; refine (PB.word_Text.calls a4 (textL a4) _ K1.out).mono ?_; rintro e wa ⟨va, rfl, hR, hb⟩; have RA := Aside0.mk (And.intro hR hb); have hka := pw_cell_below hb (by assumption); clear hR hb)
    | (go_at_call 45; refine (TextU.ref_TextU.calls a4 _ h4).mono ?_; rintro e wb ⟨vb, rfl, hR, hb⟩; have RB := Aside0.mk (And.intro hR hb); have hkb := pw_cell_below hb (by assumption); clear hR hb))
  all_goals go_wp2_with fail
  all_goals go_ret2
  all_goals (first | exact two_end h5d.out RA.out.1 RA.out.2 RB.out.1.1 RB.out.1.2 RB.out.2 K3.out.1 (by have := K3.out.2; omega) | exact two_end2 h5d.out RB.out.1.1 RB.out.1.2 RB.out.2 RA.out.1 RA.out.2 K3.out.1 (by have := K3.out.2; omega))
set_option maxHeartbeats 1600000 in
theorem texts10 (h6 : 0 ≤ a6 ∧ a6 < 18446744073709551616) :
    Calls Try.prog 28 #[opV 10 a1 a2 a3 a4 a5 a6 A7 c7 l7 A8 c8 l8] w fun e w' => Two w w' e := by
  obtain ⟨k2, hk2⟩ := Ev.rounds (RefS.Digits a6.toNat (by omega))
  rw [show ((a6.toNat : Nat) : Int) = a6 by omega] at hk2
  have K1 := Aside0.mk (SpellF.dig_some a6 h6)
  have K2 := Aside0.mk hk2
  have K3 : Aside0 ((∀ x ∈ digitsL a6.toNat, 0 ≤ x ∧ x < 256) ∧ (digitsL a6.toNat).length ≤ 20) := ⟨TextW.digits_le _, digitsL_len 20 _ (by omega) (by decide)⟩
  clear hk2
  go_enter Try.func28, Try.ntmps28
  go_wp2_with (first | ((with_reducible refine gate_dst (N := 1) rfl ?_); refine box_event ?hg (N := 1) ?hd (cs := #[.int .i64 10, .int .i64 a1, .int .i64 a2, .int .i64 a3, .int .i64 a4, .int .i64 a5, .int .u64 a6, .slice A7 l7.length c7, .slice A8 l8.length c8]) (t := 71) ?hr ?_; (case hd => rfl); (case hg => rfl); (case hr => first | (go_simp; done) | (go_simp; rfl)); intro gb hg w5 hbox hb; have HB := Aside0.mk hb; have BK := Aside0.mk hbox; clear hb hbox hg; have hcz0 : w5.cell? ⟨gb, 0, none⟩ = some (.int .i64 10) := (blk_cell BK.out 0).trans rfl; have hcz1 : w5.cell? ⟨gb, 1, none⟩ = some (.int .i64 a1) := (blk_cell BK.out 1).trans rfl; have hcz4 : w5.cell? ⟨gb, 4, none⟩ = some (.int .i64 a4) := (blk_cell BK.out 4).trans rfl; have hcz6 : w5.cell? ⟨gb, 6, none⟩ = some (.int .u64 a6) := (blk_cell BK.out 6).trans rfl; have hcz8 : w5.cell? ⟨gb, 8, none⟩ = some (.slice A8 l8.length c8) := (blk_cell BK.out 8).trans rfl))
  have h5d := Aside0.mk (below_next HB.out (Below.refl w5.heap.size w5).drew)
  clear HB BK hcz0 hcz1 hcz4 hcz8
  go_region_held3 (fun w' => w'.cell? ⟨gb, 6, none⟩ = some (.int .u64 a6)) (first | assumption | exact hcz6 | go_keep) (first
    | (go_at_call 35; refine (word_Digits.calls a6 (digitsL a6.toNat) _ K1.out).mono ?_; rintro e wa ⟨va, rfl, hR, hb⟩; have RA := Aside0.mk (And.intro hR hb); have hka := pw_cell_below hb (by assumption); clear hR hb)
    | (go_at_call 46; refine (PD.larderref1_Digits.calls k2 a6 (digitsL a6.toNat) _ K2.out).mono ?_; rintro e wb ⟨vb, rfl, hR, hb⟩; have RB := Aside0.mk (And.intro hR hb); have hkb := pw_cell_below hb (by assumption); clear hR hb))
  all_goals go_wp2_with fail
  all_goals go_ret2
  all_goals (first | exact two_end h5d.out RA.out.1 RA.out.2 (gu_of_R RB.out.1).1 (gu_of_R RB.out.1).2 RB.out.2 K3.out.1 (by have := K3.out.2; omega) | exact two_end2 h5d.out (gu_of_R RB.out.1).1 (gu_of_R RB.out.1).2 RB.out.2 RA.out.1 RA.out.2 K3.out.1 (by have := K3.out.2; omega))
set_option maxHeartbeats 1600000 in
theorem texts0 (a0 : Int) (n5 : a0 ≠ 5) (n7 : a0 ≠ 7) (n10 : a0 ≠ 10) :
    Calls Try.prog 28 #[opV a0 a1 a2 a3 a4 a5 a6 A7 c7 l7 A8 c8 l8] w fun e w' => Two w w' e := by
  have d5 : (a0 == 5) = false := by simpa using n5
  have d7 : (a0 == 7) = false := by simpa using n7
  have d10 : (a0 == 10) = false := by simpa using n10
  clear n5 n7 n10
  go_enter Try.func28, Try.ntmps28
  go_wp2_with (first | ((with_reducible refine gate_dst (N := 1) rfl ?_); refine box_event ?hg (N := 1) ?hd (cs := #[.int .i64 a0, .int .i64 a1, .int .i64 a2, .int .i64 a3, .int .i64 a4, .int .i64 a5, .int .u64 a6, .slice A7 l7.length c7, .slice A8 l8.length c8]) (t := 71) ?hr ?_; (case hd => rfl); (case hg => rfl); (case hr => first | (go_simp; done) | (go_simp; rfl)); intro gb hg w5 hbox hb; have HB := Aside0.mk hb; have BK := Aside0.mk hbox; clear hb hbox hg; have hcz0 : w5.cell? ⟨gb, 0, none⟩ = some (.int .i64 a0) := (blk_cell BK.out 0).trans rfl; have hcz1 : w5.cell? ⟨gb, 1, none⟩ = some (.int .i64 a1) := (blk_cell BK.out 1).trans rfl; have hcz4 : w5.cell? ⟨gb, 4, none⟩ = some (.int .i64 a4) := (blk_cell BK.out 4).trans rfl; have hcz6 : w5.cell? ⟨gb, 6, none⟩ = some (.int .u64 a6) := (blk_cell BK.out 6).trans rfl; have hcz8 : w5.cell? ⟨gb, 8, none⟩ = some (.slice A8 l8.length c8) := (blk_cell BK.out 8).trans rfl))
  go_ret2
  exact two_nil _ _ HB.out
theorem texts.calls (a0 : Int) (h1 : -9223372036854775808 ≤ a1 ∧ a1 < 9223372036854775808) (h4 : -9223372036854775808 ≤ a4 ∧ a4 < 9223372036854775808) (h6 : 0 ≤ a6 ∧ a6 < 18446744073709551616) (hr8 : Kd.C (Kd.int .u64) w A8 l8.length l8) (hc8 : l8.length ≤ c8) (hi8 : inW l8) (hl8 : l8.length ≤ 17592186043904) :
    Calls Try.prog 28 #[opV a0 a1 a2 a3 a4 a5 a6 A7 c7 l7 A8 c8 l8] w fun e w' => Two w w' e := by
  by_cases n5 : a0 = 5
  · subst n5; exact texts5 a1 a2 a3 a4 a5 a6 A7 c7 l7 A8 c8 l8 w h1 hr8 hc8 hi8 hl8
  by_cases n7 : a0 = 7
  · subst n7; exact texts7 a1 a2 a3 a4 a5 a6 A7 c7 l7 A8 c8 l8 w h4
  by_cases n10 : a0 = 10
  · subst n10; exact texts10 a1 a2 a3 a4 a5 a6 A7 c7 l7 A8 c8 l8 w h6
  exact texts0 a1 a2 a3 a4 a5 a6 A7 c7 l7 A8 c8 l8 w a0 n5 n7 n10
end
end Go.Proofs.Ytgngpbcbnfmoiaa.TxtW
end

section
/- WordFresh walked. -/
namespace Go.Proofs.Ytgngpbcbnfmoiaa.FreW
open Go Go.RowKit Go.Proofs.YtgngpbcbnfmoiaaW.PrintWords Go.Proofs.YtgngpbcbnfmoiaaW.PrintLast Go.Proofs.YtgngpbcbnfmoiaaW.PrintMore Go.Proofs.Ytgngpbcbnfmoiaa.RowU Go.Proofs.Ytgngpbcbnfmoiaa.ArM Go.Proofs.Ytgngpbcbnfmoiaa.GenM Go.Proofs.Ytgngpbcbnfmoiaa.GenN Go.Proofs.Ytgngpbcbnfmoiaa.BokA Go.Proofs.Ytgngpbcbnfmoiaa.BokB Go.Proofs.Ytgngpbcbnfmoiaa.BokG Go.Proofs.Ytgngpbcbnfmoiaa.BokS Go.Proofs.Ytgngpbcbnfmoiaa.FreM Go.Proofs.Ytgngpbcbnfmoiaa.LatS Go.Proofs.Ytgngpbcbnfmoiaa.SetW Go.Proofs.Ytgngpbcbnfmoiaa.FreQ Go.Proofs.Ytgngpbcbnfmoiaa.FreO Go.Proofs.Ytgngpbcbnfmoiaa.Open Go.Proofs.Ytgngpbcbnfmoiaa.ArgsW Go.Proofs.Ytgngpbcbnfmoiaa.TxtW Go.Proofs.Ytgngpbcbnfmoiaa.WordS Go.Proofs.Ytgngpbcbnfmoiaa.PA
set_option linter.unusedVariables false
set_option maxRecDepth 100000

theorem zb_cells (j : Nat) (hj : j < 33) : (#[.slice none 0 0, .slice none 0 0, .int .i64 0, .slice none 0 0, .slice none 0 0, .int .i64 0, .slice none 0 0, .slice none 0 0, .int .i64 0, .slice none 0 0, .slice none 0 0, .int .i64 0, .slice none 0 0, .slice none 0 0, .int .i64 0, .slice none 0 0, .slice none 0 0, .int .i64 0, .slice none 0 0, .slice none 0 0, .int .i64 0, .slice none 0 0, .slice none 0 0, .int .i64 0, .slice none 0 0, .slice none 0 0, .int .i64 0, .slice none 0 0, .slice none 0 0, .int .i64 0, .int .i64 0, .int .i64 0, .int .i64 0] : Array Value)[j]? = some (bkC (.slice none 0 0) (.slice none 0 0) 0 (.slice none 0 0) (.slice none 0 0) 0 0 0 0 j) := by
  match j, hj with
  | 0, _ | 1, _ | 2, _ | 3, _ | 4, _ | 5, _ | 6, _ | 7, _ | 8, _ | 9, _ | 10, _ | 11, _ | 12, _ | 13, _ | 14, _ | 15, _ | 16, _ | 17, _ | 18, _ | 19, _ | 20, _ | 21, _ | 22, _ | 23, _ | 24, _ | 25, _ | 26, _ | 27, _ | 28, _ | 29, _ | 30, _ | 31, _ | 32, _ => rfl
  | n + 33, h => omega
set_option maxHeartbeats 16000000 in
theorem walk (y : List WOp) (v : Value) (W : World) (hK : (Kd.slice 71 kOp).K W y [v]) (hg : GoodL 104 gOp y) :
    Calls Try.prog 6 #[v] W fun e w' => e = .returned (.bool true) ∧ Below W.heap.size W w' := by
  obtain ⟨A, c, hv, hl, hC⟩ := hK
  obtain rfl : v = .slice A y.length c := by simpa using hv
  have HC := Aside0.mk hC
  have HG := Aside0.mk hg.2
  have hlen : y.length ≤ 140737488351232 := by have := hg.1; omega
  clear hC hg hv
  have HB0 := Aside0.mk (Below.refl W.heap.size W)
  go_enter Try.func6, Try.ntmps6
  go_upto_region 2 with ((with_reducible refine gate_dst (N := 15) rfl ?_); refine box_event ?hg (N := 15) ?hd (cs := #[.slice none 0 0, .slice none 0 0, .int .i64 0, .slice none 0 0, .slice none 0 0, .int .i64 0, .slice none 0 0, .slice none 0 0, .int .i64 0, .slice none 0 0, .slice none 0 0, .int .i64 0, .slice none 0 0, .slice none 0 0, .int .i64 0, .slice none 0 0, .slice none 0 0, .int .i64 0, .slice none 0 0, .slice none 0 0, .int .i64 0, .slice none 0 0, .slice none 0 0, .int .i64 0, .slice none 0 0, .slice none 0 0, .int .i64 0, .slice none 0 0, .slice none 0 0, .int .i64 0, .int .i64 0, .int .i64 0, .int .i64 0]) (t := 63) ?hr ?_; (case hd => rfl); (case hg => rfl); (case hr => first | (go_simp; done) | (go_simp; rfl)); intro gb hgb w1 hbox hb; have B1 := Aside0.mk hbox; have H1 := Aside0.mk hb; have G1 := Aside0.mk hgb; clear hbox hb hgb)
  go_upto_region 3 with ((with_reducible refine gate_dst (N := 17) rfl ?_); refine box_event ?hg (N := 17) ?hd (cs := #[.slice none 0 0, .slice none 0 0]) (t := 66) ?hr ?_; (case hd => rfl); (case hg => rfl); (case hr => first | (go_simp; done) | (go_simp; rfl)); intro gl hgl w2 hbox hb; have B2 := Aside0.mk hbox; have H2 := Aside0.mk hb; have G2 := Aside0.mk hgl; clear hbox hb hgl)
  go_upto_region 4 with ((with_reducible refine gate_dst (N := 19) rfl ?_); refine box_event ?hg (N := 19) ?hd (cs := #[.slice none 0 0, .slice none 0 0]) (t := 69) ?hr ?_; (case hd => rfl); (case hg => rfl); (case hr => first | (go_simp; done) | (go_simp; rfl)); intro gw hgw w3 hbox hb; have B3 := Aside0.mk hbox; have H3 := Aside0.mk hb; have G3 := Aside0.mk hgw; clear hbox hb hgw)
  obtain ⟨q0, hq0⟩ : ∃ q, FrC W w3 gb gl gw none q 0 := FrC.start (below_next (below_next H1.out H2.out) H3.out) (blk_below (blk_below B1.out H2.out) H3.out) zb_cells (blk_below B2.out H3.out) B3.out (by rw [G1.out]; exact Nat.le_refl _) (by rw [G2.out]; exact H1.out.size) (by rw [G3.out]; exact Nat.le_trans H1.out.size H2.out.size) ⟨by have := cell_lt B1.out; have := G2.out; omega, by have := cell_lt B1.out; have := H2.out.size; have := G3.out; omega, by have := cell_lt B2.out; have := G3.out; omega⟩
  have HQ0 := Aside0.mk hq0
  clear hq0 B1 B2 B3 H1 H2 H3 G1 G2 G3
  go_upto_region 5 with fail
  go_loopw [6] (fun i wr => ∃ (k : Nat) (q : Q), k ≤ y.length ∧ k ≤ 400 ∧ i = .int .i64 k ∧ Aside0 (FrC W wr gb gl gw none q (4 * k))) (fun i _ => y.length - (intOf i).toNat)
  case atStart => exact ⟨0, q0, by omega, by omega, rfl, HQ0⟩
  case round =>
    obtain ⟨k, q, hk, hk4, rfl, HQ⟩ := hrel
    clear HQ0
    rename World => wr
    by_cases hlt : k < y.length
    · have hlt' : (k : Int) < y.length := by omega
      by_cases h400 : k < 400
      · have h400' : (k : Int) < 400 := by omega
        obtain ⟨ad, a0, a1, a2, a3, a4, a5, a6, l7, l8, A7, c7, A8, c8, rfl, q7, r7, q8, r8, gg, cells⟩ := op_cells HC.out HG.out k hlt
        obtain ⟨gg0, gg1, gg4, gg6, gg7, gg8⟩ := gg
        have H7 := Aside0.mk (And.intro q7 (And.intro r7 (And.intro (gBytes_in gg7) (gBytes_len gg7))))
        have H8 := Aside0.mk (And.intro q8 (And.intro r8 (And.intro (show inW l8 from fun x hx => wf_u64 (gg8.2 x hx)) (show l8.length ≤ 17592186043904 by have := gg8.1; omega))))
        have H146 := Aside0.mk (And.intro (wf_i64 gg1) (And.intro (wf_i64 gg4) (wf_u64 gg6)))
        have HKC : Aside0 (∀ j u, (opCells a0 a1 a2 a3 a4 a5 a6 A7 l7.length c7 A8 l8.length c8)[j]? = some u → wr.cell? ((ad.add (k * 9)).add j) = some u) := ⟨fun j u hu => (HQ.out.bel.cell (World.block_lt_of_cell? _ _ (cells j u hu))).trans (cells j u hu)⟩
        have HSZ := Aside0.mk (show (Try.prog.info? 71).map (·.size) = some 9 by kernel_rfl)
        have HONE := Aside0.mk (show (#[.int .i64 a0, .int .i64 a1, .int .i64 a2, .int .i64 a3, .int .i64 a4, .int .i64 a5, .int .u64 a6, .slice A7 l7.length c7, .slice A8 l8.length c8] : Array Value).all (·.oneCell') = true by
          rw [Array.all_eq_true_iff_forall_mem]
          intro v hv
          have hv : v ∈ opCells a0 a1 a2 a3 a4 a5 a6 A7 l7.length c7 A8 l8.length c8 := by simpa [opCells] using hv
          simp only [opCells, List.mem_cons, List.not_mem_nil, or_false] at hv
          rcases hv with rfl | rfl | rfl | rfl | rfl | rfl | rfl | rfl | rfl <;> rfl)
        have HSZ2 := Aside0.mk (show (Try.prog.info? 71).map (·.size) = some (#[.int .i64 a0, .int .i64 a1, .int .i64 a2, .int .i64 a3, .int .i64 a4, .int .i64 a5, .int .u64 a6, .slice A7 l7.length c7, .slice A8 l8.length c8] : Array Value).size by kernel_rfl)
        clear q7 r7 q8 r8 gg0 gg1 gg4 gg6 gg7 gg8 cells
        go_upto_region 8 with (first
          | ((with_reducible refine gate_dst (N := 33) rfl ?_); refine wpList_load_at rfl 71 (.tmp 32) rfl (ad.add (k * 9)) rfl (opCells a0 a1 a2 a3 a4 a5 a6 A7 l7.length c7 A8 l8.length c8) _ HKC.out Try.underlying71 rfl HSZ.out ?_)
          | ((with_reducible refine gate_dst (N := 7) rfl ?_); refine box_event ?hg (N := 7) ?hd (cs := #[.int .i64 0, .int .i64 0, .int .i64 0, .int .i64 0, .int .i64 0, .int .i64 0, .int .u64 0, .slice none 0 0, .slice none 0 0]) (t := 71) ?hr ?_; (case hd => rfl); (case hg => rfl); (case hr => first | (go_simp; done) | (go_simp; rfl)); intro ga hga w7 hbox hb; have BA := Aside0.mk hbox; have HB7 := Aside0.mk hb; have GA := Aside0.mk hga; clear hbox hb hga)
          | ((with_reducible refine gate_store (p := 7) rfl ?_); refine wpList_store_row rfl 71 (.tmp 7) (.tmp 33) rfl ga #[.int .i64 a0, .int .i64 a1, .int .i64 a2, .int .i64 a3, .int .i64 a4, .int .i64 a5, .int .u64 a6, .slice A7 l7.length c7, .slice A8 l8.length c8] rfl rfl 71 #[.int .i64 0, .int .i64 0, .int .i64 0, .int .i64 0, .int .i64 0, .int .i64 0, .int .u64 0, .slice none 0 0, .slice none 0 0] BA.out HSZ2.out rfl HONE.out ?_; obtain ⟨w8, hw8⟩ : ∃ w8, w8 = w7.setRow ga #[.int .i64 a0, .int .i64 a1, .int .i64 a2, .int .i64 a3, .int .i64 a4, .int .i64 a5, .int .u64 a6, .slice A7 l7.length c7, .slice A8 l8.length c8] := ⟨_, rfl⟩; rw [← hw8]; have BC := Aside0.mk (show w8.heap[ga]? = some (.cells #[.int .i64 a0, .int .i64 a1, .int .i64 a2, .int .i64 a3, .int .i64 a4, .int .i64 a5, .int .u64 a6, .slice A7 l7.length c7, .slice A8 l8.length c8] 71 (0, 0)) by rw [hw8]; exact setRow_heap _ _ _ _ _ _ BA.out); have HB8 := Aside0.mk (show Below wr.heap.size wr w8 by rw [hw8]; exact below_setRow HB7.out (by rw [GA.out]; exact Nat.le_refl _) _); clear hw8))
        have HQ8 := Aside0.mk (HQ.out.box HB8.out (by rw [GA.out]; exact Nat.le_refl _) BC.out)
        clear HQ HSZ HSZ2 HONE HB7 HB8 BA BC GA HKC
        go_upto_block 2 with fail
        generalize Value.agg (opCells a0 a1 a2 a3 a4 a5 a6 A7 l7.length c7 A8 l8.length c8).toArray = vo
        go_cut [8, 9, 10] (fun v8 v9 v10 wc => ∃ (q' : Q), Aside0 (FrC W wc gb gl gw (some (ga, .cells #[.int .i64 a0, .int .i64 a1, .int .i64 a2, .int .i64 a3, .int .i64 a4, .int .i64 a5, .int .u64 a6, .slice A7 l7.length c7, .slice A8 l8.length c8] 71 (0, 0))) q' (4 * k + 2)))
        case first =>
          go_upto_region 9 with fail
          go_loopw [8] (fun i wq => ∃ (j : Nat) (q : Q), j ≤ 2 ∧ i = .int .i64 j ∧ Aside0 (FrC W wq gb gl gw (some (ga, .cells #[.int .i64 a0, .int .i64 a1, .int .i64 a2, .int .i64 a3, .int .i64 a4, .int .i64 a5, .int .u64 a6, .slice A7 l7.length c7, .slice A8 l8.length c8] 71 (0, 0))) q (4 * k + j))) (fun i _ => 2 - (intOf i).toNat)
          case atStart => exact ⟨0, q, by omega, rfl, HQ8⟩
          case round =>
            obtain ⟨j, q, hj, rfl, HQ⟩ := hrel
            clear HQ8
            rename World => wq
            have hbox := (HQ.out.bx _ _ rfl).1
            have hx0 : wq.cell? ⟨ga, 0, none⟩ = some (.int .i64 a0) := (blk_cell hbox 0).trans rfl
            have hx7 : wq.cell? ⟨ga, 7, none⟩ = some (.slice A7 l7.length c7) := (blk_cell hbox 7).trans rfl
            clear hbox
            by_cases h2 : j < 2
            · have h2' : (j : Int) < 2 := by omega
              by_cases h4 : a0 = 4
              · obtain ⟨k1, hk1⟩ := Ev.rounds (WordS.Pack l7 H7.out.2.2.1 (by have := H7.out.2.2.2; omega))
                obtain ⟨k2, hk2⟩ := Ev.rounds (RefS.Pack l7 H7.out.2.2.1 H7.out.2.2.2)
                obtain ⟨k3, hk3⟩ := Ev.rounds (RefS.sameWords (pack l7) (PL.pack_bound l7 H7.out.2.2.2))
                have K1 := Aside0.mk hk1
                have K2 := Aside0.mk hk2
                have K3 := Aside0.mk hk3
                clear hk1 hk2 hk3
                go_wp2_with fail
                refine (word_Pack.calls k1 A7 c7 l7 (pack l7) _ (Kd.C_below H7.out.2.1 HQ.out.bel) H7.out.1 K1.out).mono ?_
                rintro e w9 ⟨v9, rfl, hR, hb⟩
                have R9 := Aside0.mk (And.intro hR hb)
                have HQ9 := Aside0.mk (HQ.out.below hb)
                have hx7' : w9.cell? ⟨ga, 7, none⟩ = some (.slice A7 l7.length c7) := pw_cell_below hb hx7
                clear hx7 hx0
                obtain ⟨Ap, cp, rfl, hcp, hCp⟩ := Kd.R_reads hR
                have HCp := Aside0.mk hCp
                clear hR hb hCp
                go_wp2_with fail
                refine (larderref1_Pack.calls k2 A7 c7 l7 (pack l7) _ (Kd.C_below H7.out.2.1 HQ9.out.bel) H7.out.1 K2.out).mono ?_
                rintro e wa ⟨va, rfl, hR, hb⟩
                have Ra := Aside0.mk (And.intro hR hb)
                have HQa := Aside0.mk (HQ9.out.below hb)
                have HCp2 := Aside0.mk (Kd.C_below HCp.out hb)
                clear hx7' HCp
                obtain ⟨Aq, cq, rfl, hcq, hCq⟩ := Kd.R_reads hR
                have HCq := Aside0.mk hCq
                clear hR hb hCq
                go_wp2_with fail
                refine (larderlaw1_sameWords.calls k3 Ap cp (pack l7) Aq cq (pack l7) true _ HCp2.out hcp HCq.out hcq K3.out).mono ?_
                rintro e wb ⟨rfl, hd⟩
                have HQb := Aside0.mk (HQa.out.below hd.below)
                have HG9 := Aside0.mk (And.intro ((gv_of_R R9.out.1).1.upd (S := none_) (Upd.of_below (below_next Ra.out.2 hd.below)) (fun _ _ h => h)) (gv_of_R R9.out.1).2)
                have HGa := Aside0.mk (And.intro ((gv_of_R Ra.out.1).1.upd (S := none_) (Upd.of_below hd.below) (fun _ _ h => h)) (gv_of_R Ra.out.1).2)
                clear hd
                have hy0 : wb.cell? ⟨gw, 0, none⟩ = some q.vg2 := (blk_cell HQb.out.hw 0).trans rfl
                go_upto_region 16 with ((with_reducible refine gate_builtin (b := .append) (xs := #[.tmp 57, .tmp 59]) rfl ?_); at_builtin; refine wpList_gen2 _ rfl (.tmp 57) (.tmp 59) 54 43 rfl Try.underlying54 (.slice none 0 0) 24 (by kernel_rfl) rfl (by decide) q.vg2 (gs q.it2) rfl ?hv ⟨wb.heap.size, 0, none⟩ (.slice Ap (pack l7).length cp) rfl ?hc rfl ?hb ?_; (case hv => exact HQb.out.pW.tg.upd (S := none_) (Upd.of_below (below_alloc (Below.refl _ _) _)) (fun _ _ h => h)); (case hc => exact cell_one_new _ _ _ 0 _ rfl); (case hb => rw [gs_len]; have := HQb.out.cnt; omega); intro v2 w2 hr; obtain ⟨g2, c2, rfl⟩ := hr.form; have R2 := Aside0.mk hr; clear hr hy0; have HD2 := Aside0.mk (blk_upd (blk_below HQb.out.hw (below_alloc (Below.refl _ _) _)) R2.out.upd (fun e => by have := HQb.out.pW.gT _ e; rw [HQb.out.lo2_n.2.2] at this; cases this)); have hfz := blk_frozen HD2.out 0; have hy0 : w2.cell? ⟨gw, 0, none⟩ = some q.vg2 := (blk_cell HD2.out 0).trans rfl)
                clear hfz hy0
                obtain ⟨w3, hw3⟩ : ∃ w3, w3 = w2.setCell ⟨gw, 0, none⟩ (.slice (some ⟨g2, 0, none⟩) ((gs q.it2).length + 1) c2) := ⟨_, rfl⟩
                rw [← hw3]
                have HW3 := Aside0.mk hw3
                have HD3 := Aside0.mk (show w3.heap[gw]? = some (.cells #[.slice (some ⟨g2, 0, none⟩) ((gs q.it2).length + 1) c2, q.vw2] 69 (0, 0)) by rw [hw3]; exact blk_set HD2.out 0 _)
                have hy1 : w3.cell? ⟨gw, 1, none⟩ = some q.vw2 := (blk_cell HD3.out 1).trans rfl
                have U03 := Aside0.mk (show Upd (fun b => b = gw ∨ q.vg2.ownBlock = some b) wb w3 by
                  rw [hw3]
                  exact ((Upd.of_below (below_alloc (Below.refl _ _) _)).trans (R2.out.upd.mono (fun b h => .inr h))).put (.inl (.inl rfl)) _ _)
                have HTW : Aside0 (GV 43 w3 q.vw2 (us q.it2)) := ⟨HQb.out.pW.tw.upd U03.out (fun b hb => by
                  have h2 := HQb.out.pW.wT b hb
                  rintro (rfl | h1)
                  · rw [HQb.out.lo2_n.2.2] at h2; cases h2
                  · have h3 := HQb.out.pW.gT b h1
                    rw [h2] at h3; simp at h3)⟩
                clear hw3
                go_upto_region 99 with ((with_reducible refine gate_builtin (b := .append) (xs := #[.tmp 67, .tmp 69]) rfl ?_); at_builtin; refine wpList_gen2 _ rfl (.tmp 67) (.tmp 69) 54 43 rfl Try.underlying54 (.slice none 0 0) 24 (by kernel_rfl) rfl (by decide) q.vw2 (us q.it2) rfl ?hv ⟨w3.heap.size, 0, none⟩ (.slice Aq (pack l7).length cq) rfl ?hc rfl ?hb ?_; (case hv => exact HTW.out.upd (S := none_) (Upd.of_below (below_alloc (Below.refl _ _) _)) (fun _ _ h => h)); (case hc => exact cell_one_new _ _ _ 0 _ rfl); (case hb => rw [us_len]; have := HQb.out.cnt; omega); intro v5 w5 hr; obtain ⟨g5, c5, rfl⟩ := hr.form; have R5 := Aside0.mk hr; clear hr hy1; have HD5 := Aside0.mk (blk_upd (blk_below HD3.out (below_alloc (Below.refl _ _) _)) R5.out.upd (fun e => by have := HQb.out.pW.wT _ e; rw [HQb.out.lo2_n.2.2] at this; cases this)); have hfz := blk_frozen HD5.out 1; have hy1 : w5.cell? ⟨gw, 1, none⟩ = some q.vw2 := (blk_cell HD5.out 1).trans rfl)
                go_wp2_with fail
                clear hfz hy1
                have hfr : ∀ b, wq.heap.size ≤ b → ¬ q.mine gb gl gw b ∧ W.heap.size ≤ b ∧ ∀ o, some (ga, Obj.cells #[.int .i64 a0, .int .i64 a1, .int .i64 a2, .int .i64 a3, .int .i64 a4, .int .i64 a5, .int .u64 a6, .slice A7 l7.length c7, .slice A8 l8.length c8] 71 (0, 0)) ≠ some (b, o) := fun b hb => HQ.out.fresh hb
                have s9 := R9.out.2.size
                have sab := HGa.out.1.lt
                have U4 : Upd (fun b => b = gw ∨ q.vg2.ownBlock = some b) wb (w3.alloc (.cells #[.slice Aq (pack l7).length cq] 43)) := U03.out.trans (Upd.of_below (below_alloc (Below.refl _ _) _))
                have hA := Pn.added (Th := 69) (uT := fun b => (Value.slice Aq (pack l7).length cq).ownBlock = some b) HQb.out.pW HQb.out.hw HQb.out.lo2_n.2.2 HQb.out.lo2_lt (below_alloc (Below.refl _ _) _) R2.out.gv R2.out.block R2.out.upd HW3.out (below_alloc (Below.refl _ _) _) R5.out.gv R5.out.block R5.out.upd rfl HG9.out.1
                  (fun b hb => by have h1 := not_mine (hfr b (HG9.out.2 b hb)).1; exact ⟨h1.2.2.2.2.2, h1.2.2.1⟩)
                  (GU.of_gv (HGa.out.1.upd U4 (fun b hb => by
                    have h1 := not_mine (hfr b (Nat.le_trans s9 (HGa.out.2 b hb))).1
                    rintro (h2 | h2)
                    · exact h1.2.2.1 h2
                    · have h3 := HQb.out.pW.gT b h2; rw [h1.2.2.2.2.2] at h3; cases h3)))
                  (fun b hb => by
                    have h1 := not_mine (hfr b (Nat.le_trans s9 (HGa.out.2 b hb))).1
                    refine ⟨.inr ⟨sab b hb, h1.2.2.2.2.2, hb⟩, h1.2.2.1, fun h2 => ?_⟩
                    have h3 := (gv_of_R R9.out.1).1.lt b h2
                    have h4 := HGa.out.2 b hb
                    omega)
                  (by rw [List.length_map, pack_len]; have := H7.out.2.2.2; omega)
                obtain ⟨q', hq'⟩ := HQb.out.addW hA (fun b hb => hfr b (HG9.out.2 b hb)) (fun b hb => hfr b (Nat.le_trans s9 (HGa.out.2 b hb)))
                have HQ' := Aside0.mk hq'
                clear hq' hA U4 hfr sab s9
                go_roundw
                case measure => simp only [intOf]; omega
                case rel => first | exact ⟨j + 1, q', by omega, by rw [Int.natCast_succ], HQ'⟩ | ((repeat apply Exists.intro); exact ⟨⟨j + 1, q', by omega, by rw [Int.natCast_succ], HQ'⟩, rfl⟩)
              · clear hx7
                go_wp2_with fail
                go_meet
                exact ⟨q, ⟨HQ.out.more (by omega)⟩⟩
            · obtain rfl : j = 2 := by omega
              clear hx7
              go_wp2_with fail
              go_meet
              exact ⟨q, HQ⟩
        case rest =>
          obtain ⟨q1, HQ1⟩ := hcut
          rename World => w1c
          clear HQ8
          go_upto_block 4 with fail
          go_cut [11, 12, 13] (fun v11 v12 v13 wc => ∃ (q' : Q), Aside0 (FrC W wc gb gl gw (some (ga, .cells #[.int .i64 a0, .int .i64 a1, .int .i64 a2, .int .i64 a3, .int .i64 a4, .int .i64 a5, .int .u64 a6, .slice A7 l7.length c7, .slice A8 l8.length c8] 71 (0, 0))) q' (4 * k + 4)))
          case first =>
            go_upto_region 18 with fail
            go_loopw [11] (fun i wq => ∃ (j : Nat) (q : Q), j ≤ 2 ∧ i = .int .i64 j ∧ Aside0 (FrC W wq gb gl gw (some (ga, .cells #[.int .i64 a0, .int .i64 a1, .int .i64 a2, .int .i64 a3, .int .i64 a4, .int .i64 a5, .int .u64 a6, .slice A7 l7.length c7, .slice A8 l8.length c8] 71 (0, 0))) q (4 * k + 2 + j))) (fun i _ => 2 - (intOf i).toNat)
            case atStart => exact ⟨0, q1, by omega, rfl, HQ1⟩
            case round =>
              obtain ⟨j, q, hj, rfl, HQ⟩ := hrel
              clear HQ1
              rename World => wq
              go_upto_region 18 with fail
              go_cut [89] (fun v89 wc => ∃ b : Bool, v89 = .bool b ∧ wc = wq ∧ Aside0 (b = true → j < 2))
              case first =>
                have hbox := (HQ.out.bx _ _ rfl).1
                have hx0 : wq.cell? ⟨ga, 0, none⟩ = some (.int .i64 a0) := (blk_cell hbox 0).trans rfl
                clear hbox
                by_cases h2 : j < 2
                · have h2' : (j : Int) < 2 := by omega
                  have HJ := Aside0.mk h2
                  have f5 : (a0 == 5) = decide (a0 = 5) := by simp [BEq.beq]
                  by_cases h5 : a0 = 5
                  · go_wp2_with fail
                    go_meet
                    exact ⟨_, rfl, rfl, ⟨fun _ => HJ.out⟩⟩
                  by_cases h7 : a0 = 7
                  · go_wp2_with fail
                    go_meet
                    exact ⟨_, rfl, rfl, ⟨fun _ => HJ.out⟩⟩
                  by_cases h10 : a0 = 10
                  · go_wp2_with fail
                    go_meet
                    exact ⟨_, rfl, rfl, ⟨fun _ => HJ.out⟩⟩
                  go_wp2_with fail
                  go_meet
                  exact ⟨_, rfl, rfl, ⟨fun _ => HJ.out⟩⟩
                · obtain rfl : j = 2 := by omega
                  go_wp2_with fail
                  go_meet
                  exact ⟨false, rfl, rfl, ⟨fun h => by cases h⟩⟩
              case rest =>
                obtain ⟨b, rfl, rfl, HJ⟩ := hcut
                cases b with
                | false =>
                  go_wp2_with fail
                  go_meet
                  exact ⟨q, ⟨HQ.out.more (by omega)⟩⟩
                | true =>
                  have hj2 := HJ.out rfl
                  clear HJ
                  have HSZ2 := Aside0.mk (show (Try.prog.info? 71).map (·.size) = some (#[.int .i64 a0, .int .i64 a1, .int .i64 a2, .int .i64 a3, .int .i64 a4, .int .i64 a5, .int .u64 a6, .slice A7 l7.length c7, .slice A8 l8.length c8] : Array Value).size by kernel_rfl)
                  have BX := Aside0.mk (HQ.out.bx _ _ rfl).1
                  go_wp2_with ((with_reducible refine gate_dst (N := 93) rfl ?_); refine wpList_load_row rfl 71 (.tmp 7) rfl ga rfl 71 #[.int .i64 a0, .int .i64 a1, .int .i64 a2, .int .i64 a3, .int .i64 a4, .int .i64 a5, .int .u64 a6, .slice A7 l7.length c7, .slice A8 l8.length c8] (0, 0) _ BX.out Try.underlying71 rfl HSZ2.out ?_)
                  clear HSZ2 BX
                  refine (texts.calls a1 a2 a3 a4 a5 a6 A7 c7 l7 A8 c8 l8 _ a0 H146.out.1 H146.out.2.1 H146.out.2.2 (Kd.C_below H8.out.2.1 HQ.out.bel) H8.out.1 H8.out.2.2.1 H8.out.2.2.2).mono ?_
                  rintro e w9 ⟨v1, v2, ls, rfl, t1, t2, t3, t4, t5, t6, tb⟩
                  have HQ9 := Aside0.mk (HQ.out.below tb)
                  obtain ⟨Av, cv, rfl⟩ := t1.slice
                  obtain ⟨Au, cu, rfl⟩ := t3.slice
                  rw [List.length_map] at t1 t2 t3 t4
                  rw [List.length_map]
                  obtain ⟨_, gv2, gv3⟩ := gu_reads (GU.of_gv t1)
                  obtain ⟨_, gu2, gu3⟩ := gu_reads t3
                  have HV := Aside0.mk (And.intro t1 (And.intro t2 (And.intro gv2 gv3)))
                  have HU := Aside0.mk (And.intro t3 (And.intro t4 (And.intro gu2 gu3)))
                  have HL := Aside0.mk (And.intro t5 t6)
                  clear t1 t2 t3 t4 t5 t6 tb gv2 gv3 gu2 gu3
                  go_wp2_with fail
                  refine (larderlaw1_sameBytes.calls Av cv ls Au cu ls true _ HV.out.2.2.2 HV.out.2.2.1 HU.out.2.2.2 HU.out.2.2.1 (PL.same_refl ls)).mono ?_
                  rintro e wa ⟨rfl, hd⟩
                  have HQa := Aside0.mk (HQ9.out.below hd.below)
                  have HVa := Aside0.mk (HV.out.1.upd (S := none_) (Upd.of_below hd.below) (fun _ _ h => h))
                  have HUa := Aside0.mk (HU.out.1.upd (S := none_) (Upd.of_below hd.below) (fun _ _ h => h))
                  clear hd
                  go_wp2_with fail
                  refine (LatA.add.calls HQa.out.pB HQa.out.hl HQa.out.lo1_n.2.1 HQa.out.lo1_lt (by have := HQa.out.cnt; omega) Av ls.length cv ls HVa.out (fun b hb => by have h1 := not_mine (HQ.out.fresh (HV.out.2.1 b hb)).1; exact ⟨h1.2.2.2.2.1, h1.2.1⟩) Au ls.length cu HUa.out (fun b hb => by have h1 := not_mine (HQ.out.fresh (HU.out.2.1 b hb).1).1; exact ⟨h1.2.2.2.2.1, h1.2.1⟩) HL.out.1 HL.out.2).mono ?_
                  rintro e wb ⟨rfl, hA⟩
                  obtain ⟨q', hq'⟩ := HQa.out.addB hA (fun b hb => HQ.out.fresh (HV.out.2.1 b hb))
                  have HQ' := Aside0.mk hq'
                  clear hq' hA
                  go_wp2_with fail
                  exact ⟨⟨j + 1, q', by omega, by rw [Int.natCast_succ], HQ'⟩, by simp only [intOf]; omega⟩
          case rest =>
            obtain ⟨q2, HQ2⟩ := hcut
            rename World => w2c
            clear HQ1
            have HQn := Aside0.mk HQ2.out.noBox
            clear HQ2
            go_upto_region 24 with fail
            go_cut [119] (fun v119 wc => ∃ q : Q, v119 = .bool false ∧ Aside0 (FrC W wc gb gl gw none q (4 * k + 4)))
            case first =>
              go_wp2_with fail
              refine (SetB.settle.calls HQn.out.bk HQn.out.pB HQn.out.hl HQn.out.ow_n.1 (fun b hb => (HQn.out.d1 b hb).1) HQn.out.lo1_n.1 HQn.out.lo1_n.2.1 HQn.out.ne.1 HQn.out.uB (by have := HQn.out.cnt; omega) (by have := HQn.out.cnt; omega) 5).mono ?_
              rintro e wa ⟨rfl, hA⟩
              obtain ⟨q', hq'⟩ : ∃ q', FrC W wa gb gl gw none q' (4 * k + 4) := by
                rcases hA with ⟨_, hb⟩ | hA
                · exact ⟨q2, HQn.out.below hb⟩
                · exact HQn.out.setB hA
              have HQ' := Aside0.mk hq'
              clear hq' hA HQn
              by_cases c3 : k % 3 = 2
              · have c3' : (k : Int) % 3 = 2 := by omega
                have e3 : Int.tmod (k : Int) 3 = 2 := by rw [Int.tmod_eq_emod_of_nonneg (by omega)]; exact c3'
                go_wp2_with fail
                refine (SetW.settle.calls HQ'.out.bk HQ'.out.pW HQ'.out.hw HQ'.out.ow_n.2 (fun b hb => (HQ'.out.d2 b hb).1) HQ'.out.lo2_n.1 HQ'.out.lo2_n.2.2 HQ'.out.ne.2.1 HQ'.out.uW (by have := HQ'.out.cnt; omega) (by have := HQ'.out.cnt; omega)).mono ?_
                rintro e wb ⟨rfl, hA⟩
                obtain ⟨q'', hq'⟩ := HQ'.out.setW hA
                have HQ'' := Aside0.mk hq'
                clear hq' hA HQ'
                go_wp2_with fail
                go_meet
                exact ⟨q'', rfl, HQ''⟩
              · have c3' : ¬ (k : Int) % 3 = 2 := by omega
                have e3 : ¬ Int.tmod (k : Int) 3 = 2 := by rw [Int.tmod_eq_emod_of_nonneg (by omega)]; exact c3'
                go_wp2_with fail
                go_meet
                exact ⟨q', rfl, HQ'⟩
            case rest =>
              obtain ⟨q3, rfl, HQ3⟩ := hcut
              rename World => w3c
              clear HQn
              go_wp2_with fail
              exact ⟨⟨k + 1, q3, by omega, by omega, by rw [Int.natCast_succ], ⟨by have := HQ3.out; rw [show 4 * (k + 1) = 4 * k + 4 by omega]; exact this⟩⟩, by simp only [intOf]; omega⟩
      · have h400' : ¬ (k : Int) < 400 := by omega
        clear h400
        go_wp2_with fail
        refine (SetB.settle.calls HQ.out.bk HQ.out.pB HQ.out.hl HQ.out.ow_n.1 (fun b hb => (HQ.out.d1 b hb).1) HQ.out.lo1_n.1 HQ.out.lo1_n.2.1 HQ.out.ne.1 HQ.out.uB (by have := HQ.out.cnt; omega) (by have := HQ.out.cnt; omega) 0).mono ?_
        rintro e wa ⟨rfl, hA⟩
        obtain ⟨q', hq'⟩ : ∃ q', FrC W wa gb gl gw none q' (4 * k) := by
          rcases hA with ⟨_, hb⟩ | hA
          · exact ⟨q, HQ.out.below hb⟩
          · exact HQ.out.setB hA
        have HQ' := Aside0.mk hq'
        clear hq' hA HQ
        go_wp2_with fail
        refine (SetW.settle.calls HQ'.out.bk HQ'.out.pW HQ'.out.hw HQ'.out.ow_n.2 (fun b hb => (HQ'.out.d2 b hb).1) HQ'.out.lo2_n.1 HQ'.out.lo2_n.2.2 HQ'.out.ne.2.1 HQ'.out.uW (by have := HQ'.out.cnt; omega) (by have := HQ'.out.cnt; omega)).mono ?_
        rintro e wb ⟨rfl, hA⟩
        obtain ⟨q'', hq'⟩ := HQ'.out.setW hA
        have HQ'' := Aside0.mk hq'
        clear hq' hA HQ'
        go_wp2_with fail
        go_ret
        exact ⟨rfl, HQ''.out.bel⟩
    · have hlt' : ¬ (k : Int) < y.length := by omega
      clear hlt
      go_wp2_with fail
      refine (SetB.settle.calls HQ.out.bk HQ.out.pB HQ.out.hl HQ.out.ow_n.1 (fun b hb => (HQ.out.d1 b hb).1) HQ.out.lo1_n.1 HQ.out.lo1_n.2.1 HQ.out.ne.1 HQ.out.uB (by have := HQ.out.cnt; omega) (by have := HQ.out.cnt; omega) 0).mono ?_
      rintro e wa ⟨rfl, hA⟩
      obtain ⟨q', hq'⟩ : ∃ q', FrC W wa gb gl gw none q' (4 * k) := by
        rcases hA with ⟨_, hb⟩ | hA
        · exact ⟨q, HQ.out.below hb⟩
        · exact HQ.out.setB hA
      have HQ' := Aside0.mk hq'
      clear hq' hA HQ
      go_wp2_with fail
      refine (SetW.settle.calls HQ'.out.bk HQ'.out.pW HQ'.out.hw HQ'.out.ow_n.2 (fun b hb => (HQ'.out.d2 b hb).1) HQ'.out.lo2_n.1 HQ'.out.lo2_n.2.2 HQ'.out.ne.2.1 HQ'.out.uW (by have := HQ'.out.cnt; omega) (by have := HQ'.out.cnt; omega)).mono ?_
      rintro e wb ⟨rfl, hA⟩
      obtain ⟨q'', hq'⟩ := HQ'.out.setW hA
      have HQ'' := Aside0.mk hq'
      clear hq' hA HQ'
      go_wp2_with fail
      go_ret
      exact ⟨rfl, HQ''.out.bel⟩
end Go.Proofs.Ytgngpbcbnfmoiaa.FreW
end

section
/- The law WordFresh as its given statement says it: for every argument that can be read as data the call returns true, and what the argument leads to reads as before. No condition. -/
namespace Go.Proofs.Ytgngpbcbnfmoiaa.LawWordFresh
open Go.ChangeShapes Go.WideShapes Go.ChangeAt Go.RowKit
open Go.ChangeMaps (open_string shut_string)
theorem own : ownKnob Try.prog.godebug = none := by kernel_rfl
theorem laidOut : laidOutB Try.prog = true := by kernel_rfl
set_option maxRecDepth 100000 in
theorem lifted (os : Os) (started : os.Started) (H : Type) (enc : TypeId × Value → H) :
    ReturnsInHanded {} Try.checked os 6 .any (Rows.wordFreshSpec.pre6 enc Try.prog Try.f6 Rows.wordFreshRow.domain false) (Rows.wordFreshSpec.post enc Try.prog Try.f6 false true false false) := by
  refine returnsInHanded_of_change_sized (C := Try.checked) own started (by kernel_rfl) Try.func6
    (ChangeSpec.witness6 (enc := enc) (C := Try.checked) false ⟨#[], #[.slice none 0 0], []⟩ 8 (by kernel_rfl) (by kernel_rfl) (by kernel_rfl) (by kernel_rfl)) ?_
  intro W base args ds gs before hval0 hW _ hsz0 _
  have hsz : (DataW.weightsEach Try.prog (Try.f6.params.toList ++ Rows.wordFreshSpec.plain.varTypes Try.prog) (ds ++ gs)).all (· ≤ reachBytes) = true := hsz0
  have hval : ∀ (j : Nat) t v, Try.f6.params[j]? = some t → args[j]? = some v → Value.okWide Try.prog W .any base t v := hval0
  have hW' := hW
  obtain ⟨p, q, hA0, hV, rfl, _, _⟩ := hW
  have hA : DataW.TrodAll enc Try.prog W 0 (fun _ => true) true Try.f6.params.toList args.toList ds p := hA0
  rw [Try.params6] at hA hval hsz
  obtain ⟨v0, vs0, d0, ds0, p0, q0, hargs, rfl, rfl, h0, r0⟩ := trodAll_cons hA
  obtain ⟨rfl, rfl, rfl⟩ := trodAll_nil r0
  obtain rfl : args = #[v0] := by cases args; simp_all
  obtain ⟨rfl, rfl⟩ := trodVars_none hV
  have k0 := h0
  have lt0 : ∀ x ∈ p0, x.block < W.heap.size := by obtain ⟨m, hm⟩ := k0; exact DataW.trod_lt m _ _ _ hm
  obtain ⟨y, hK, hg⟩ := Open.open_arg FreO.o_ops hsz (j := 0) rfl rfl h0
  obtain ⟨a0, len0, cap0, rfl⟩ := okWide_slice Try.underlying49 (hval 0 _ v0 rfl rfl)
  clear hA0 hval0 hsz0 hsz
  refine (FreW.walk y _ W hK hg).mono fun e W' ⟨he, bel⟩ => ?_
  subst he
  exact ⟨_, rfl, _, _, _, [], _, [], hW', trodAll_mk1 (shut_bool Try.underlying4 _), (trodAll_cons_mk (Below.trod laidOut (by kernel_rfl) (of_decide_eq_true (by kernel_rfl)) k0 bel lt0) trodAll_mk0), rfl, bel.frame _, fun h => by cases h⟩
theorem over : Rows.wordFreshRow.holds Try.pinned (OpenSpec.ofChange Rows.wordFreshSpec) :=
  OpenClaim.holds_of_wide 6 Try.f6 rfl rfl rfl rfl rfl rfl rfl ⟨rfl, rfl, rfl, rfl, rfl⟩ rfl rfl rfl rfl rfl (by kernel_rfl) Try.func6 (by kernel_rfl)
    (of_decide_eq_true (by kernel_rfl)) (by unfold Func.isWrapper; first | (rw [if_pos (by decide +kernel)]; kernel_rfl) | (rw [if_neg (by decide +kernel)]; exact ⟨rfl, rfl⟩))
    (fun os started H enc _ => lifted os started H enc)
theorem proved : Rows.WordFreshSaid := over
#print axioms proved
end Go.Proofs.Ytgngpbcbnfmoiaa.LawWordFresh
namespace Go.Proofs.Ytgngpbcbnfmoiaa
/-- The row, under a short name, for the claim. -/
theorem wordFresh_holds : Rows.WordFreshSaid := LawWordFresh.proved
end Go.Proofs.Ytgngpbcbnfmoiaa
end
