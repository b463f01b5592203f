-- JOINED by tailmerge3.py: PFx9 PFx10 PFx11 RefU PFx13 PFx14 BokT BokB BokD BokC BokE BokF BokG BokS BokI BokH BokJ FreM RfB Open MemO FillL
import Derived.Test.YtgjcffjicbmkhaaLawArenaGreatM1
import Derived.Test.YtgjcffjicbmkhaaNumA
import Derived.Deep.RegionHeld3
import Derived.Test.YtgjcffjicbmkhaaWWords
import Derived.OpenShut
import Derived.SizedLaws
import Derived.ChangeSlices
import Derived.DataElems
import Derived.KernelRfl
import Derived.Deep.QuietTactic
import Derived.BigQuiet
import Derived.StillTailTactics

section
namespace Go.Proofs.Ytgjcffjicbmkhaa.PF
open Go.RowKit Go.Proofs.YtgjcffjicbmkhaaW.PrintWords Go.Proofs.YtgjcffjicbmkhaaW.PrintLast Go.Proofs.YtgjcffjicbmkhaaW.PrintMore
attribute [local go_sem] max2_int min2_int max_two min_two max_three min_three max_four min_four   -- for this text's walks alone
set_option linter.unusedVariables false
set_option linter.unusedSimpArgs false
mutual
def larderref1_Pack.l0 : Nat → List Int → List Int → Int → Option (List Int)
  | 0, _, _, _ => none
  | k + 1, x0, x3, x4 => if x4 < (x0.length : Int) then (larderref1_Pack.l1 k x0 x3 x4 0 7) else (some x3)
def larderref1_Pack.l1 : Nat → List Int → List Int → Int → Int → Int → Option (List Int)
  | 0, _, _, _, _, _ => none
  | k + 1, x0, x3, x4, x5, x6 => if x6 ≥ 0 then (if (wrap64 (x4 + x6)) < (x0.length : Int) then (if 0 ≤ (wrap64 (x4 + x6)) then (larderref1_Pack.l1 k x0 x3 x4 (IntKind.u64.wrap ((IntKind.u64.wrap (x5 * 256)) + (IntKind.u64.wrap (rd x0 (wrap64 (x4 + x6)))))) (wrap64 (x6 - 1))) else (none)) else (larderref1_Pack.l1 k x0 x3 x4 (IntKind.u64.wrap (x5 * 256)) (wrap64 (x6 - 1)))) else (if x3.length < 17592186044416 then (larderref1_Pack.l0 k x0 (x3 ++ [x5]) (wrap64 (x4 + 8))) else (none))
end
def larderref1_Pack.f (k : Nat) (l0 : List Int) : Option (List Int) := larderref1_Pack.l0 k l0 ([] : List Int) 0
theorem larderref1_Pack.mono_l : ∀ k, (∀ y0 y1 y2, LeO (larderref1_Pack.l0 k y0 y1 y2) (larderref1_Pack.l0 (k + 1) y0 y1 y2)) ∧ (∀ y0 y1 y2 y3 y4, LeO (larderref1_Pack.l1 k y0 y1 y2 y3 y4) (larderref1_Pack.l1 (k + 1) y0 y1 y2 y3 y4))
  | 0 => ⟨fun _ _ _ r h => by simp [larderref1_Pack.l0] at h, fun _ _ _ _ _ r h => by simp [larderref1_Pack.l1] at h⟩
  | k + 1 => by
    obtain ⟨ih0, ih1⟩ := larderref1_Pack.mono_l k
    refine ⟨?_, ?_⟩
    · intro y0 y1 y2
      unfold larderref1_Pack.l0
      repeat' first
      | (with_reducible exact ih0 _ _ _)
      | (with_reducible exact ih1 _ _ _ _ _)
      | (with_reducible exact LeO.refl _)
      | (with_reducible exact LeO.none _)
      | (with_reducible refine LeO.ite ?_ ?_)
      | (with_reducible refine LeO.bind ?_ (fun _ => ?_))
      | exact ih0 _ _ _
      | exact ih1 _ _ _ _ _
      | exact LeO.none _
      | refine LeO.ite ?_ ?_
      | refine LeO.bind ?_ (fun _ => ?_)
    · intro y0 y1 y2 y3 y4
      unfold larderref1_Pack.l1
      repeat' first
      | (with_reducible exact ih0 _ _ _)
      | (with_reducible exact ih1 _ _ _ _ _)
      | (with_reducible exact LeO.refl _)
      | (with_reducible exact LeO.none _)
      | (with_reducible refine LeO.ite ?_ ?_)
      | (with_reducible refine LeO.bind ?_ (fun _ => ?_))
      | exact ih0 _ _ _
      | exact ih1 _ _ _ _ _
      | exact LeO.none _
      | refine LeO.ite ?_ ?_
      | refine LeO.bind ?_ (fun _ => ?_)
theorem larderref1_Pack.mono : ∀ a0 k, LeO (larderref1_Pack.f k a0) (larderref1_Pack.f (k + 1) a0) := by
  intro a0 k
  obtain ⟨ih0, ih1⟩ := larderref1_Pack.mono_l k
  unfold larderref1_Pack.f
  repeat' first
      | (with_reducible exact ih0 _ _ _)
      | (with_reducible exact ih1 _ _ _ _ _)
      | (with_reducible exact LeO.refl _)
      | (with_reducible exact LeO.none _)
      | (with_reducible refine LeO.ite ?_ ?_)
      | (with_reducible refine LeO.bind ?_ (fun _ => ?_))
      | exact ih0 _ _ _
      | exact ih1 _ _ _ _ _
      | exact LeO.none _
      | refine LeO.ite ?_ ?_
      | refine LeO.bind ?_ (fun _ => ?_)
set_option maxHeartbeats 8000000 in
set_option maxRecDepth 100000 in
theorem larderref1_Pack.calls (k : Nat) (A0 : Option Addr) (c0 : Nat) (l0 : List Int) (r : List Int) (w : World) (hr0 : Kd.C (Kd.int .u8) w A0 l0.length l0) (hc0 : l0.length ≤ c0) (h : larderref1_Pack.f k l0 = some r) :
    Calls Try.prog 87 #[.slice A0 l0.length c0] w fun e w' => ∃ v0_ : Value, e = .returned (v0_) ∧ Kd.R (Kd.int .u64) 36 w' w.heap.size (fun _ => True) v0_ r ∧ Below w.heap.size w w' := by
  have HR0 := Aside0.mk hr0
  have HC0 := Aside0.mk hc0
  clear hr0 hc0
  have HB := Aside0.mk (Below.refl w.heap.size w)
  have H : (larderref1_Pack.l0 k l0 ([] : List Int) 0) = some r := h
  clear h
  have H' := Aside0.mk H
  clear H
  go_enter Try.func87, Try.ntmps87
  go_wp2
  go_loopg [3, 4] k (fun kq v3 v4 w' => ∃ (x3_1 : List Int) (x4_1 : Int), v4 = .int .i64 x4_1 ∧ Aside0 (larderref1_Pack.l0 kq l0 x3_1 x4_1 = some r) ∧ Aside0 (kq ≤ k) ∧ Aside0 (Kd.R (Kd.int .u64) 36 w' w.heap.size (fun _ => True) v3 x3_1) ∧ Aside0 (Below w.heap.size w w'))
  case atStart => exact ⟨(([] : List Int)), (0), (by first | rfl | (simp; done) | (simp [*]; done)), H', ⟨Nat.le_refl _⟩, ⟨by first | exact Kd.R_nil _ _ _ _ _ | exact Kd.N_nil _ _ _ _ _ | exact Kd.V_nil _ _ _ _ _ | exact Kd.Q_nil _ _ _ _ _ | exact Kd.S_nil _ _ _ _ _⟩, ⟨by repeat (first | (with_reducible first | exact HB.out | apply below_alloc | apply pw_below_drewN | apply below_drew1) | exact HB.out)⟩⟩
  case round =>
    clear H'
    obtain ⟨x3_1, x4_1, rfl, HA, HK1, HO_3, HB⟩ := hrel
    cases gk with
    | zero => exact absurd HA.out (by simp [larderref1_Pack.l0])
    | succ k1 =>
      have H := HA.out
      clear HA
      simp only [larderref1_Pack.l0] at H
      by_cases c2 : x4_1 < (l0.length : Int)
      · rw [if_pos c2] at H
        have c2b0 : decide (x4_1 < (l0.length : Int)) = true := decide_eq_true c2
        clear c2
        have H' := Aside0.mk H
        clear H
        go_wp2
        go_loopg [5, 6] k1 (fun kq v5 v6 w' => ∃ (x5_2 : Int) (x6_2 : Int), v5 = .int .u64 x5_2 ∧ v6 = .int .i64 x6_2 ∧ Aside0 (larderref1_Pack.l1 kq l0 x3_1 x4_1 x5_2 x6_2 = some r) ∧ Aside0 (kq ≤ k1) ∧ Aside0 (Kd.R (Kd.int .u64) 36 w' w.heap.size (fun _ => True) u3 x3_1) ∧ Aside0 (Below w.heap.size w w'))
        case atStart => exact ⟨(0), (7), (by first | rfl | (simp; done) | (simp [*]; done)), (by first | rfl | (simp; done) | (simp [*]; done)), H', ⟨Nat.le_refl _⟩, ⟨by (with_reducible repeat (first | apply Kd.R_alloc | apply Kd.R_drewN | apply Kd.R_drew)); exact HO_3.out⟩, ⟨by repeat (first | (with_reducible first | exact HB.out | apply below_alloc | apply pw_below_drewN | apply below_drew1) | exact HB.out)⟩⟩
        case round =>
          clear H'
          try clear c2
          try clear c2b0
          try clear p2
          obtain ⟨x5_2, x6_2, rfl, rfl, HA, HK2, HO_3, HB⟩ := hrel
          cases gk with
          | zero => exact absurd HA.out (by simp [larderref1_Pack.l1])
          | succ k2 =>
            have H := HA.out
            clear HA
            simp only [larderref1_Pack.l1] at H
            by_cases c3 : x6_2 ≥ 0
            · rw [if_pos c3] at H
              have c3b0 : decide (0 ≤ x6_2) = true := decide_eq_true c3
              clear c3
              by_cases c4 : (wrap64 (x4_1 + x6_2)) < (l0.length : Int)
              · rw [if_pos c4] at H
                have c4b0 : decide ((wrap64 (x4_1 + x6_2)) < (l0.length : Int)) = true := decide_eq_true c4
                clear c4
                obtain ⟨ji5, hji5⟩ : ∃ j_ : Int, (wrap64 (x4_1 + x6_2)) = j_ := ⟨_, rfl⟩
                replace H : (if 0 ≤ (ji5) then (larderref1_Pack.l1 k2 l0 x3_1 x4_1 (IntKind.u64.wrap ((IntKind.u64.wrap (x5_2 * 256)) + (IntKind.u64.wrap (rd l0 (ji5))))) (wrap64 (x6_2 - 1))) else (none)) = some r := by first | (rw [hji5] at H; exact H) | (simp only [hji5] at H ⊢; exact H)
                (try rw [hji5] at c4b0)
                have hji5w : (IntKind.i64.wrap (x4_1 + x6_2)) = ji5 := (i64_w _).trans hji5
                by_cases c6 : 0 ≤ (ji5)
                · rw [if_pos c6] at H
                  have c6b0 : decide (0 ≤ (ji5)) = true := decide_eq_true c6
                  clear c6
                  have H' := Aside0.mk H
                  clear H
                  have p121 : 0 ≤ ((ji5) : Int) := of_decide_eq_true (by first | (with_reducible assumption) | assumption)
                  have q121 : (ji5) < (l0.length : Int) := of_decide_eq_true (by first | (with_reducible assumption) | assumption)
                  obtain ⟨ad121, e121, hx121_0⟩ := Kd.at_int HR0.out (ji5) p121 q121
                  cases e121
                  replace hx121_0 := (HB.out.cell (World.block_lt_of_cell? w _ hx121_0)).trans hx121_0
                  replace p121 := eq_true p121
                  replace q121 := eq_true q121
                  go_wp2
                  go_roundg k2
                  case measure => have := HK1.out; have := HK2.out; omega
                  case rel => exact ⟨(IntKind.u64.wrap ((IntKind.u64.wrap (x5_2 * 256)) + (IntKind.u64.wrap (rd l0 (ji5))))), (wrap64 (x6_2 - 1)), (by first | rfl | (simp; done) | (simp only [← hji5] <;> (first | rfl | simp)) | (simp [*]; done)), (by first | rfl | (simp; done) | (simp [*]; done)), H', ⟨by have := HK1.out; have := HK2.out; omega⟩, ⟨by (with_reducible repeat (first | apply Kd.R_alloc | apply Kd.R_drewN | apply Kd.R_drew)); exact HO_3.out⟩, ⟨by repeat (first | (with_reducible first | exact HB.out | apply below_alloc | apply pw_below_drewN | apply below_drew1) | exact HB.out)⟩⟩
                · rw [if_neg c6] at H
                  exact absurd H (by simp)
              · rw [if_neg c4] at H
                have c4b0 : decide ((wrap64 (x4_1 + x6_2)) < (l0.length : Int)) = false := decide_eq_false c4
                clear c4
                have H' := Aside0.mk H
                clear H
                go_wp2
                go_roundg k2
                case measure => have := HK1.out; have := HK2.out; omega
                case rel => exact ⟨(IntKind.u64.wrap (x5_2 * 256)), (wrap64 (x6_2 - 1)), (by first | rfl | (simp; done) | (simp [*]; done)), (by first | rfl | (simp; done) | (simp [*]; done)), H', ⟨by have := HK1.out; have := HK2.out; omega⟩, ⟨by (with_reducible repeat (first | apply Kd.R_alloc | apply Kd.R_drewN | apply Kd.R_drew)); exact HO_3.out⟩, ⟨by repeat (first | (with_reducible first | exact HB.out | apply below_alloc | apply pw_below_drewN | apply below_drew1) | exact HB.out)⟩⟩
            · rw [if_neg c3] at H
              have c3b0 : decide (0 ≤ x6_2) = false := decide_eq_false c3
              clear c3
              by_cases c7 : x3_1.length < 17592186044416
              · rw [if_pos c7] at H
                have LMc7 := Aside0.mk c7
                clear c7
                obtain ⟨y122, hy122⟩ : ∃ y_ : List Int, y_ = (x3_1 ++ [x5_2]) := ⟨_, rfl⟩
                replace H : (larderref1_Pack.l0 k2 l0 y122 (wrap64 (x4_1 + 8))) = some r := by first | (rw [hy122]; with_reducible exact H) | (have H2_ := (Option.bind_some _ _).symm.trans H; rw [hy122]; with_reducible exact H2_) | (have H2_ := (Option.bind_some _ _).symm.trans H; with_reducible exact H2_) | with_reducible exact H | (rw [hy122]; exact H) | exact H
                have Ny122 := Aside0.mk hy122
                clear hy122
                have H' := Aside0.mk H
                clear H
                go_wp2_with (first | ((with_reducible refine gate_builtin (b := .append) (xs := #[.tmp 34, .tmp 36]) rfl ?_); at_builtin; refine Kd.R_append (Kd.int .u64) (w0 := w) w.heap.size rfl (.tmp 34) (.tmp 36) 34 36 (.int .u64 0) 8 rfl Try.underlying34 info36 rfl (by decide) (by omega) u3 x3_1 x5_2 [.int .u64 x5_2] (fun _ => True) (fun _ => False) rfl rfl ?aP (fun _ hk => hk.elim) ?aF ?aO ?aB ?aS ?aL ?_; (case aP => exact rfl); (case aB => exact (by repeat (first | (with_reducible first | exact HB.out | apply below_alloc | apply pw_below_drewN | apply below_drew1) | exact HB.out))); (case aF => exact (fun _ _ => trivial)); (case aO => exact (by (with_reducible repeat (first | apply Kd.R_alloc | apply Kd.R_drewN | apply Kd.R_drew)); exact HO_3.out)); (case aS => exact (below_size (by repeat (first | (with_reducible first | exact HB.out | apply below_alloc | apply pw_below_drewN | apply below_drew1) | exact HB.out)))); (case aL => have := LMc7.out; omega); intro v123 w8 ho hb hg hat; rw [← Ny122.out] at ho; have n0_ := Aside0.mk (hb); have n1_ := Aside0.mk (ho); clear HB; clear HO_3; have HB := n0_; have HO124 := n1_; clear n0_ n1_; clear ho hb hg hat))
                go_roundg k2
                case measure => have := HK1.out; have := HK2.out; omega
                case rel => exact ⟨(y122), (wrap64 (x4_1 + 8)), (by first | rfl | (simp; done) | (simp [*]; done)), H', ⟨by have := HK1.out; have := HK2.out; omega⟩, ⟨by (with_reducible repeat (first | apply Kd.R_alloc | apply Kd.R_drewN | apply Kd.R_drew)); exact HO124.out⟩, ⟨by repeat (first | (with_reducible first | exact HB.out | apply below_alloc | apply pw_below_drewN | apply below_drew1) | exact HB.out)⟩⟩
              · rw [if_neg c7] at H
                exact absurd H (by simp)
      · rw [if_neg c2] at H
        have c2b0 : decide (x4_1 < (l0.length : Int)) = false := decide_eq_false c2
        clear c2
        obtain rfl := Option.some.inj H
        go_wp2
        go_ret
        exact ⟨_, by first | rfl | (simp [errW_none, errW_some] <;> rfl) | (simp [*, errW_none, errW_some] <;> rfl), by (with_reducible repeat (first | apply Kd.R_alloc | apply Kd.R_drewN | apply Kd.R_drew)); exact HO_3.out, by repeat (first | (with_reducible first | exact HB.out | apply below_alloc | apply pw_below_drewN | apply below_drew1) | exact HB.out)⟩
end Go.Proofs.Ytgjcffjicbmkhaa.PF
end

section
namespace Go.Proofs.Ytgjcffjicbmkhaa.PF
open Go.RowKit Go.Proofs.YtgjcffjicbmkhaaW.PrintWords Go.Proofs.YtgjcffjicbmkhaaW.PrintLast Go.Proofs.YtgjcffjicbmkhaaW.PrintMore
attribute [local go_sem] max2_int min2_int max_two min_two max_three min_three max_four min_four   -- for this text's walks alone
set_option linter.unusedVariables false
set_option linter.unusedSimpArgs false
def larderref1_Words.f (a0 : Int) : Option (Int) := if a0 < 1 then (some 0) else (if (Int.tmod a0 8) > 0 then (some (wrap64 ((wrap64 (Int.tdiv a0 8)) + 1))) else (some (wrap64 (Int.tdiv a0 8))))
set_option maxHeartbeats 8000000 in
set_option maxRecDepth 100000 in
theorem larderref1_Words.calls (a0 : Int) (r : Int) (w : World) (h : larderref1_Words.f a0 = some r) :
    Calls Try.prog 97 #[.int .i64 a0] w fun e w' => e = .returned (.int .i64 r) ∧ Drawn0 w w' := by
  have H : (if a0 < 1 then (some 0) else (if (Int.tmod a0 8) > 0 then (some (wrap64 ((wrap64 (Int.tdiv a0 8)) + 1))) else (some (wrap64 (Int.tdiv a0 8))))) = some r := h
  clear h
  by_cases c2 : a0 < 1
  · rw [if_pos c2] at H
    have c2b0 : decide (a0 < 1) = true := decide_eq_true c2
    clear c2
    obtain rfl := Option.some.inj H
    go_enter Try.func97, Try.ntmps97
    go_wp2
    go_ret
    exact ⟨by first | rfl | (simp; done) | (simp [*]; done), by repeat (first | exact Drawn0.refl _ | apply Drawn0.step)⟩
  · rw [if_neg c2] at H
    have c2b0 : decide (a0 < 1) = false := decide_eq_false c2
    clear c2
    by_cases c3 : (Int.tmod a0 8) > 0
    · rw [if_pos c3] at H
      have c3b0 : decide (0 < (Int.tmod a0 8)) = true := decide_eq_true c3
      clear c3
      obtain rfl := Option.some.inj H
      go_enter Try.func97, Try.ntmps97
      go_wp2
      go_ret
      exact ⟨by first | rfl | (simp; done) | (simp [*]; done), by repeat (first | exact Drawn0.refl _ | apply Drawn0.step)⟩
    · rw [if_neg c3] at H
      have c3b0 : decide (0 < (Int.tmod a0 8)) = false := decide_eq_false c3
      clear c3
      obtain rfl := Option.some.inj H
      go_enter Try.func97, Try.ntmps97
      go_wp2
      go_ret
      exact ⟨by first | rfl | (simp; done) | (simp [*]; done), by repeat (first | exact Drawn0.refl _ | apply Drawn0.step)⟩
end Go.Proofs.Ytgjcffjicbmkhaa.PF
end

section
namespace Go.Proofs.Ytgjcffjicbmkhaa.PF
open Go.RowKit Go.Proofs.YtgjcffjicbmkhaaW.PrintWords Go.Proofs.YtgjcffjicbmkhaaW.PrintLast Go.Proofs.YtgjcffjicbmkhaaW.PrintMore
attribute [local go_sem] max2_int min2_int max_two min_two max_three min_three max_four min_four   -- for this text's walks alone
set_option linter.unusedVariables false
set_option linter.unusedSimpArgs false
mutual
def larderref1_Unpack.l0 : Nat → List Int → Int → List Int → Int → Option (List Int × Int)
  | 0, _, _, _, _ => none
  | k + 1, x0, x1, x7, x8 => if x8 < (x0.length : Int) then (larderref1_Unpack.j1 k x0 x1 x7 x8 (decide ((x7.length : Int) < x1))) else (larderref1_Unpack.j1 k x0 x1 x7 x8 false)
def larderref1_Unpack.j1 : Nat → List Int → Int → List Int → Int → Bool → Option (List Int × Int)
  | 0, _, _, _, _, _ => none
  | k + 1, x0, x1, x7, x8, x28 => if x28 = true then (if 0 ≤ x8 then (if x8 < (x0.length : Int) then (larderref1_Unpack.l1 k x0 x1 x7 x8 (rd x0 x8) 0) else (none)) else (none)) else (some (x7, 0))
def larderref1_Unpack.l1 : Nat → List Int → Int → List Int → Int → Int → Int → Option (List Int × Int)
  | 0, _, _, _, _, _, _ => none
  | k + 1, x0, x1, x7, x8, x9, x10 => if x10 < 8 then (if (x7.length : Int) < x1 then (if x7.length < 140737488355328 then (larderref1_Unpack.l1 k x0 x1 (x7 ++ [(Int.tmod x9 256) % 256]) x8 (IntKind.u64.wrap (Int.tdiv x9 256)) (wrap64 (x10 + 1))) else (none)) else (larderref1_Unpack.l0 k x0 x1 x7 (wrap64 (x8 + 1)))) else (larderref1_Unpack.l0 k x0 x1 x7 (wrap64 (x8 + 1)))
end
def larderref1_Unpack.f (k : Nat) (l0 : List Int) (a1 : Int) : Option (List Int × Int) := if a1 < 0 then (some (([] : List Int), 11)) else ((larderref1_Words.f a1).bind fun t125 => (if t125 > (l0.length : Int) then (some (([] : List Int), 11)) else (larderref1_Unpack.l0 k l0 a1 ([] : List Int) 0)))
theorem larderref1_Unpack.mono_l : ∀ k, (∀ y0 y1 y2 y3, LeO (larderref1_Unpack.l0 k y0 y1 y2 y3) (larderref1_Unpack.l0 (k + 1) y0 y1 y2 y3)) ∧ (∀ y0 y1 y2 y3 y4, LeO (larderref1_Unpack.j1 k y0 y1 y2 y3 y4) (larderref1_Unpack.j1 (k + 1) y0 y1 y2 y3 y4)) ∧ (∀ y0 y1 y2 y3 y4 y5, LeO (larderref1_Unpack.l1 k y0 y1 y2 y3 y4 y5) (larderref1_Unpack.l1 (k + 1) y0 y1 y2 y3 y4 y5))
  | 0 => ⟨fun _ _ _ _ r h => by simp [larderref1_Unpack.l0] at h, fun _ _ _ _ _ r h => by simp [larderref1_Unpack.j1] at h, fun _ _ _ _ _ _ r h => by simp [larderref1_Unpack.l1] at h⟩
  | k + 1 => by
    obtain ⟨ih0, ih1, ih2⟩ := larderref1_Unpack.mono_l k
    refine ⟨?_, ?_, ?_⟩
    · intro y0 y1 y2 y3
      unfold larderref1_Unpack.l0
      repeat' first
      | (with_reducible exact ih0 _ _ _ _)
      | (with_reducible exact ih1 _ _ _ _ _)
      | (with_reducible exact ih2 _ _ _ _ _ _)
      | (with_reducible exact LeO.refl _)
      | (with_reducible exact LeO.none _)
      | (with_reducible refine LeO.ite ?_ ?_)
      | (with_reducible refine LeO.bind ?_ (fun _ => ?_))
      | exact ih0 _ _ _ _
      | exact ih1 _ _ _ _ _
      | exact ih2 _ _ _ _ _ _
      | exact LeO.none _
      | refine LeO.ite ?_ ?_
      | refine LeO.bind ?_ (fun _ => ?_)
    · intro y0 y1 y2 y3 y4
      unfold larderref1_Unpack.j1
      repeat' first
      | (with_reducible exact ih0 _ _ _ _)
      | (with_reducible exact ih1 _ _ _ _ _)
      | (with_reducible exact ih2 _ _ _ _ _ _)
      | (with_reducible exact LeO.refl _)
      | (with_reducible exact LeO.none _)
      | (with_reducible refine LeO.ite ?_ ?_)
      | (with_reducible refine LeO.bind ?_ (fun _ => ?_))
      | exact ih0 _ _ _ _
      | exact ih1 _ _ _ _ _
      | exact ih2 _ _ _ _ _ _
      | exact LeO.none _
      | refine LeO.ite ?_ ?_
      | refine LeO.bind ?_ (fun _ => ?_)
    · intro y0 y1 y2 y3 y4 y5
      unfold larderref1_Unpack.l1
      repeat' first
      | (with_reducible exact ih0 _ _ _ _)
      | (with_reducible exact ih1 _ _ _ _ _)
      | (with_reducible exact ih2 _ _ _ _ _ _)
      | (with_reducible exact LeO.refl _)
      | (with_reducible exact LeO.none _)
      | (with_reducible refine LeO.ite ?_ ?_)
      | (with_reducible refine LeO.bind ?_ (fun _ => ?_))
      | exact ih0 _ _ _ _
      | exact ih1 _ _ _ _ _
      | exact ih2 _ _ _ _ _ _
      | exact LeO.none _
      | refine LeO.ite ?_ ?_
      | refine LeO.bind ?_ (fun _ => ?_)
theorem larderref1_Unpack.mono : ∀ a0 a1 k, LeO (larderref1_Unpack.f k a0 a1) (larderref1_Unpack.f (k + 1) a0 a1) := by
  intro a0 a1 k
  obtain ⟨ih0, ih1, ih2⟩ := larderref1_Unpack.mono_l k
  unfold larderref1_Unpack.f
  repeat' first
      | (with_reducible exact ih0 _ _ _ _)
      | (with_reducible exact ih1 _ _ _ _ _)
      | (with_reducible exact ih2 _ _ _ _ _ _)
      | (with_reducible exact LeO.refl _)
      | (with_reducible exact LeO.none _)
      | (with_reducible refine LeO.ite ?_ ?_)
      | (with_reducible refine LeO.bind ?_ (fun _ => ?_))
      | exact ih0 _ _ _ _
      | exact ih1 _ _ _ _ _
      | exact ih2 _ _ _ _ _ _
      | exact LeO.none _
      | refine LeO.ite ?_ ?_
      | refine LeO.bind ?_ (fun _ => ?_)
set_option maxHeartbeats 8000000 in
set_option maxRecDepth 100000 in
theorem larderref1_Unpack.calls (k : Nat) (A0 : Option Addr) (c0 : Nat) (l0 : List Int) (a1 : Int) (r1 : List Int) (r2 : Int) (w : World) (hr0 : Kd.C (Kd.int .u64) w A0 l0.length l0) (hc0 : l0.length ≤ c0) (h : larderref1_Unpack.f k l0 a1 = some (r1, r2)) :
    Calls Try.prog 84 #[.slice A0 l0.length c0, .int .i64 a1] w fun e w' => ∃ v0_ : Value, e = .returned (.tuple #[v0_, .int .i64 r2]) ∧ Kd.R (Kd.int .u8) 5 w' w.heap.size (fun _ => True) v0_ r1 ∧ Below w.heap.size w w' := by
  have HR0 := Aside0.mk hr0
  have HC0 := Aside0.mk hc0
  clear hr0 hc0
  have HB := Aside0.mk (Below.refl w.heap.size w)
  have H : (if a1 < 0 then (some (([] : List Int), 11)) else ((larderref1_Words.f a1).bind fun t125 => (if t125 > (l0.length : Int) then (some (([] : List Int), 11)) else (larderref1_Unpack.l0 k l0 a1 ([] : List Int) 0)))) = some (r1, r2) := h
  clear h
  by_cases c3 : a1 < 0
  · rw [if_pos c3] at H
    have c3b0 : decide (a1 < 0) = true := decide_eq_true c3
    clear c3
    simp only [Option.some.injEq, Prod.mk.injEq] at H
    obtain ⟨rfl, rfl⟩ := H
    go_enter Try.func84, Try.ntmps84
    go_wp2
    go_ret2
    exact ⟨_, by first | rfl | (simp [errW_none, errW_some] <;> rfl) | (simp [*, errW_none, errW_some] <;> rfl), by first | exact Kd.R_nil _ _ _ _ _ | exact Kd.N_nil _ _ _ _ _ | exact Kd.V_nil _ _ _ _ _ | exact Kd.Q_nil _ _ _ _ _ | exact Kd.S_nil _ _ _ _ _, by repeat (first | (with_reducible first | exact HB.out | apply below_alloc | apply pw_below_drewN | apply below_drew1) | exact HB.out)⟩
  · rw [if_neg c3] at H
    have c3b0 : decide (a1 < 0) = false := decide_eq_false c3
    clear c3
    replace H := Option.bind_eq_some_iff.mp H
    obtain ⟨t125, A40, H⟩ := H
    replace H : (if t125 > (l0.length : Int) then (some (([] : List Int), 11)) else (larderref1_Unpack.l0 k l0 a1 ([] : List Int) 0)) = some (r1, r2) := H
    have A4 := Aside0.mk A40
    clear A40
    by_cases c5 : t125 > (l0.length : Int)
    · rw [if_pos c5] at H
      have c5b0 : decide ((l0.length : Int) < t125) = true := decide_eq_true c5
      clear c5
      simp only [Option.some.injEq, Prod.mk.injEq] at H
      obtain ⟨rfl, rfl⟩ := H
      go_enter Try.func84, Try.ntmps84
      go_wp2_with (first | ((with_reducible refine gate_callee (f := 97) rfl ?_); refine goesL_ (some 14) rfl rfl Try.func97 (by kernel_rfl) rfl #[.int .i64 a1] rfl (by (try simp only [List.map_toArray, List.map_cons, List.map_nil]); first | done | rfl | (simp only [List.length_drop, List.length_take]; rfl)) ?_; (with_reducible refine (larderref1_Words.calls a1 t125 _ A4.out).mono ?_); rintro e w' ⟨rfl, ⟨nd, rfl⟩⟩; refine ⟨_, rfl, ?_⟩))
      go_ret2
      exact ⟨_, by first | rfl | (simp [errW_none, errW_some] <;> rfl) | (simp [*, errW_none, errW_some] <;> rfl), by first | exact Kd.R_nil _ _ _ _ _ | exact Kd.N_nil _ _ _ _ _ | exact Kd.V_nil _ _ _ _ _ | exact Kd.Q_nil _ _ _ _ _ | exact Kd.S_nil _ _ _ _ _, by repeat (first | (with_reducible first | exact HB.out | apply below_alloc | apply pw_below_drewN | apply below_drew1) | exact HB.out)⟩
    · rw [if_neg c5] at H
      have c5b0 : decide ((l0.length : Int) < t125) = false := decide_eq_false c5
      clear c5
      have H' := Aside0.mk H
      clear H
      go_enter Try.func84, Try.ntmps84
      go_wp2_with (first | ((with_reducible refine gate_callee (f := 97) rfl ?_); refine goesL_ (some 14) rfl rfl Try.func97 (by kernel_rfl) rfl #[.int .i64 a1] rfl (by (try simp only [List.map_toArray, List.map_cons, List.map_nil]); first | done | rfl | (simp only [List.length_drop, List.length_take]; rfl)) ?_; (with_reducible refine (larderref1_Words.calls a1 t125 _ A4.out).mono ?_); rintro e w' ⟨rfl, ⟨nd, rfl⟩⟩; refine ⟨_, rfl, ?_⟩))
      go_loopg [7, 8] k (fun kq v7 v8 w' => ∃ (x7_1 : List Int) (x8_1 : Int), v8 = .int .i64 x8_1 ∧ Aside0 (larderref1_Unpack.l0 kq l0 a1 x7_1 x8_1 = some (r1, r2)) ∧ Aside0 (kq ≤ k) ∧ Aside0 (Kd.R (Kd.int .u8) 5 w' w.heap.size (fun _ => True) v7 x7_1) ∧ Aside0 (Below w.heap.size w w'))
      case atStart => exact ⟨(([] : List Int)), (0), (by first | rfl | (simp; done) | (simp [*]; done)), H', ⟨Nat.le_refl _⟩, ⟨by first | exact Kd.R_nil _ _ _ _ _ | exact Kd.N_nil _ _ _ _ _ | exact Kd.V_nil _ _ _ _ _ | exact Kd.Q_nil _ _ _ _ _ | exact Kd.S_nil _ _ _ _ _⟩, ⟨by repeat (first | (with_reducible first | exact HB.out | apply below_alloc | apply pw_below_drewN | apply below_drew1) | exact HB.out)⟩⟩
      case round =>
        clear H'
        try clear p2
        try clear c3
        try clear c3b0
        try clear c5
        try clear c5b0
        obtain ⟨x7_1, x8_1, rfl, HA, HK1, HO_7, HB⟩ := hrel
        cases gk with
        | zero => exact absurd HA.out (by simp [larderref1_Unpack.l0])
        | succ k1 =>
          have H := HA.out
          clear HA
          simp only [larderref1_Unpack.l0] at H
          have HC6 := Aside0.mk H
          clear H
          go_upto_region 8 with (fail)
          go_cut [28] (fun v28 wc => ∃ (kq : Nat) (x28_5 : Bool), v28 = .bool x28_5 ∧ Aside0 (larderref1_Unpack.j1 kq l0 a1 x7_1 x8_1 x28_5 = some (r1, r2)) ∧ Aside0 (kq ≤ k1) ∧ Aside0 (Kd.R (Kd.int .u8) 5 wc w.heap.size (fun _ => True) u7 x7_1) ∧ Aside0 (Below w.heap.size w wc))
          case first =>
            have H := HC6.out
            clear HC6
            by_cases c7 : x8_1 < (l0.length : Int)
            · rw [if_pos c7] at H
              have c7b0 : decide (x8_1 < (l0.length : Int)) = true := decide_eq_true c7
              clear c7
              (first | rw [c7b0] | (simp only [i64_w, i32_w]; rw [c7b0]) | skip)
              have H' := Aside0.mk H
              clear H
              obtain ⟨Ao8, co8, eo8⟩ := Kd.R_slice HO_7.out
              subst eo8
              go_wp2
              go_meet
              case rel => exact ⟨_, (decide ((x7_1.length : Int) < a1)), (by first | rfl | (simp; done) | (simp [*]; done)), H', ⟨by have := HK1.out; first | omega | exact Nat.le_refl _⟩, ⟨by (with_reducible repeat (first | apply Kd.R_alloc | apply Kd.R_drewN | apply Kd.R_drew)); exact HO_7.out⟩, ⟨by repeat (first | (with_reducible first | exact HB.out | apply below_alloc | apply pw_below_drewN | apply below_drew1) | exact HB.out)⟩⟩
            · rw [if_neg c7] at H
              have c7b0 : decide (x8_1 < (l0.length : Int)) = false := decide_eq_false c7
              clear c7
              (first | rw [c7b0] | (simp only [i64_w, i32_w]; rw [c7b0]) | skip)
              have H' := Aside0.mk H
              clear H
              go_wp2
              go_meet
              case rel => exact ⟨_, (false), (by first | rfl | (simp; done) | (simp [*]; done)), H', ⟨by have := HK1.out; first | omega | exact Nat.le_refl _⟩, ⟨by (with_reducible repeat (first | apply Kd.R_alloc | apply Kd.R_drewN | apply Kd.R_drew)); exact HO_7.out⟩, ⟨by repeat (first | (with_reducible first | exact HB.out | apply below_alloc | apply pw_below_drewN | apply below_drew1) | exact HB.out)⟩⟩
          case rest =>
            clear HC6
            try clear p2
            try clear c3
            try clear c3b0
            try clear c5
            try clear c5b0
            try clear c7
            try clear c7b0
            try clear c8
            try clear p2
            obtain ⟨kq, x28_5, rfl, HA, HJ5, HO_7, HB⟩ := hcut
            cases kq with
            | zero => exact absurd HA.out (by simp [larderref1_Unpack.j1])
            | succ kj5 =>
              have H := HA.out
              clear HA
              simp only [larderref1_Unpack.j1] at H
              by_cases c9 : x28_5 = true
              · subst c9
                have H1 : (if 0 ≤ x8_1 then (if x8_1 < (l0.length : Int) then (larderref1_Unpack.l1 kj5 l0 a1 x7_1 x8_1 (rd l0 x8_1) 0) else (none)) else (none)) = some (r1, r2) := by rw [if_pos rfl] at H; exact H
                clear H
                have H := H1
                clear H1
                by_cases c10 : 0 ≤ x8_1
                · rw [if_pos c10] at H
                  have c10b0 : decide (0 ≤ x8_1) = true := decide_eq_true c10
                  clear c10
                  by_cases c11 : x8_1 < (l0.length : Int)
                  · rw [if_pos c11] at H
                    have c11b0 : decide (x8_1 < (l0.length : Int)) = true := decide_eq_true c11
                    clear c11
                    have H' := Aside0.mk H
                    clear H
                    have p126 : 0 ≤ (x8_1 : Int) := of_decide_eq_true (by first | (with_reducible assumption) | assumption)
                    have q126 : x8_1 < (l0.length : Int) := of_decide_eq_true (by first | (with_reducible assumption) | assumption)
                    obtain ⟨ad126, e126, hx126_0⟩ := Kd.at_int HR0.out x8_1 p126 q126
                    cases e126
                    replace hx126_0 := (HB.out.cell (World.block_lt_of_cell? w _ hx126_0)).trans hx126_0
                    replace p126 := eq_true p126
                    replace q126 := eq_true q126
                    go_wp2
                    go_loopg [7, 9, 10] kj5 (fun kq v7 v9 v10 w' => ∃ (x7_3 : List Int) (x9_3 : Int) (x10_3 : Int), v9 = .int .u64 x9_3 ∧ v10 = .int .i64 x10_3 ∧ Aside0 (larderref1_Unpack.l1 kq l0 a1 x7_3 x8_1 x9_3 x10_3 = some (r1, r2)) ∧ Aside0 (kq ≤ kj5) ∧ Aside0 (Kd.R (Kd.int .u8) 5 w' w.heap.size (fun _ => True) v7 x7_3) ∧ Aside0 (Below w.heap.size w w'))
                    case atStart => exact ⟨(x7_1), (rd l0 x8_1), (0), (by first | rfl | (simp; done) | (simp [*]; done)), (by first | rfl | (simp; done) | (simp [*]; done)), H', ⟨Nat.le_refl _⟩, ⟨by (with_reducible repeat (first | apply Kd.R_alloc | apply Kd.R_drewN | apply Kd.R_drew)); exact HO_7.out⟩, ⟨by repeat (first | (with_reducible first | exact HB.out | apply below_alloc | apply pw_below_drewN | apply below_drew1) | exact HB.out)⟩⟩
                    case round =>
                      clear H'
                      try clear c1
                      try clear p1
                      try clear q1
                      try clear hx1
                      try clear p2
                      try clear c3
                      try clear c3b0
                      try clear c5
                      try clear c5b0
                      try clear c7
                      try clear c7b0
                      try clear c8
                      try clear c9
                      try clear c10
                      try clear c10b0
                      try clear c11
                      try clear c11b0
                      try clear hx126_0
                      try clear p126
                      try clear p2
                      try clear q126
                      obtain ⟨x7_3, x9_3, x10_3, rfl, rfl, HA, HK3, HO_7, HB⟩ := hrel
                      cases gk with
                      | zero => exact absurd HA.out (by simp [larderref1_Unpack.l1])
                      | succ k3 =>
                        have H := HA.out
                        clear HA
                        simp only [larderref1_Unpack.l1] at H
                        by_cases c12 : x10_3 < 8
                        · rw [if_pos c12] at H
                          have c12b0 : decide (x10_3 < 8) = true := decide_eq_true c12
                          clear c12
                          by_cases c13 : (x7_3.length : Int) < a1
                          · rw [if_pos c13] at H
                            have c13b0 : decide ((x7_3.length : Int) < a1) = true := decide_eq_true c13
                            clear c13
                            by_cases c14 : x7_3.length < 140737488355328
                            · rw [if_pos c14] at H
                              have LMc14 := Aside0.mk c14
                              clear c14
                              obtain ⟨y127, hy127⟩ : ∃ y_ : List Int, y_ = (x7_3 ++ [(Int.tmod x9_3 256) % 256]) := ⟨_, rfl⟩
                              replace H : (larderref1_Unpack.l1 k3 l0 a1 y127 x8_1 (IntKind.u64.wrap (Int.tdiv x9_3 256)) (wrap64 (x10_3 + 1))) = some (r1, r2) := by first | (rw [hy127]; with_reducible exact H) | (have H2_ := (Option.bind_some _ _).symm.trans H; rw [hy127]; with_reducible exact H2_) | (have H2_ := (Option.bind_some _ _).symm.trans H; with_reducible exact H2_) | with_reducible exact H | (rw [hy127]; exact H) | exact H
                              have Ny127 := Aside0.mk hy127
                              clear hy127
                              have H' := Aside0.mk H
                              clear H
                              obtain ⟨Ao15, co15, eo15⟩ := Kd.R_slice HO_7.out
                              subst eo15
                              go_wp2_with (first | ((with_reducible refine gate_builtin (b := .append) (xs := #[.tmp 45, .tmp 49]) rfl ?_); (try (refine gate_guard (by rfl) ?_; dsimp only)); at_builtin; refine Kd.R_append (Kd.int .u8) (w0 := w) w.heap.size rfl (.tmp 45) (.tmp 49) 67 5 (.int .u8 0) 1 rfl Try.underlying67 info5 rfl (by decide) (by omega) (.slice Ao15 x7_3.length co15) x7_3 ((Int.tmod x9_3 256) % 256) [.int .u8 ((Int.tmod x9_3 256) % 256)] (fun _ => True) (fun _ => False) rfl rfl ?aP (fun _ hk => hk.elim) ?aF ?aO ?aB ?aS ?aL ?_; (case aP => exact rfl); (case aB => exact (by repeat (first | (with_reducible first | exact HB.out | apply below_alloc | apply pw_below_drewN | apply below_drew1) | exact HB.out))); (case aF => exact (fun _ _ => trivial)); (case aO => exact (by (with_reducible repeat (first | apply Kd.R_alloc | apply Kd.R_drewN | apply Kd.R_drew)); exact HO_7.out)); (case aS => exact (below_size (by repeat (first | (with_reducible first | exact HB.out | apply below_alloc | apply pw_below_drewN | apply below_drew1) | exact HB.out)))); (case aL => have := LMc14.out; omega); intro v128 w16 ho hb hg hat; rw [← Ny127.out] at ho; have n0_ := Aside0.mk (hb); have n1_ := Aside0.mk (ho); clear HB; clear HO_7; have HB := n0_; have HO129 := n1_; clear n0_ n1_; clear ho hb hg hat))
                              go_roundg k3
                              case measure => have := HK1.out; have := HJ5.out; have := HK3.out; omega
                              case rel => exact ⟨(y127), (IntKind.u64.wrap (Int.tdiv x9_3 256)), (wrap64 (x10_3 + 1)), (by first | rfl | (simp; done) | (simp [*]; done)), (by first | rfl | (simp; done) | (simp [*]; done)), H', ⟨by have := HK1.out; have := HJ5.out; have := HK3.out; omega⟩, ⟨by (with_reducible repeat (first | apply Kd.R_alloc | apply Kd.R_drewN | apply Kd.R_drew)); exact HO129.out⟩, ⟨by repeat (first | (with_reducible first | exact HB.out | apply below_alloc | apply pw_below_drewN | apply below_drew1) | exact HB.out)⟩⟩
                            · rw [if_neg c14] at H
                              exact absurd H (by simp)
                          · rw [if_neg c13] at H
                            have c13b0 : decide ((x7_3.length : Int) < a1) = false := decide_eq_false c13
                            clear c13
                            have H' := Aside0.mk H
                            clear H
                            obtain ⟨Ao17, co17, eo17⟩ := Kd.R_slice HO_7.out
                            subst eo17
                            go_wp2
                            go_roundg k3
                            case measure => have := HK1.out; have := HJ5.out; have := HK3.out; omega
                            case rel => exact ⟨(x7_3), (wrap64 (x8_1 + 1)), (by first | rfl | (simp; done) | (simp [*]; done)), H', ⟨by have := HK1.out; have := HJ5.out; have := HK3.out; omega⟩, ⟨by (with_reducible repeat (first | apply Kd.R_alloc | apply Kd.R_drewN | apply Kd.R_drew)); exact HO_7.out⟩, ⟨by repeat (first | (with_reducible first | exact HB.out | apply below_alloc | apply pw_below_drewN | apply below_drew1) | exact HB.out)⟩⟩
                        · rw [if_neg c12] at H
                          have c12b0 : decide (x10_3 < 8) = false := decide_eq_false c12
                          clear c12
                          have H' := Aside0.mk H
                          clear H
                          go_wp2
                          go_roundg k3
                          case measure => have := HK1.out; have := HJ5.out; have := HK3.out; omega
                          case rel => exact ⟨(x7_3), (wrap64 (x8_1 + 1)), (by first | rfl | (simp; done) | (simp [*]; done)), H', ⟨by have := HK1.out; have := HJ5.out; have := HK3.out; omega⟩, ⟨by (with_reducible repeat (first | apply Kd.R_alloc | apply Kd.R_drewN | apply Kd.R_drew)); exact HO_7.out⟩, ⟨by repeat (first | (with_reducible first | exact HB.out | apply below_alloc | apply pw_below_drewN | apply below_drew1) | exact HB.out)⟩⟩
                  · rw [if_neg c11] at H
                    exact absurd H (by simp)
                · rw [if_neg c10] at H
                  exact absurd H (by simp)
              · replace c9 := Bool.eq_false_iff.mpr c9
                subst c9
                have H1 : (some (x7_1, 0)) = some (r1, r2) := by rw [if_neg (show ¬ (false = true) by decide)] at H; exact H
                clear H
                have H := H1
                clear H1
                simp only [Option.some.injEq, Prod.mk.injEq] at H
                obtain ⟨rfl, rfl⟩ := H
                go_wp2
                go_ret2
                exact ⟨_, by first | rfl | (simp [errW_none, errW_some] <;> rfl) | (simp [*, errW_none, errW_some] <;> rfl), by (with_reducible repeat (first | apply Kd.R_alloc | apply Kd.R_drewN | apply Kd.R_drew)); exact HO_7.out, by repeat (first | (with_reducible first | exact HB.out | apply below_alloc | apply pw_below_drewN | apply below_drew1) | exact HB.out)⟩
end Go.Proofs.Ytgjcffjicbmkhaa.PF
end

section
namespace Go.Proofs.Ytgjcffjicbmkhaa.RefU
open Go Go.RowKit Go.Proofs.YtgjcffjicbmkhaaW.PrintWords Go.Proofs.YtgjcffjicbmkhaaW.PrintLast Go.Proofs.YtgjcffjicbmkhaaW.PrintMore Go.Proofs.Ytgjcffjicbmkhaa.PF Go.Proofs.Ytgjcffjicbmkhaa.NumA
set_option linter.unusedVariables false
def word_Words.f (n : Int) : Option Int := some (if n < 1 then 0 else (n - 1) / 8 + 1)
theorem words_some (n : Int) (h : -9223372036854775808 ≤ n ∧ n < 9223372036854775808) : word_Words.f n = some (if n < 1 then 0 else (n - 1) / 8 + 1) := rfl
def inB (l : List Int) : Prop := ∀ c ∈ l, 0 ≤ c ∧ c < 256
def inW (l : List Int) : Prop := ∀ c ∈ l, 0 ≤ c ∧ c < 18446744073709551616
theorem words_nat (n : Nat) (h : n < 9223372036854775808) : word_Words.f (n : Int) = some (((n + 7) / 8 : Nat) : Int) := by
  rw [words_some _ (by omega)]
  by_cases h1 : (n : Int) < 1
  · rw [if_pos h1]; congr 1; omega
  · rw [if_neg h1]; congr 1; omega
def wordOf (l : List Int) (m j : Nat) : Int := valN (((l.take m).drop (8 * j)).take 8)
def pack (l : List Int) : List Int := (List.range ((l.length + 7) / 8)).map (wordOf l l.length)
theorem seg_get (l : List Int) (m j t : Nat) : (((l.take m).drop (8 * j)).take 8)[t]? = if t < 8 ∧ 8 * j + t < m then l[8 * j + t]? else none := by
  by_cases h1 : t < 8
  · rw [List.getElem?_take_of_lt h1, List.getElem?_drop]
    by_cases h2 : 8 * j + t < m
    · rw [List.getElem?_take_of_lt h2, if_pos ⟨h1, h2⟩]
    · rw [if_neg (by omega), List.getElem?_eq_none (by simp; omega)]
  · rw [if_neg (by omega), List.getElem?_eq_none (by simp; omega)]
theorem seg_in {l : List Int} (h : inB l) (m j : Nat) : ∀ b ∈ ((l.take m).drop (8 * j)).take 8, isB b := fun b hb => h b (List.mem_of_mem_take (List.mem_of_mem_drop (List.mem_of_mem_take hb)))
theorem seg_len (l : List Int) (m j : Nat) (hm : m ≤ l.length) : (((l.take m).drop (8 * j)).take 8).length = min 8 (m - 8 * j) := by
  simp; omega
theorem pow256_le (t : Nat) (h : t ≤ 8) : (256 : Int) ^ t ≤ 18446744073709551616 := by
  have : ∀ t : Fin 9, (256 : Int) ^ t.1 ≤ 18446744073709551616 := by decide
  exact this ⟨t, by omega⟩
theorem pack_len (l : List Int) : (pack l).length = (l.length + 7) / 8 := by simp [pack]
theorem pack_get (l : List Int) (j : Nat) (hj : j < (l.length + 7) / 8) : (pack l)[j]? = some (wordOf l l.length j) := by simp [pack, hj]
theorem wordOf_in {l : List Int} (hl : inB l) (m j : Nat) : 0 ≤ wordOf l m j ∧ wordOf l m j < 18446744073709551616 := by
  have h := valN_bounds _ (seg_in hl m j)
  have h2 : (((l.take m).drop (8 * j)).take 8).length ≤ 8 := by rw [List.length_take]; omega
  have := pow256_le _ h2
  unfold wordOf
  omega
theorem pack_in {l : List Int} (hl : inB l) : inW (pack l) := by
  intro c hc
  simp only [pack, List.mem_map] at hc
  obtain ⟨j, _, rfl⟩ := hc
  exact wordOf_in hl _ _
def byteAt (w : List Int) (i : Nat) : Int := w.getD (i / 8) 0 / 256 ^ (i % 8) % 256
def unpack (w : List Int) (n : Nat) : List Int := (List.range n).map (byteAt w)
theorem byte_pack {l : List Int} (hl : inB l) (i : Nat) : byteAt (pack l) i = l.getD i 0 := by
  unfold byteAt
  by_cases h : i / 8 < (l.length + 7) / 8
  · rw [List.getD_eq_getElem?_getD, pack_get l _ h, Option.getD_some]
    unfold wordOf
    rw [valN_digit _ (seg_in hl _ _), List.getD_eq_getElem?_getD, seg_get, List.getD_eq_getElem?_getD]
    by_cases h2 : i < l.length
    · rw [if_pos (by omega), show 8 * (i / 8) + i % 8 = i from by omega]
    · rw [if_neg (by omega), List.getElem?_eq_none (by omega)]
  · rw [List.getD_eq_getElem?_getD, List.getElem?_eq_none (by rw [pack_len]; omega), List.getD_eq_getElem?_getD, List.getElem?_eq_none (by omega)]
    simp
theorem Words (n : Int) (h : -9223372036854775808 ≤ n ∧ n < 9223372036854775808) : larderref1_Words.f n = word_Words.f n := by
  rw [words_some n h]
  unfold larderref1_Words.f
  by_cases h1 : n < 1
  · rw [if_pos h1, if_pos h1]
  · rw [if_neg h1, if_neg h1, Int.tmod_eq_emod_of_nonneg (by omega), Int.tdiv_eq_ediv_of_nonneg (by omega)]
    have e1 : wrap64 (n / 8) = n / 8 := by unfold wrap64; omega
    have e2 : wrap64 (n / 8 + 1) = n / 8 + 1 := by unfold wrap64; omega
    rw [e1, e2]
    by_cases h2 : n % 8 > 0
    · rw [if_pos h2]; congr 1; omega
    · rw [if_neg h2]; congr 1; omega
theorem pow256_mono {a b : Nat} (h : a ≤ b) : (256 : Int) ^ a ≤ 256 ^ b := by
  obtain ⟨c, rfl⟩ := Nat.exists_eq_add_of_le h
  rw [Int.pow_add]
  have h1 : (0 : Int) < 256 ^ a := Int.pow_pos (by decide)
  have h0 : (0 : Int) < 256 ^ c := Int.pow_pos (by decide)
  have h2 : (1 : Int) ≤ 256 ^ c := h0
  have := Int.mul_le_mul_of_nonneg_left h2 (Int.le_of_lt h1)
  rw [Int.mul_one] at this
  exact this
def sv (l : List Int) (at_ i : Nat) : Int := valN ((l.drop (at_ + i)).take (8 - i))
theorem sv_step (l : List Int) (at_ i : Nat) (hi : i < 8) : sv l at_ i = l.getD (at_ + i) 0 + 256 * sv l at_ (i + 1) := by
  unfold sv
  by_cases h : at_ + i < l.length
  · rw [List.drop_eq_getElem_cons h, show 8 - i = (8 - (i + 1)) + 1 from by omega, List.take_succ_cons]
    simp only [valN]
    rw [List.getD_eq_getElem?_getD, List.getElem?_eq_getElem h, Option.getD_some, Nat.add_assoc]
  · rw [List.drop_of_length_le (by omega), List.drop_of_length_le (by omega), List.getD_eq_getElem?_getD, List.getElem?_eq_none (by omega)]
    simp [valN]
theorem sv_bd {l : List Int} (hl : inB l) (at_ i : Nat) : 0 ≤ sv l at_ i ∧ sv l at_ i < 256 ^ (8 - i) := by
  unfold sv
  have h := valN_bounds ((l.drop (at_ + i)).take (8 - i)) (fun b hb => hl b (List.mem_of_mem_drop (List.mem_of_mem_take hb)))
  have h2 : ((l.drop (at_ + i)).take (8 - i)).length ≤ 8 - i := by rw [List.length_take]; omega
  have h3 : (256 : Int) ^ ((l.drop (at_ + i)).take (8 - i)).length ≤ 256 ^ (8 - i) := pow256_mono h2
  omega
theorem pack_inner (l : List Int) (hl : inB l) (x3 : List Int) (at_ : Nat) (hat : at_ ≤ 140737488355336) (R : List Int)
    (h : Ev (fun k => larderref1_Pack.l1 k l x3 at_ (sv l at_ 0) (-1)) R) (i : Nat) (hi : i ≤ 8) : Ev (fun k => larderref1_Pack.l1 k l x3 at_ (sv l at_ i) ((i : Int) - 1)) R := by
  induction i with
  | zero => exact h
  | succ i ih =>
    have hs := sv_step l at_ i (by omega)
    have hb := sv_bd hl at_ (i + 1)
    have hp := pow256_le (8 - (i + 1)) (by omega)
    have hb0 := sv_bd hl at_ i
    have hp0 := pow256_le (8 - i) (by omega)
    have hp7 : (256 : Int) ^ (8 - (i + 1)) ≤ 72057594037927936 := by
      have : ∀ t : Fin 8, (256 : Int) ^ (8 - (t.1 + 1)) ≤ 72057594037927936 := by decide
      exact this ⟨i, by omega⟩
    have hw : wrap64 ((at_ : Int) + (((i + 1 : Nat) : Int) - 1)) = ((at_ + i : Nat) : Int) := by unfold wrap64; omega
    have hw2 : wrap64 (((i + 1 : Nat) : Int) - 1 - 1) = (i : Int) - 1 := by unfold wrap64; omega
    have hm : IntKind.u64.wrap (sv l at_ (i + 1) * 256) = sv l at_ (i + 1) * 256 := by rw [IntKind.wrap_u64]; omega
    refine Ev.step (f := fun k => larderref1_Pack.l1 k l x3 at_ (sv l at_ i) ((i : Int) - 1)) (fun k => ?_) (ih (by omega))
    simp only [larderref1_Pack.l1]
    rw [if_pos (by omega), hw, hm, hw2]
    by_cases hlt : at_ + i < l.length
    · have hg := hl _ (List.getElem_mem hlt)
      have hrd : rd l ((at_ + i : Nat) : Int) = l.getD (at_ + i) 0 := by unfold rd; rw [Int.toNat_natCast]
      have hgd : l.getD (at_ + i) 0 = l[at_ + i] := by rw [List.getD_eq_getElem?_getD, List.getElem?_eq_getElem hlt]; rfl
      rw [if_pos (by omega), if_pos (by omega), hrd]
      have e : IntKind.u64.wrap (sv l at_ (i + 1) * 256 + IntKind.u64.wrap (l.getD (at_ + i) 0)) = sv l at_ i := by
        rw [hgd] at hs ⊢
        rw [IntKind.wrap_u64, IntKind.wrap_u64]; omega
      rw [e]
    · have hgd : l.getD (at_ + i) 0 = 0 := by rw [List.getD_eq_getElem?_getD, List.getElem?_eq_none (by omega)]; rfl
      rw [if_neg (by omega)]
      rw [show sv l at_ (i + 1) * 256 = sv l at_ i from by rw [hgd] at hs; omega]
theorem pack_outer (l : List Int) (hl : inB l) (hn : l.length ≤ 140737488351232) (d : Nat) : ∀ j : Nat, j + d = (l.length + 7) / 8 → Ev (fun k => larderref1_Pack.l0 k l ((List.range j).map (wordOf l l.length)) ((8 * j : Nat) : Int)) (pack l) := by
  induction d with
  | zero =>
    intro j hj
    refine Ev.step (f := fun _ => some ((List.range j).map (wordOf l l.length))) (fun k => by simp only [larderref1_Pack.l0]; rw [if_neg (by omega)]) ?_
    rw [show pack l = (List.range j).map (wordOf l l.length) from by unfold pack; rw [← hj]; rfl]
    exact Ev.now _
  | succ d ih =>
    intro j hj
    refine Ev.step (f := fun k => larderref1_Pack.l1 k l ((List.range j).map (wordOf l l.length)) ((8 * j : Nat) : Int) (sv l (8 * j) 8) (((8 : Nat) : Int) - 1)) (fun k => ?_) ?_
    · simp only [larderref1_Pack.l0]
      rw [if_pos (by omega)]
      rfl
    · refine pack_inner l hl _ (8 * j) (by omega) _ ?_ 8 (Nat.le_refl _)
      have hw : wrap64 (((8 * j : Nat) : Int) + 8) = ((8 * (j + 1) : Nat) : Int) := by unfold wrap64; omega
      refine Ev.step (f := fun k => larderref1_Pack.l0 k l ((List.range (j + 1)).map (wordOf l l.length)) ((8 * (j + 1) : Nat) : Int)) (fun k => ?_) (ih (j + 1) (by omega))
      simp only [larderref1_Pack.l1]
      rw [if_neg (by decide), if_pos (by simp; omega), hw]
      congr 1
      rw [List.range_succ, List.map_append]
      congr 1
      simp [sv, wordOf]
theorem Pack (l : List Int) (hl : inB l) (hn : l.length ≤ 140737488351232) : Ev (fun k => larderref1_Pack.f k l) (pack l) := pack_outer l hl hn _ 0 (Nat.zero_add _)
theorem unpack_len (w : List Int) (n : Nat) : (unpack w n).length = n := by simp [unpack]
theorem unpack_succ (w : List Int) (n : Nat) : unpack w (n + 1) = unpack w n ++ [byteAt w n] := by simp [unpack, List.range_succ]
theorem unpack_inner (w : List Int) (hw : inW w) (n i : Nat) (hi : i < w.length) (hil : w.length < 9223372036854775807) (hn : n ≤ 140737488355328) (R : List Int × Int)
    (h : ∀ m, m ≤ n → (m = n ∨ m = 8 * (i + 1)) → Ev (fun k => larderref1_Unpack.l0 k w n (unpack w m) ((i + 1 : Nat) : Int)) R) (d : Nat) :
    ∀ t : Nat, t + d = 8 → 8 * i + t ≤ n → Ev (fun k => larderref1_Unpack.l1 k w n (unpack w (8 * i + t)) i (w.getD i 0 / 256 ^ t) t) R := by
  have hwrap : wrap64 ((i : Int) + 1) = ((i + 1 : Nat) : Int) := by unfold wrap64; omega
  induction d with
  | zero =>
    intro t ht htn
    obtain rfl : t = 8 := by omega
    refine Ev.step (f := fun k => larderref1_Unpack.l0 k w n (unpack w (8 * i + 8)) ((i + 1 : Nat) : Int)) (fun k => ?_) (h _ htn (.inr (by omega)))
    simp only [larderref1_Unpack.l1]
    rw [if_neg (by omega), hwrap]
  | succ d ih =>
    intro t ht htn
    by_cases hc : 8 * i + t < n
    · have h3 : wrap64 ((t : Int) + 1) = ((t + 1 : Nat) : Int) := by unfold wrap64; omega
      have hg : 0 ≤ w.getD i 0 ∧ w.getD i 0 < 18446744073709551616 := by
        rw [List.getD_eq_getElem?_getD, List.getElem?_eq_getElem hi]
        exact hw _ (List.getElem_mem hi)
      have hp : (0 : Int) < 256 ^ t := Int.pow_pos (by decide)
      have hq0 : 0 ≤ w.getD i 0 / 256 ^ t := Int.ediv_nonneg hg.1 (Int.le_of_lt hp)
      have hq1 : w.getD i 0 / 256 ^ t < 18446744073709551616 := by
        have := Int.ediv_le_self (256 ^ t) hg.1
        omega
      have hb : (Int.tmod (w.getD i 0 / 256 ^ t) 256) % 256 = byteAt w (8 * i + t) := by
        rw [Int.tmod_eq_emod_of_nonneg hq0]
        unfold byteAt
        rw [show (8 * i + t) / 8 = i from by omega, show (8 * i + t) % 8 = t from by omega]
        omega
      have hd : IntKind.u64.wrap (Int.tdiv (w.getD i 0 / 256 ^ t) 256) = w.getD i 0 / 256 ^ (t + 1) := by
        rw [Int.tdiv_eq_ediv_of_nonneg hq0, IntKind.wrap_u64, Int.pow_succ, ← Int.ediv_ediv_of_nonneg (Int.le_of_lt hp)]
        omega
      refine Ev.step (f := fun k => larderref1_Unpack.l1 k w n (unpack w (8 * i + (t + 1))) i (w.getD i 0 / 256 ^ (t + 1)) ((t + 1 : Nat) : Int)) (fun k => ?_) (ih (t + 1) (by omega) (by omega))
      simp only [larderref1_Unpack.l1]
      rw [if_pos (by omega), if_pos (by rw [unpack_len]; omega), if_pos (by rw [unpack_len]; omega), hb, hd, h3, ← unpack_succ]
      rfl
    · have e : 8 * i + t = n := by omega
      refine Ev.step (f := fun k => larderref1_Unpack.l0 k w n (unpack w (8 * i + t)) ((i + 1 : Nat) : Int)) (fun k => ?_) (h _ htn (.inl e))
      simp only [larderref1_Unpack.l1]
      rw [if_pos (by omega), if_neg (by rw [unpack_len]; omega), hwrap]
theorem unpack_outer (w : List Int) (hw : inW w) (n : Nat) (hil : w.length < 9223372036854775807) (hn : n ≤ 140737488355328) (hnw : n ≤ 8 * w.length) (d : Nat) :
    ∀ i m : Nat, i + d = w.length → m ≤ n → (m = n ∨ m = 8 * i) → Ev (fun k => larderref1_Unpack.l0 k w n (unpack w m) i) (unpack w n, 0) := by
  have stop : ∀ i : Nat, Ev (fun k => larderref1_Unpack.j1 k w n (unpack w n) i false) (unpack w n, 0) := fun i =>
    Ev.step (f := fun _ => some (unpack w n, 0)) (fun k => by simp only [larderref1_Unpack.j1]; rw [if_neg (by simp)]) (Ev.now _)
  induction d with
  | zero =>
    intro i m hi hm hc
    obtain rfl : m = n := by omega
    refine Ev.step (f := fun k => larderref1_Unpack.j1 k w m (unpack w m) i false) (fun k => ?_) (stop i)
    simp only [larderref1_Unpack.l0]
    rw [if_neg (by omega)]
  | succ d ih =>
    intro i m hi hm hc
    have hi' : i < w.length := by omega
    by_cases he : m = n
    · subst he
      refine Ev.step (f := fun k => larderref1_Unpack.j1 k w m (unpack w m) i false) (fun k => ?_) (stop i)
      simp only [larderref1_Unpack.l0]
      rw [if_pos (by omega), decide_eq_false (by rw [unpack_len]; omega)]
    · obtain rfl : m = 8 * i := by omega
      refine Ev.step (f := fun k => larderref1_Unpack.j1 k w n (unpack w (8 * i)) i true) (fun k => ?_) ?_
      · simp only [larderref1_Unpack.l0]
        rw [if_pos (by omega), decide_eq_true (by rw [unpack_len]; omega)]
      · have hin := unpack_inner w hw n i hi' hil hn (unpack w n, 0) (fun m' h1 h2 => ih (i + 1) m' (by omega) h1 h2) 8 0 rfl (by omega)
        refine Ev.step (f := fun k => larderref1_Unpack.l1 k w n (unpack w (8 * i)) i (rd w (i : Int)) 0) (fun k => ?_) ?_
        · simp only [larderref1_Unpack.j1]
          rw [if_pos trivial, if_pos (by omega), if_pos (by omega)]
        · have : rd w (i : Int) = w.getD i 0 / 256 ^ 0 := by unfold rd; rw [Int.toNat_natCast]; simp
          rw [this]
          exact hin
theorem Unpack_ok (w : List Int) (hw : inW w) (n : Nat) (hil : w.length < 9223372036854775807) (hn : n ≤ 140737488355328) (hnw : n ≤ 8 * w.length) : Ev (fun k => larderref1_Unpack.f k w (n : Int)) (unpack w n, 0) := by
  have h := unpack_outer w hw n hil hn hnw w.length 0 0 (by omega) (Nat.zero_le _) (.inr rfl)
  refine Ev.congr (fun k => ?_) h
  unfold larderref1_Unpack.f
  rw [if_neg (by omega), Words _ (by omega), words_nat n (by omega), Option.bind_some, if_neg (by omega)]
  rfl
theorem Unpack_bad (w : List Int) (n : Int) (hn : -9223372036854775808 ≤ n ∧ n < 9223372036854775808) (h : n < 0 ∨ 8 * (w.length : Int) < n) : Ev (fun k => larderref1_Unpack.f k w n) ([], 11) := by
  refine Ev.congr (f := fun _ => some (([] : List Int), 11)) (fun k => ?_) (Ev.now _)
  unfold larderref1_Unpack.f
  by_cases h0 : n < 0
  · rw [if_pos h0]
  · rw [if_neg h0, Words n hn, words_some n hn, if_neg (show ¬ n < 1 by omega), Option.bind_some, if_pos (by omega)]
end Go.Proofs.Ytgjcffjicbmkhaa.RefU
end

section
namespace Go.Proofs.Ytgjcffjicbmkhaa.PF
open Go.RowKit Go.Proofs.YtgjcffjicbmkhaaW.PrintWords Go.Proofs.YtgjcffjicbmkhaaW.PrintLast Go.Proofs.YtgjcffjicbmkhaaW.PrintMore
attribute [local go_sem] max2_int min2_int max_two min_two max_three min_three max_four min_four   -- for this text's walks alone
set_option linter.unusedVariables false
set_option linter.unusedSimpArgs false
def larderlaw1_at.f (a0 : Int) (a1 : Int) : Option (Int) := if (Int.tmod a1 2) = 0 then (some ((wrap64 (1 + (Int.tmod a0 251))) % 256)) else (some ((wrap64 (1 + (Int.tmod (wrap64 ((wrap64 (7 * a0)) + (wrap64 (Int.tdiv a0 251)))) 251))) % 256))
set_option maxHeartbeats 8000000 in
set_option maxRecDepth 100000 in
theorem larderlaw1_at.calls (a0 : Int) (a1 : Int) (r : Int) (w : World) (h : larderlaw1_at.f a0 a1 = some r) :
    Calls Try.prog 85 #[.int .i64 a0, .int .i64 a1] w fun e w' => e = .returned (.int .u8 r) ∧ Drawn0 w w' := by
  have H : (if (Int.tmod a1 2) = 0 then (some ((wrap64 (1 + (Int.tmod a0 251))) % 256)) else (some ((wrap64 (1 + (Int.tmod (wrap64 ((wrap64 (7 * a0)) + (wrap64 (Int.tdiv a0 251)))) 251))) % 256))) = some r := h
  clear h
  by_cases c3 : (Int.tmod a1 2) = 0
  · rw [if_pos c3] at H
    have c3b0 : ((Int.tmod a1 2) == 0) = true := beq_iff_eq.mpr c3
    have c3b1 : ((Int.tmod a1 2) != 0) = false := bne_eq_false_iff_eq.mpr c3
    clear c3
    obtain rfl := Option.some.inj H
    go_enter Try.func85, Try.ntmps85
    go_wp2
    go_ret
    exact ⟨by first | rfl | (simp; done) | (simp [*]; done), by repeat (first | exact Drawn0.refl _ | apply Drawn0.step)⟩
  · rw [if_neg c3] at H
    have c3b0 : ((Int.tmod a1 2) == 0) = false := beq_eq_false_iff_ne.mpr c3
    have c3b1 : ((Int.tmod a1 2) != 0) = true := bne_iff_ne.mpr c3
    obtain rfl := Option.some.inj H
    go_enter Try.func85, Try.ntmps85
    go_wp2
    go_ret
    exact ⟨by first | rfl | (simp; done) | (simp [*]; done), by repeat (first | exact Drawn0.refl _ | apply Drawn0.step)⟩
end Go.Proofs.Ytgjcffjicbmkhaa.PF
end

section
namespace Go.Proofs.Ytgjcffjicbmkhaa.PF
open Go.RowKit Go.Proofs.YtgjcffjicbmkhaaW.PrintWords Go.Proofs.YtgjcffjicbmkhaaW.PrintLast Go.Proofs.YtgjcffjicbmkhaaW.PrintMore
attribute [local go_sem] max2_int min2_int max_two min_two max_three min_three max_four min_four   -- for this text's walks alone
set_option linter.unusedVariables false
set_option linter.unusedSimpArgs false
def larderlaw1_wordsMark.f (a0 : Int) : Option (Int) := some (IntKind.u64.wrap ((IntKind.u64.wrap (a0)) * 1099511627776))
set_option maxHeartbeats 8000000 in
set_option maxRecDepth 100000 in
theorem larderlaw1_wordsMark.calls (a0 : Int) (r : Int) (w : World) (h : larderlaw1_wordsMark.f a0 = some r) :
    Calls Try.prog 88 #[.int .i64 a0] w fun e w' => e = .returned (.int .u64 r) ∧ Drawn0 w w' := by
  have H : (some (IntKind.u64.wrap ((IntKind.u64.wrap (a0)) * 1099511627776))) = some r := h
  clear h
  obtain rfl := Option.some.inj H
  go_enter Try.func88, Try.ntmps88
  go_wp2
  go_ret
  exact ⟨by first | rfl | (simp; done) | (simp [*]; done), by repeat (first | exact Drawn0.refl _ | apply Drawn0.step)⟩
end Go.Proofs.Ytgjcffjicbmkhaa.PF
end

section
namespace Go.Proofs.Ytgjcffjicbmkhaa.BokT
open Go Go.RowKit Go.Proofs.YtgjcffjicbmkhaaW.PrintWords Go.Proofs.YtgjcffjicbmkhaaW.PrintLast Go.Proofs.YtgjcffjicbmkhaaW.PrintMore Go.Proofs.Ytgjcffjicbmkhaa.PF Go.Proofs.Ytgjcffjicbmkhaa.RowU Go.Proofs.Ytgjcffjicbmkhaa.ArS Go.Proofs.Ytgjcffjicbmkhaa.ArM Go.Proofs.Ytgjcffjicbmkhaa.GenM Go.Proofs.Ytgjcffjicbmkhaa.GenN Go.Proofs.Ytgjcffjicbmkhaa.BokA
set_option linter.unusedVariables false
set_option maxRecDepth 100000
theorem w64s (x : Int) (h0 : 0 ≤ x) (h1 : x < 9223372036854775808) : wrap64 x = x := by unfold wrap64; omega
theorem at_all (m k : Nat) (hm : m ≤ 1000000000000000) (hk : k ≤ 1000000000000000) (w : World) : Calls Try.prog 85 #[.int .i64 (m : Int), .int .i64 (k : Int)] w fun e w' => e = .returned (elB m k) ∧ Below w.heap.size w w' := by
  refine (larderlaw1_at.calls (m : Int) (k : Int) (atN m k : Int) w ?_).mono fun e w' ⟨he, hd⟩ => ⟨he, hd.below⟩
  unfold larderlaw1_at.f atN
  have e1 : Int.tmod (k : Int) 2 = ((k % 2 : Nat) : Int) := by rw [Int.tmod_eq_emod_of_nonneg (by omega)]; omega
  have e2 : Int.tmod (m : Int) 251 = ((m % 251 : Nat) : Int) := by rw [Int.tmod_eq_emod_of_nonneg (by omega)]; omega
  have e3 : Int.tdiv (m : Int) 251 = ((m / 251 : Nat) : Int) := by rw [Int.tdiv_eq_ediv_of_nonneg (by omega)]; omega
  have e4 : wrap64 (7 * (m : Int)) = ((7 * m : Nat) : Int) := by rw [w64s _ (by omega) (by omega)]; omega
  rw [e1, e2, e3, e4]
  have e5 : wrap64 (((m / 251 : Nat) : Int)) = ((m / 251 : Nat) : Int) := w64s _ (by omega) (by omega)
  rw [e5]
  have e6 : wrap64 (((7 * m : Nat) : Int) + ((m / 251 : Nat) : Int)) = ((7 * m + m / 251 : Nat) : Int) := by rw [w64s _ (by omega) (by omega)]; omega
  rw [e6]
  have e7 : Int.tmod (((7 * m + m / 251 : Nat)) : Int) 251 = (((7 * m + m / 251) % 251 : Nat) : Int) := by rw [Int.tmod_eq_emod_of_nonneg (by omega)]; omega
  rw [e7]
  by_cases h : k % 2 = 0
  · rw [if_pos (by omega), if_pos h, w64s _ (by omega) (by omega)]
    congr 1; omega
  · rw [if_neg (by omega), if_neg h, w64s _ (by omega) (by omega)]
    congr 1; omega
theorem wm_all (m : Nat) (hm : m ≤ 1000000000000000) (w : World) : Calls Try.prog 88 #[.int .i64 (m : Int)] w fun e w' => e = .returned (.int .u64 (wmN m : Int)) ∧ Below w.heap.size w w' := by
  refine (larderlaw1_wordsMark.calls (m : Int) (wmN m : Int) w ?_).mono fun e w' ⟨he, hd⟩ => ⟨he, hd.below⟩
  have h : (wmN m : Int) = ((m : Int) * 1099511627776) % 18446744073709551616 := by unfold wmN; rw [Int.natCast_emod, Int.natCast_mul]; rfl
  unfold larderlaw1_wordsMark.f
  rw [h, IntKind.wrap_u64, IntKind.wrap_u64, Int.emod_eq_of_lt (a := (m : Int)) (by omega) (by omega)]
set_option maxHeartbeats 4000000 in
theorem tight.calls (W : World) (g off : Nat) (c : Nat → Value) (used n : Nat) (h : Hd W g off c) (hu : c 32 = .int .i64 (used : Int)) (hb : used ≤ 16777216) (hn : n ≤ 100000000000000000) :
    Calls Try.prog 86 #[.pointer (some ⟨g, off, none⟩), .int .i64 (n : Int)] W fun e w' =>
      (e = .returned (.bool true) ∧ w' = W) ∨ (e = .returned (.bool false) ∧ used + n ≤ 16777216 ∧ w' = W.setCell ⟨g, off + 32, none⟩ (.int .i64 ((used + n : Nat) : Int))) := by
  have hx := h.cell 32 (by omega)
  rw [hu] at hx
  obtain ⟨cur, T, hbk⟩ := h.blk
  have hfz := blk_frozen hbk (off + 32)
  obtain ⟨s, hs⟩ : ∃ s, s = used + n := ⟨_, rfl⟩
  have HE := Aside0.mk (NumB.sum_i (used : Int) n s (by omega) (by omega))
  rw [← hs]
  by_cases ht : 16777216 < s
  · have ht' : (16777216 : Int) < (s : Int) := by omega
    clear hs h hu
    go_enter Try.func86, Try.ntmps86
    obtain ⟨e1, f1⟩ := HE.out
    go_wp2_with fail
    go_ret
    exact .inl ⟨rfl, rfl⟩
  · have ht' : ¬ ((16777216 : Int) < (s : Int)) := by omega
    clear hs h hu
    go_enter Try.func86, Try.ntmps86
    obtain ⟨e1, f1⟩ := HE.out
    go_wp2_with fail
    go_ret
    exact .inr ⟨rfl, by omega, rfl⟩
end Go.Proofs.Ytgjcffjicbmkhaa.BokT
end

section
namespace Go.Proofs.Ytgjcffjicbmkhaa.BokB
open Go Go.RowKit Go.Proofs.YtgjcffjicbmkhaaW.PrintWords Go.Proofs.YtgjcffjicbmkhaaW.PrintLast Go.Proofs.YtgjcffjicbmkhaaW.PrintMore Go.Proofs.Ytgjcffjicbmkhaa.PF Go.Proofs.Ytgjcffjicbmkhaa.RowU Go.Proofs.Ytgjcffjicbmkhaa.ArS Go.Proofs.Ytgjcffjicbmkhaa.ArM Go.Proofs.Ytgjcffjicbmkhaa.GenM Go.Proofs.Ytgjcffjicbmkhaa.GenN Go.Proofs.Ytgjcffjicbmkhaa.BokA Go.Proofs.Ytgjcffjicbmkhaa.BokT
set_option linter.unusedVariables false
set_option maxRecDepth 100000
def half (el : Nat → Nat → Value) (m : Nat) (l : List Value) (k : Nat) : List Value := mkL el m k ++ l.drop k
theorem half_len (el : Nat → Nat → Value) (m : Nat) (l : List Value) {k : Nat} (h : k ≤ l.length) : (half el m l k).length = l.length := by
  unfold half; rw [List.length_append, mkL_len, List.length_drop]; omega
theorem half_set (el : Nat → Nat → Value) (m : Nat) (l : List Value) {k : Nat} (h : k < l.length) : (half el m l k).set k (el m k) = half el m l (k + 1) := by
  unfold half
  rw [List.set_append_right _ _ (by rw [mkL_len]; exact Nat.le_refl _), mkL_len, Nat.sub_self, mkL_succ, List.append_assoc]
  congr 1
  rw [← List.getElem_cons_drop (h := h)]
  rfl
theorem half_all (el : Nat → Nat → Value) (m : Nat) (l : List Value) : half el m l l.length = mkL el m l.length := by
  unfold half; rw [List.drop_length, List.append_nil]
theorem half_none (el : Nat → Nat → Value) (m : Nat) (l : List Value) : half el m l 0 = l := by simp [half, mkL]
def vB_ (v : Value) : Nat → Prop := fun b => v.ownBlock = some b
theorem cnt_fit {el : Nat → Nat → Value} {k : Nat} {Tt Te : TypeId} {W : World} {ow : Own} {v vo : Value} {es : List Ent} {a U : Nat} (h : Tb k Tt Te el W ow v vo es a U) (hU : U ≤ 16777216) : es.length ≤ 140000 := by
  have h1 := h.bnd
  have h2 := h.al
  omega
theorem push_step {k : Nat} {Tt Te : TypeId} {el : Nat → Nat → Value} {w3 w4 w5 w6 w7 w8 : World} {ow : Own} {g j0 : Nat} {v vT vO v7 v9 x6 : Value} {es : List Ent} {a U U' m n : Nat}
    (h : Tb k Tt Te el w3 ow vT vO es a U) (hlt : ∀ b, ow b ≠ none → b < w3.heap.size) (hg : ow g = none) (hgl : g < w3.heap.size) (hv : GV Te w3 v (mkL el m n)) (hvn : ∀ b, v.ownBlock = some b → ow b = none ∧ b ≠ g) (hn : n ≤ 5900000) (hm : m ≤ 1000000000000000) (hU : U + 1200 ≤ U')
    (u4 : Below w3.heap.size w3 w4) (r5 : Grew Tt w4 w5 vT v7 (vsOf es) v) (e6 : w6 = w5.setCell ⟨g, j0, none⟩ x6) (u67 : Below w6.heap.size w6 w7) (r8 : Grew 3 w7 w8 vO v9 (msOf es) (.int .i64 (m : Int))) :
    ∃ ow', Tb k Tt Te el w8 ow' v7 v9 (es ++ [⟨v, m, n⟩]) a U' ∧ ow.le ow' ∧ (∀ b, ow' b ≠ none → b < w8.heap.size) ∧ ow' g = none ∧ (∀ b, ow' b ≠ none → ow b ≠ none ∨ vB_ v b ∨ w3.heap.size ≤ b) ∧ Upd (fun b => b = g ∨ ow b = some (k, 0) ∨ ow b = some (k, 1)) w3 w8 := by
  have s4 := u4.size
  have u35 : Upd (fun b => ow b = some (k, 0)) w3 w5 := (Upd.of_below u4).trans (r5.upd.mono (fun b hb => h.tabT b hb))
  have u56 : Upd (fun b => b = g) w5 w6 := by rw [e6]; exact Upd.put (S := fun b => b = g) (Upd.refl _ w5) (.inl rfl) _ _
  have s35 := u35.size
  have s56 := u56.size
  have s67 := u67.size
  have s78 := r8.upd.size
  have b7 : ∀ b, v7.ownBlock = some b → ow b = some (k, 0) ∨ (ow b = none ∧ w3.heap.size ≤ b ∧ b < w5.heap.size) := fun b hb => by
    rcases r5.block b hb with h1 | h1
    · exact .inl (h.tabT b h1)
    · exact .inr ⟨Classical.byContradiction fun hne => by have := hlt b hne; omega, by omega, r5.gv.lt b hb⟩
  have b9 : ∀ b, v9.ownBlock = some b → ow b = some (k, 1) ∨ (ow b = none ∧ w5.heap.size ≤ b ∧ b < w8.heap.size) := fun b hb => by
    rcases r8.block b hb with h1 | h1
    · exact .inl (h.ofT b h1)
    · exact .inr ⟨Classical.byContradiction fun hne => by have := hlt b hne; omega, by omega, r8.gv.lt b hb⟩
  have hvl := fun b hb => hv.lt b hb
  have n7v : ∀ b, v7.ownBlock = some b → v.ownBlock ≠ some b := fun b hb hv' => by
    have h1 := (hvn b hv').1
    have h2 := hvl b hv'
    rcases b7 b hb with h3 | h3
    · rw [h1] at h3; cases h3
    · omega
  have n9v : ∀ b, v9.ownBlock = some b → v.ownBlock ≠ some b := fun b hb hv' => by
    have h1 := (hvn b hv').1
    have h2 := hvl b hv'
    rcases b9 b hb with h3 | h3
    · rw [h1] at h3; cases h3
    · omega
  have n97 : ∀ b, v9.ownBlock = some b → v7.ownBlock ≠ some b := fun b hb h7 => by
    rcases b9 b hb with h3 | h3 <;> rcases b7 b h7 with h4 | h4
    · rw [h3] at h4; simp at h4
    · rw [h3] at h4; simp at h4
    · rw [h4] at h3; simp at h3
    · omega
  have n7g : v7.ownBlock ≠ some g := fun hb => by
    rcases b7 g hb with h3 | h3
    · rw [hg] at h3; cases h3
    · omega
  have n9g : v9.ownBlock ≠ some g := fun hb => by
    rcases b9 g hb with h3 | h3
    · rw [hg] at h3; cases h3
    · omega
  have nvg : v.ownBlock ≠ some g := fun hb => (hvn g hb).2 rfl
  have hu : Upd (fun b => b = g ∨ ow b = some (k, 0) ∨ ow b = some (k, 1)) w3 w8 :=
    (((u35.mono (fun b hb => .inr (.inl hb))).trans (u56.mono (fun b hb => .inl hb))).trans (Upd.of_below u67)).trans (r8.upd.mono (fun b hb => .inr (.inr (h.ofT b hb))))
  have e1 : ∀ b, v7.ownBlock = some b → (ow.put v (k, 4 + es.length)) b = none ∨ (ow.put v (k, 4 + es.length)) b = some (k, 0) := fun b hb => by
    unfold Own.put
    rw [if_neg (n7v b hb)]
    rcases b7 b hb with h3 | h3
    · exact .inr h3
    · exact .inl h3.1
  have e2 : ∀ b, v9.ownBlock = some b → ((ow.put v (k, 4 + es.length)).put v7 (k, 0)) b = none ∨ ((ow.put v (k, 4 + es.length)).put v7 (k, 0)) b = some (k, 1) := fun b hb => by
    unfold Own.put
    rw [if_neg (n97 b hb), if_neg (n9v b hb)]
    rcases b9 b hb with h3 | h3
    · exact .inr h3
    · exact .inl h3.1
  have le1 : ow.le (ow.put v (k, 4 + es.length)) := Own.put_le fun b hb => .inl (hvn b hb).1
  have le3 := (le1.trans (Own.put_le e1)).trans (Own.put_le e2)
  refine ⟨((ow.put v (k, 4 + es.length)).put v7 (k, 0)).put v9 (k, 1), ?_, le3, ?_, ?_, ?_, hu⟩
  · refine h.push hu (fun b t hb ht => ?_) le3 ?_ r8.gv (fun b hb => ?_) (fun b hb => Own.put_at hb) ?_ hn hm (fun b hb => ?_) hU
    · rintro (rfl | h1 | h1)
      · rw [hg] at hb; cases hb
      · rw [hb] at h1; simp at h1; omega
      · rw [hb] at h1; simp at h1; omega
    · have u58 : Upd (fun b => b = g ∨ vO.ownBlock = some b) w5 w8 := ((u56.mono (fun b hb => .inl hb)).trans (Upd.of_below u67)).trans (r8.upd.mono (fun b hb => .inr hb))
      refine r5.gv.upd u58 (fun b hb => ?_)
      rintro (rfl | h1)
      · exact n7g hb
      · have h2 := h.ofT b h1
        rcases b7 b hb with h3 | h3
        · rw [h2] at h3; simp at h3
        · rw [h2] at h3; simp at h3
    · show (((ow.put v (k, 4 + es.length)).put v7 (k, 0)).put v9 (k, 1)) b = _
      rw [Own.put, if_neg (fun h9 => n97 b h9 hb)]
      exact Own.put_at hb
    · refine hv.upd hu (fun b hb => ?_)
      have h1 := hvn b hb
      rintro (rfl | h2 | h2)
      · exact h1.2 rfl
      · rw [h1.1] at h2; cases h2
      · rw [h1.1] at h2; cases h2
    · rw [Own.put, if_neg (fun h9 => n9v b h9 hb), Own.put, if_neg (fun h7 => n7v b h7 hb)]
      exact Own.put_at hb
  · intro b hb
    rcases Own.put_ne hb with hb | hb
    · rcases Own.put_ne hb with hb | hb
      · rcases Own.put_ne hb with hb | hb
        · have := hlt b hb; omega
        · have := hvl b hb; omega
      · have := r5.gv.lt b hb; omega
    · exact r8.gv.lt b hb
  · rw [Own.put, if_neg n9g, Own.put, if_neg n7g, Own.put, if_neg nvg]; exact hg
  · intro b hb
    rcases Own.put_ne hb with hb | hb
    · rcases Own.put_ne hb with hb | hb
      · rcases Own.put_ne hb with hb | hb
        · exact .inl hb
        · exact .inr (.inl hb)
      · rcases b7 b hb with h3 | h3
        · exact .inl (by rw [h3]; simp)
        · exact .inr (.inr h3.2.1)
    · rcases b9 b hb with h3 | h3
      · exact .inl (by rw [h3]; simp)
      · exact .inr (.inr (by omega))
theorem _root_.Go.Proofs.Ytgjcffjicbmkhaa.BokA.Hd.congr {W : World} {g off : Nat} {c c' : Nat → Value} (h : Hd W g off c) (hc : ∀ j, j < 33 → c j = c' j) : Hd W g off c' := ⟨h.blk, fun j hj => by rw [← hc j hj]; exact h.cell j hj⟩
theorem keep_put {W W' : World} {g off k : Nat} {v : Value} {c : Nat → Value} (h : Hd W g off c) (hk : k < 33) (e : W' = W.setCell ⟨g, off + k, none⟩ v) : ∀ j, (j < off ∨ off + 33 ≤ j) → W'.cell? ⟨g, j, none⟩ = W.cell? ⟨g, j, none⟩ := by
  intro j hj
  rw [e]
  exact set_keep h.blk (by omega)
theorem keep_upd {S : Nat → Prop} {W W' : World} {g off : Nat} {c : Nat → Value} (h : Hd W g off c) (hu : Upd S W W') (hg : ¬ S g) : ∀ j, (j < off ∨ off + 33 ≤ j) → W'.cell? ⟨g, j, none⟩ = W.cell? ⟨g, j, none⟩ := fun j _ => upd_keep h.blk hu hg
theorem put_upd (W : World) (g k : Nat) (v : Value) : Upd (fun b => b = g) W (W.setCell ⟨g, k, none⟩ v) := Upd.put (S := fun b => b = g) (Upd.refl _ W) (.inl rfl) _ _
structure Full (W w3 : World) (g off : Nat) (ow : Own) (v : Value) (el : Nat → Nat → Value) (Te : TypeId) (n m : Nat) (c : Nat → Value) : Prop where
  hd : Hd w3 g off c
  gv : GV Te w3 v (mkL el m n)
  upd : Upd (fun b => b = g ∨ v.ownBlock = some b) W w3
  keep : ∀ j, (j < off ∨ off + 33 ≤ j) → w3.cell? ⟨g, j, none⟩ = W.cell? ⟨g, j, none⟩
theorem bytes_end {W w3 w4 w5 w6 w7 w8 w9 : World} {g off : Nat} {ow : Own} {vB vBo : Value} {eB : List Ent} {aB : Nat} {vW vWo : Value} {eW : List Ent} {aW turn done used used' n : Nat} {v v7 v9 : Value}
    (h : Bk W g off ow vB vBo eB aB vW vWo eW aW turn done used) (hvn : ∀ b, v.ownBlock = some b → ow b = none ∧ b ≠ g) (hn : n ≤ 5900000) (hm : turn + 1 ≤ 1000000000000000) (hU : used + 1200 ≤ used') (hU2 : used' ≤ 16777216)
    (hF : Full W w3 g off ow v elB 5 n (turn + 1) (bkC vB vBo aB vW vWo aW (turn + 1) done used'))
    (u4 : Below w3.heap.size w3 w4) (r5 : Grew 67 w4 w5 vB v7 (vsOf eB) v) (e6 : w6 = w5.setCell ⟨g, off + 0, none⟩ v7) (u67 : Below w6.heap.size w6 w7) (r8 : Grew 3 w7 w8 vBo v9 (msOf eB) (.int .i64 ((turn + 1 : Nat) : Int))) (e9 : w9 = w8.setCell ⟨g, off + 1, none⟩ v9) :
    ∃ ow', Bk w9 g off ow' v7 v9 (eB ++ [⟨v, turn + 1, n⟩]) aB vW vWo eW aW (turn + 1) done used' ∧ BkS W w9 g off ow ow' (vB_ v) := by
  have hnS : ∀ b t, ow b = some t → ¬ (b = g ∨ v.ownBlock = some b) := by
    rintro b t hb (rfl | h1)
    · rw [h.ng] at hb; cases hb
    · rw [(hvn b h1).1] at hb; cases hb
  have tB3 := h.tB.move hF.upd (fun b t hb => hnS b _ hb) (Own.le.refl _) (Nat.le_refl _)
  have hlt3 : ∀ b, ow b ≠ none → b < w3.heap.size := fun b hb => Nat.lt_of_lt_of_le (h.lt b hb) hF.upd.size
  have hgl : g < w3.heap.size := by obtain ⟨cur, T, hb⟩ := hF.hd.blk; exact cell_lt hb
  obtain ⟨ow', t8, le, lt8, ng8, own8, u38⟩ := push_step tB3 hlt3 h.ng hgl hF.gv hvn hn hm hU u4 r5 e6 u67 r8
  have s38 := u38.size
  have nS : ¬ (fun b => ow b = some (0, 0)) g := by show ¬ ow g = _; rw [h.ng]; simp
  have u35 : Upd (fun b => ow b = some (0, 0)) w3 w5 := (Upd.of_below u4).trans (r5.upd.mono (fun b hb => h.tB.tabT b hb))
  have hd5 := hF.hd.upd u35 nS
  have k5 := keep_upd hF.hd u35 nS
  have hd6 := hd5.put 0 (by omega) v7
  rw [← e6] at hd6
  have k6 := keep_put hd5 (by omega) e6
  have u68 : Upd (fun b => vBo.ownBlock = some b) w6 w8 := (Upd.of_below u67).trans r8.upd
  have nS2 : ¬ (fun b => vBo.ownBlock = some b) g := fun hb => by have := h.tB.ofT g hb; rw [h.ng] at this; cases this
  have hd8 := hd6.upd u68 nS2
  have k8 := keep_upd hd6 u68 nS2
  have hd9 := hd8.put 1 (by omega) v9
  rw [← e9] at hd9
  have k9 := keep_put hd8 (by omega) e9
  have u89 : Upd (fun b => b = g) w8 w9 := by rw [e9]; exact put_upd _ _ _ _
  have hg9 : ∀ b, ow' b ≠ none → ¬ (fun b => b = g) b := fun b hb e => by have e : b = g := e; subst e; exact hb ng8
  refine ⟨ow', ⟨hd9.congr (fun j hj => ?_), t8.move u89 (fun b t hb => hg9 b (by rw [hb]; simp)) (Own.le.refl _) (Nat.le_refl _), ?_, fun b hb => Nat.lt_of_lt_of_le (lt8 b hb) u89.size, ng8, hU2⟩, ⟨?_, fun b hb => ?_, fun j hj => ?_⟩⟩
  · unfold putC bkC
    by_cases h1 : j = 1
    · subst h1; simp
    · by_cases h0 : j = 0
      · subst h0; simp
      · simp [h1, h0]
  · have u : Upd (fun b => (b = g ∨ v.ownBlock = some b) ∨ ow b = some (0, 0) ∨ ow b = some (0, 1)) W w9 :=
      ((hF.upd.mono (fun b hb => .inl hb)).trans (u38.mono (fun b hb => by rcases hb with h1 | h1; exact .inl (.inl h1); exact .inr h1))).trans (u89.mono (fun b hb => .inl (.inl hb)))
    refine h.tW.move u (fun b t hb => ?_) le (by omega)
    rintro (h1 | h1 | h1)
    · exact hnS b _ hb h1
    · rw [hb] at h1; simp at h1
    · rw [hb] at h1; simp at h1
  · refine (hF.upd.mono (fun b hb => ?_)).trans ((u38.mono (fun b hb => ?_)).trans (u89.mono (fun b hb => .inl hb)))
    · rcases hb with h1 | h1
      · exact .inl h1
      · exact .inr (.inr h1)
    · rcases hb with h1 | h1 | h1
      · exact .inl h1
      · exact .inr (.inl (by rw [h1]; simp))
      · exact .inr (.inl (by rw [h1]; simp))
  · rcases own8 b hb with h1 | h1 | h1
    · exact .inl h1
    · exact .inr (.inl h1)
    · exact .inr (.inr (Nat.le_trans hF.upd.size h1))
  · rw [k9 j hj, k8 j hj, k6 j hj, k5 j hj, hF.keep j hj]
theorem words_end {W w3 w4 w5 w6 w7 w8 w9 : World} {g off : Nat} {ow : Own} {vB vBo : Value} {eB : List Ent} {aB : Nat} {vW vWo : Value} {eW : List Ent} {aW turn done used used' n : Nat} {v v7 v9 : Value}
    (h : Bk W g off ow vB vBo eB aB vW vWo eW aW turn done used) (hvn : ∀ b, v.ownBlock = some b → ow b = none ∧ b ≠ g) (hn : n ≤ 5900000) (hm : turn + 1 ≤ 1000000000000000) (hU : used + 1200 ≤ used') (hU2 : used' ≤ 16777216)
    (hF : Full W w3 g off ow v elW 36 n (turn + 1) (bkC vB vBo aB vW vWo aW (turn + 1) done used'))
    (u4 : Below w3.heap.size w3 w4) (r5 : Grew 34 w4 w5 vW v7 (vsOf eW) v) (e6 : w6 = w5.setCell ⟨g, off + 6, none⟩ v7) (u67 : Below w6.heap.size w6 w7) (r8 : Grew 3 w7 w8 vWo v9 (msOf eW) (.int .i64 ((turn + 1 : Nat) : Int))) (e9 : w9 = w8.setCell ⟨g, off + 7, none⟩ v9) :
    ∃ ow', Bk w9 g off ow' vB vBo eB aB v7 v9 (eW ++ [⟨v, turn + 1, n⟩]) aW (turn + 1) done used' ∧ BkS W w9 g off ow ow' (vB_ v) := by
  have hnS : ∀ b t, ow b = some t → ¬ (b = g ∨ v.ownBlock = some b) := by
    rintro b t hb (rfl | h1)
    · rw [h.ng] at hb; cases hb
    · rw [(hvn b h1).1] at hb; cases hb
  have tW3 := h.tW.move hF.upd (fun b t hb => hnS b _ hb) (Own.le.refl _) (Nat.le_refl _)
  have hlt3 : ∀ b, ow b ≠ none → b < w3.heap.size := fun b hb => Nat.lt_of_lt_of_le (h.lt b hb) hF.upd.size
  have hgl : g < w3.heap.size := by obtain ⟨cur, T, hb⟩ := hF.hd.blk; exact cell_lt hb
  obtain ⟨ow', t8, le, lt8, ng8, own8, u38⟩ := push_step tW3 hlt3 h.ng hgl hF.gv hvn hn hm hU u4 r5 e6 u67 r8
  have s38 := u38.size
  have nS : ¬ (fun b => ow b = some (2, 0)) g := by show ¬ ow g = _; rw [h.ng]; simp
  have u35 : Upd (fun b => ow b = some (2, 0)) w3 w5 := (Upd.of_below u4).trans (r5.upd.mono (fun b hb => h.tW.tabT b hb))
  have hd5 := hF.hd.upd u35 nS
  have k5 := keep_upd hF.hd u35 nS
  have hd6 := hd5.put 6 (by omega) v7
  rw [← e6] at hd6
  have k6 := keep_put hd5 (by omega) e6
  have u68 : Upd (fun b => vWo.ownBlock = some b) w6 w8 := (Upd.of_below u67).trans r8.upd
  have nS2 : ¬ (fun b => vWo.ownBlock = some b) g := fun hb => by have := h.tW.ofT g hb; rw [h.ng] at this; cases this
  have hd8 := hd6.upd u68 nS2
  have k8 := keep_upd hd6 u68 nS2
  have hd9 := hd8.put 7 (by omega) v9
  rw [← e9] at hd9
  have k9 := keep_put hd8 (by omega) e9
  have u89 : Upd (fun b => b = g) w8 w9 := by rw [e9]; exact put_upd _ _ _ _
  have hg9 : ∀ b, ow' b ≠ none → ¬ (fun b => b = g) b := fun b hb e => by have e : b = g := e; subst e; exact hb ng8
  refine ⟨ow', ⟨hd9.congr (fun j hj => ?_), ?_, t8.move u89 (fun b t hb => hg9 b (by rw [hb]; simp)) (Own.le.refl _) (Nat.le_refl _), fun b hb => Nat.lt_of_lt_of_le (lt8 b hb) u89.size, ng8, hU2⟩, ⟨?_, fun b hb => ?_, fun j hj => ?_⟩⟩
  · unfold putC bkC
    by_cases h1 : j = 7
    · subst h1; simp
    · by_cases h0 : j = 6
      · subst h0; simp
      · simp [h1, h0]
  · have u : Upd (fun b => (b = g ∨ v.ownBlock = some b) ∨ ow b = some (2, 0) ∨ ow b = some (2, 1)) W w9 :=
      ((hF.upd.mono (fun b hb => .inl hb)).trans (u38.mono (fun b hb => by rcases hb with h1 | h1; exact .inl (.inl h1); exact .inr h1))).trans (u89.mono (fun b hb => .inl (.inl hb)))
    refine h.tB.move u (fun b t hb => ?_) le (by omega)
    rintro (h1 | h1 | h1)
    · exact hnS b _ hb h1
    · rw [hb] at h1; simp at h1
    · rw [hb] at h1; simp at h1
  · refine (hF.upd.mono (fun b hb => ?_)).trans ((u38.mono (fun b hb => ?_)).trans (u89.mono (fun b hb => .inl hb)))
    · rcases hb with h1 | h1
      · exact .inl h1
      · exact .inr (.inr h1)
    · rcases hb with h1 | h1 | h1
      · exact .inl h1
      · exact .inr (.inl (by rw [h1]; simp))
      · exact .inr (.inl (by rw [h1]; simp))
  · rcases own8 b hb with h1 | h1 | h1
    · exact .inl h1
    · exact .inr (.inl h1)
    · exact .inr (.inr (Nat.le_trans hF.upd.size h1))
  · rw [k9 j hj, k8 j hj, k6 j hj, k5 j hj, hF.keep j hj]
theorem hd_grew {k j : Nat} {Tt Te T : TypeId} {el : Nat → Nat → Value} {w3 w4 w5 : World} {ow : Own} {g off : Nat} {c : Nat → Value} {v v7 y : Value} {l : List Value} (hd : Hd w3 g off c) (hg : ow g = none) (hv : ∀ b, v.ownBlock = some b → ow b = some (k, j)) (u4 : Below w3.heap.size w3 w4) (r5 : Grew T w4 w5 v v7 l y) : Hd w5 g off c :=
  hd.upd ((Upd.of_below (S := fun b => v.ownBlock = some b) u4).trans r5.upd) (fun hb => by have := hv g hb; rw [hg] at this; cases this)
structure Fl (W wr : World) (g off : Nat) (v : Value) (el : Nat → Nat → Value) (Te : TypeId) (l : List Value) (m k : Nat) (c : Nat → Value) : Prop where
  hd : Hd wr g off c
  gv : GV Te wr v (half el m l k)
  upd : Upd (fun b => b = g ∨ v.ownBlock = some b) W wr
  keep : ∀ j, (j < off ∨ off + 33 ≤ j) → wr.cell? ⟨g, j, none⟩ = W.cell? ⟨g, j, none⟩
theorem Fl.move {W wr w' : World} {g off : Nat} {v : Value} {el : Nat → Nat → Value} {Te : TypeId} {l : List Value} {m k : Nat} {c : Nat → Value} (h : Fl W wr g off v el Te l m k c) (hb : Below wr.heap.size wr w') : Fl W w' g off v el Te l m k c :=
  ⟨h.hd.upd (S := none_) (Upd.of_below hb) (fun h => h), h.gv.upd (S := none_) (Upd.of_below hb) (fun _ _ h => h), h.upd.trans (Upd.of_below hb), fun j hj => (keep_upd (S := none_) h.hd (Upd.of_below hb) (fun h => h) j hj).trans (h.keep j hj)⟩
theorem Fl.start {W : World} {g off m : Nat} {v x : Value} {el : Nat → Nat → Value} {Te : TypeId} {l : List Value} {c c' : Nat → Value} (h : Hd W g off c) (hv : GV Te W v l) (hvg : v.ownBlock ≠ some g) (j : Nat) (hj : j < 33) (hc : ∀ i, i < 33 → putC c j x i = c' i) : Fl W (W.setCell ⟨g, off + j, none⟩ x) g off v el Te l m 0 c' := by
  have hu := put_upd W g (off + j) x
  refine ⟨(h.put j hj x).congr hc, ?_, hu.mono (fun b hb => .inl hb), fun i hi => set_keep h.blk (by omega)⟩
  rw [half_none]
  refine hv.upd hu (fun b hb e => ?_)
  have e : b = g := e
  subst e
  exact hvg hb
theorem Fl.set {W wr : World} {g off gv cap n : Nat} {el : Nat → Nat → Value} {Te : TypeId} {l : List Value} {m k : Nat} {c : Nat → Value} (h : Fl W wr g off (.slice (some ⟨gv, 0, none⟩) n cap) el Te l m k c) (hk : k < l.length) (hg : gv ≠ g) : Fl W (wr.setCell ⟨gv, k, none⟩ (el m k)) g off (.slice (some ⟨gv, 0, none⟩) n cap) el Te l m (k + 1) c := by
  obtain ⟨hg1, hn1⟩ := GenAt.of_gv h.gv
  have hs := gen_set hg1 k (by rw [half_len el m l (Nat.le_of_lt hk)]; exact hk) (el m k)
  rw [half_set el m l hk] at hs
  have hu := put_upd wr gv k (el m k)
  have hng : ¬ (fun b => b = gv) g := fun e => hg (by have e : g = gv := e; exact e.symm)
  refine ⟨h.hd.upd hu hng, .inr ⟨gv, cap, by rw [hn1, half_len el m l (Nat.le_of_lt hk), half_len el m l hk], hs⟩, h.upd.trans (hu.mono (fun b hb => .inr (by have hb : b = gv := hb; rw [hb]; rfl))), fun j hj => (keep_upd h.hd hu hng j hj).trans (h.keep j hj)⟩
theorem Fl.full {W wr : World} {g off : Nat} {ow : Own} {v : Value} {el : Nat → Nat → Value} {Te : TypeId} {l : List Value} {m : Nat} {c : Nat → Value} (h : Fl W wr g off v el Te l m l.length c) : Full W wr g off ow v el Te l.length m c :=
  ⟨h.hd, by have := h.gv; rwa [half_all] at this, h.upd, h.keep⟩
theorem Full.put {W wr : World} {g off : Nat} {ow : Own} {v : Value} {el : Nat → Nat → Value} {Te : TypeId} {n m : Nat} {c c' : Nat → Value} (h : Full W wr g off ow v el Te n m c) (hvg : v.ownBlock ≠ some g) (j : Nat) (hj : j < 33) (x : Value) (hc : ∀ i, i < 33 → putC c j x i = c' i) : Full W (wr.setCell ⟨g, off + j, none⟩ x) g off ow v el Te n m c' := by
  have hu := put_upd wr g (off + j) x
  refine ⟨(h.hd.put j hj x).congr hc, h.gv.upd hu (fun b hb e => ?_), h.upd.trans (hu.mono (fun b hb => .inl hb)), fun i hi => (set_keep h.hd.blk (by omega)).trans (h.keep i hi)⟩
  have e : b = g := e
  subst e
  exact hvg hb
theorem full_end {W w3 : World} {g off : Nat} {ow : Own} {vB vBo : Value} {eB : List Ent} {aB : Nat} {vW vWo : Value} {eW : List Ent} {aW turn done used n : Nat} {v : Value} {el : Nat → Nat → Value} {Te : TypeId}
    (h : Bk W g off ow vB vBo eB aB vW vWo eW aW turn done used) (hvn : ∀ b, v.ownBlock = some b → ow b = none ∧ b ≠ g) (hF : Full W w3 g off ow v el Te n (turn + 1) (bkC vB vBo aB vW vWo aW (turn + 1) done used)) :
    Bk w3 g off ow vB vBo eB aB vW vWo eW aW (turn + 1) done used ∧ BkS W w3 g off ow ow (vB_ v) := by
  have hnS : ∀ b t, ow b = some t → ¬ (b = g ∨ v.ownBlock = some b) := by
    rintro b t hb (rfl | h1)
    · rw [h.ng] at hb; cases hb
    · rw [(hvn b h1).1] at hb; cases hb
  refine ⟨⟨hF.hd, h.tB.move hF.upd (fun b t hb => hnS b _ hb) (Own.le.refl _) (Nat.le_refl _), h.tW.move hF.upd (fun b t hb => hnS b _ hb) (Own.le.refl _) (Nat.le_refl _), fun b hb => Nat.lt_of_lt_of_le (h.lt b hb) hF.upd.size, h.ng, h.us⟩, ⟨hF.upd.mono (fun b hb => ?_), fun b hb => .inl hb, hF.keep⟩⟩
  rcases hb with h1 | h1
  · exact .inl h1
  · exact .inr (.inr h1)
end Go.Proofs.Ytgjcffjicbmkhaa.BokB
end

section
namespace Go.Proofs.Ytgjcffjicbmkhaa.BokD
open Go Go.RowKit Go.Proofs.YtgjcffjicbmkhaaW.PrintWords Go.Proofs.YtgjcffjicbmkhaaW.PrintLast Go.Proofs.YtgjcffjicbmkhaaW.PrintMore Go.Proofs.Ytgjcffjicbmkhaa.PF Go.Proofs.Ytgjcffjicbmkhaa.RowU Go.Proofs.Ytgjcffjicbmkhaa.ArS Go.Proofs.Ytgjcffjicbmkhaa.ArM Go.Proofs.Ytgjcffjicbmkhaa.GenM Go.Proofs.Ytgjcffjicbmkhaa.GenN Go.Proofs.Ytgjcffjicbmkhaa.BokA Go.Proofs.Ytgjcffjicbmkhaa.BokT Go.Proofs.Ytgjcffjicbmkhaa.BokB
set_option linter.unusedVariables false
set_option maxRecDepth 100000
set_option maxHeartbeats 8000000 in
theorem words.calls {W : World} {g off : Nat} {ow : Own} {vB vBo : Value} {eB : List Ent} {aB : Nat} {vW vWo : Value} {eW : List Ent} {aW turn done used : Nat} (h : Bk W g off ow vB vBo eB aB vW vWo eW aW turn done used)
    (A : Option Addr) (n cp : Nat) (l : List Value) (hv : GV 36 W (.slice A n cp) l) (hl : l.length ≤ 200000000000000) (hvn : ∀ b, (Value.slice A n cp).ownBlock = some b → ow b = none ∧ b ≠ g) (ht : turn < 1000000000000000) :
    Calls Try.prog 64 #[.pointer (some ⟨g, off, none⟩), .slice A n cp] W fun e w' => e = .returned (.tuple #[]) ∧ ∃ ow' vW' vWo' eW' used', Bk w' g off ow' vB vBo eB aB vW' vWo' eW' aW (turn + 1) done used' ∧ BkS W w' g off ow ow' (vB_ (.slice A n cp)) := by
  have hnl : n = l.length := by
    rcases hv with ⟨h1, h2⟩ | ⟨g', c', h1, h2⟩
    · simp only [Value.slice.injEq] at h1; rw [h2]; exact h1.2.1
    · simp only [Value.slice.injEq] at h1; exact h1.2.1
  have HB := Aside0.mk h
  have HV := Aside0.mk hv
  have HVN := Aside0.mk hvn
  have HN := Aside0.mk hnl
  have hx30 := h.hd.cell 30 (by omega)
  rw [show bkC vB vBo aB vW vWo aW turn done used 30 = .int .i64 (turn : Int) from rfl] at hx30
  obtain ⟨cur, T, hbk⟩ := h.hd.blk
  have hfz := blk_frozen hbk (off + 30)
  obtain ⟨m, hm⟩ : ∃ m, m = turn + 1 := ⟨_, rfl⟩
  have HM := Aside0.mk hm
  have hm15 : m ≤ 1000000000000000 := by omega
  have HE := Aside0.mk (NumB.sum_i (turn : Int) 1 m (by omega) (by omega))
  have hn14 : n ≤ 200000000000000 := by omega
  clear h hv hvn hm hnl
  go_enter Try.func64, Try.ntmps64
  obtain ⟨e1, f1⟩ := HE.out
  go_upto_region 1 with fail
  clear e1 f1 hfz hbk
  have HF0 : Aside0 (Fl W (W.setCell ⟨g, off + 30, none⟩ (.int .i64 (m : Int))) g off (.slice A n cp) elW 36 l m 0 (bkC vB vBo aB vW vWo aW m done used)) := ⟨Fl.start HB.out.hd HV.out (fun hb => (HVN.out g hb).2 rfl) 30 (by omega) (fun i hi => by
    unfold putC bkC
    by_cases h1 : i = 30
    · subst h1; simp
    · simp [h1])⟩
  generalize W.setCell ⟨g, off + 30, none⟩ (.int .i64 (m : Int)) = w1 at *
  clear hx30
  have hx30 := HF0.out.hd.cell 30 (by omega)
  rw [show bkC vB vBo aB vW vWo aW m done used 30 = .int .i64 (m : Int) from rfl] at hx30
  have HWM := Aside0.mk (wm_all m hm15 w1)
  go_wp2_with fail
  refine HWM.out.mono ?_
  rintro e w1' ⟨rfl, hb⟩
  have HF1 := Aside0.mk (HF0.out.move hb)
  clear hb HWM HF0 hx30
  go_wp2_with fail
  go_loopw [6] (fun i wr => ∃ k : Nat, k ≤ n ∧ i = .int .i64 k ∧ Aside0 (Fl W wr g off (.slice A n cp) elW 36 l m k (bkC vB vBo aB vW vWo aW m done used))) (fun i _ => n - (intOf i).toNat)
  case atStart => exact ⟨0, by omega, rfl, HF1⟩
  case round =>
    obtain ⟨k, hk, rfl, HF⟩ := hrel
    clear HF1
    rename World => wr
    by_cases hlt : k < n
    · have hlt' : (k : Int) < n := by omega
      have hk0 : (0 : Int) ≤ (k : Int) := by omega
      obtain ⟨gv, rfl⟩ : ∃ gv, A = some ⟨gv, 0, none⟩ := by
        rcases HF.out.gv with ⟨h1, _⟩ | ⟨g', c', h1, _⟩
        · simp only [Value.slice.injEq] at h1; omega
        · simp only [Value.slice.injEq] at h1; exact ⟨g', h1.1⟩
      obtain ⟨hg1, hn1⟩ := GenAt.of_gv HF.out.gv
      obtain ⟨old, hold⟩ : ∃ old, (half elW m l k)[k]? = some old := ⟨_, List.getElem?_eq_getElem (by omega)⟩
      have hkk := hg1.get k old hold
      have hfz := gen_frozen hg1 k
      have hbk : ∃ cur : List Value, wr.heap[gv]? = some (.cells cur.toArray 36 (0, 0)) := by
        obtain ⟨cur, q1, _⟩ := hg1
        exact ⟨cur, q1⟩
      obtain ⟨cur, hbk⟩ := hbk
      clear hg1 hn1 hold
      have HF3 := Aside0.mk (HF.out.set (by rw [← HN.out]; exact hlt) (HVN.out gv rfl).2)
      unfold elW at HF3
      go_wp2_with fail
      exact ⟨⟨k + 1, by omega, by rw [Int.natCast_succ], HF3⟩, by simp only [intOf]; omega⟩
    · obtain rfl : k = n := by omega
      have HFu : Aside0 (Full W wr g off ow (.slice A k cp) elW 36 k m (bkC vB vBo aB vW vWo aW m done used)) := ⟨by have := HF.out; rw [HN.out] at this ⊢; exact this.full⟩
      obtain ⟨z1, hz1⟩ : ∃ z1, z1 = 300 * k := ⟨_, rfl⟩
      obtain ⟨z2, hz2⟩ : ∃ z2, z2 = 8000 + z1 := ⟨_, rfl⟩
      have HEs := Aside0.mk (And.intro (NumB.mul_i (300 : Int) k z1 (by omega) (by omega)) (NumB.sum_i (8000 : Int) z1 z2 (by omega) (by omega)))
      have HTi := Aside0.mk (tight.calls wr g off _ used z2 HFu.out.hd rfl HB.out.us (by omega))
      have HZ := Aside0.mk (And.intro hz1 hz2)
      clear hz1 hz2 HF hlt
      obtain ⟨⟨e1, f1⟩, e2, f2⟩ := HEs.out
      go_wp2_with fail
      clear e1 f1 e2 f2
      refine HTi.out.mono ?_
      rintro e w5 (⟨rfl, rfl⟩ | ⟨rfl, hfit, hw5⟩)
      · have HE := Aside0.mk (full_end HB.out HVN.out (by rw [← HM.out]; exact HFu.out))
        clear HTi
        go_wp2_with fail
        (try simp only [Exit.inBlock, Exit.then])
        refine bodyPost_ret (results_none rfl _ _ _) rfl ?_
        exact ⟨rfl, ow, vW, vWo, eW, used, HE.out.1, HE.out.2⟩
      · obtain ⟨used', hus⟩ : ∃ u, u = used + z2 := ⟨_, rfl⟩
        rw [← hus] at hfit hw5
        have HF5 : Aside0 (Full W w5 g off ow (.slice A k cp) elW 36 k m (bkC vB vBo aB vW vWo aW m done used')) := ⟨by
          rw [hw5]
          refine HFu.out.put (fun hb => (HVN.out g hb).2 rfl) 32 (by omega) _ (fun i hi => ?_)
          unfold putC bkC
          by_cases h1 : i = 32
          · subst h1; simp
          · simp [h1]⟩
        have HU5 : Aside0 (used + 1200 ≤ used' ∧ used' ≤ 16777216 ∧ k ≤ 5900000) := ⟨by have := HZ.out; omega, hfit, by have := HZ.out; omega⟩
        have HT5 : Aside0 (Tb 2 34 36 elW w5 ow vW vWo eW aW used ∧ eW.length ≤ 140000) := ⟨by
          have hnS : ∀ b t, ow b = some t → ¬ (b = g ∨ (Value.slice A k cp).ownBlock = some b) := by
            rintro b t hb (rfl | h1)
            · rw [HB.out.ng] at hb; cases hb
            · rw [(HVN.out b h1).1] at hb; cases hb
          exact HB.out.tW.move HF5.out.upd (fun b t hb => hnS b _ hb) (Own.le.refl _) (Nat.le_refl _), cnt_fit HB.out.tW HB.out.us⟩
        clear hus hw5 hfit HFu HTi HZ
        have hx0 : w5.cell? ⟨g, off + 6, none⟩ = some vW := HF5.out.hd.cell 6 (by omega)
        go_upto_region 9 with ((with_reducible refine gate_builtin (b := .append) (xs := #[.tmp 40, .tmp 42]) rfl ?_); at_builtin; refine wpList_gen2 _ rfl (.tmp 40) (.tmp 42) 33 34 rfl Try.underlying33 (.slice none 0 0) 24 (by kernel_rfl) rfl (by decide) vW (vsOf eW) rfl ?hv ⟨w5.heap.size, 0, none⟩ (.slice A k cp) rfl ?hc rfl ?hb ?_; (case hv => exact HT5.out.1.tab.upd (S := none_) (Upd.of_below (below_alloc (Below.refl _ _) _)) (fun _ _ h => h)); (case hc => exact cell_one_new _ _ _ 0 _ rfl); (case hb => rw [vsOf_len]; have := HT5.out.2; omega); intro v7 w7 hr7; obtain ⟨g7, c7, rfl⟩ := hr7.form; have R7 := Aside0.mk hr7; clear hr7 hx0; have H7 : Aside0 (Hd w7 g off (bkC vB vBo aB vW vWo aW m done used')) := ⟨hd_grew (Tt := 0) (Te := 0) (el := elB) HF5.out.hd HB.out.ng HB.out.tW.tabT (below_alloc (Below.refl _ _) _) R7.out⟩; have hx0 : w7.cell? ⟨g, off + 6, none⟩ = some vW := H7.out.cell 6 (by omega); obtain ⟨cur7, T7, hbk⟩ := H7.out.blk; have hfz := blk_frozen hbk (off + 6))
        clear hbk hfz hx0
        obtain ⟨w8, hw8⟩ : ∃ w8, w8 = w7.setCell ⟨g, off + 6, none⟩ (.slice (some ⟨g7, 0, none⟩) ((vsOf eW).length + 1) c7) := ⟨_, rfl⟩
        rw [← hw8]
        have H8 : Aside0 (Hd w8 g off (putC (bkC vB vBo aB vW vWo aW m done used') 6 (.slice (some ⟨g7, 0, none⟩) ((vsOf eW).length + 1) c7))) := ⟨by rw [hw8]; exact H7.out.put 6 (by omega) _⟩
        have HO8 : Aside0 (GV 3 w8 vWo (msOf eW)) := ⟨by
          have u : Upd (fun b => vW.ownBlock = some b ∨ b = g) w5 w8 := by
            rw [hw8]
            exact ((Upd.of_below (below_alloc (Below.refl _ _) _)).trans (R7.out.upd.mono (fun b hb => .inl hb))).trans ((put_upd _ _ _ _).mono (fun b hb => .inr hb))
          refine HT5.out.1.of_.upd u (fun b hb => ?_)
          have h1 := HT5.out.1.ofT b hb
          rintro (h2 | rfl)
          · have h3 := HT5.out.1.tabT b h2
            rw [h1] at h3; simp at h3
          · rw [HB.out.ng] at h1; cases h1⟩
        have HW8 := Aside0.mk hw8
        clear hw8
        have hx1 : w8.cell? ⟨g, off + 7, none⟩ = some vWo := H8.out.cell 7 (by omega)
        go_upto_region 99 with ((with_reducible refine gate_builtin (b := .append) (xs := #[.tmp 50, .tmp 52]) rfl ?_); at_builtin; refine wpList_gen2 _ rfl (.tmp 50) (.tmp 52) 30 3 rfl Try.underlying30 (.int .i64 0) 8 (by kernel_rfl) rfl (by decide) vWo (msOf eW) rfl ?hv ⟨w8.heap.size, 0, none⟩ (.int .i64 (m : Int)) rfl ?hc rfl ?hb ?_; (case hv => exact HO8.out.upd (S := none_) (Upd.of_below (below_alloc (Below.refl _ _) _)) (fun _ _ h => h)); (case hc => exact cell_one_new _ _ _ 0 _ rfl); (case hb => rw [msOf_len]; have := HT5.out.2; omega); intro v9 w9 hr9; obtain ⟨g9, c9, rfl⟩ := hr9.form; have R9 := Aside0.mk hr9; clear hr9 hx1; have H9 : Aside0 (Hd w9 g off (putC (bkC vB vBo aB vW vWo aW m done used') 6 (.slice (some ⟨g7, 0, none⟩) ((vsOf eW).length + 1) c7))) := ⟨hd_grew (Tt := 0) (Te := 0) (el := elB) H8.out HB.out.ng HB.out.tW.ofT (below_alloc (Below.refl _ _) _) R9.out⟩; have hx1 : w9.cell? ⟨g, off + 7, none⟩ = some vWo := H9.out.cell 7 (by omega); obtain ⟨cur9, T9, hbk⟩ := H9.out.blk; have hfz := blk_frozen hbk (off + 7))
        clear hbk hfz hx1
        have hm2 := HM.out
        subst hm2
        go_end0
        obtain ⟨ow', h1, h2⟩ := words_end HB.out HVN.out HU5.out.2.2 ht HU5.out.1 HU5.out.2.1 HF5.out (below_alloc (Below.refl _ _) _) R7.out HW8.out (below_alloc (Below.refl _ _) _) R9.out rfl
        exact ⟨rfl, ow', _, _, _, _, h1, h2⟩
end Go.Proofs.Ytgjcffjicbmkhaa.BokD
end

section
namespace Go.Proofs.Ytgjcffjicbmkhaa.BokC
open Go Go.RowKit Go.Proofs.YtgjcffjicbmkhaaW.PrintWords Go.Proofs.YtgjcffjicbmkhaaW.PrintLast Go.Proofs.YtgjcffjicbmkhaaW.PrintMore Go.Proofs.Ytgjcffjicbmkhaa.PF Go.Proofs.Ytgjcffjicbmkhaa.RowU Go.Proofs.Ytgjcffjicbmkhaa.ArS Go.Proofs.Ytgjcffjicbmkhaa.ArM Go.Proofs.Ytgjcffjicbmkhaa.GenM Go.Proofs.Ytgjcffjicbmkhaa.GenN Go.Proofs.Ytgjcffjicbmkhaa.BokA Go.Proofs.Ytgjcffjicbmkhaa.BokT Go.Proofs.Ytgjcffjicbmkhaa.BokB
set_option linter.unusedVariables false
set_option maxRecDepth 100000
set_option maxHeartbeats 8000000 in
theorem bytes.calls {W : World} {g off : Nat} {ow : Own} {vB vBo : Value} {eB : List Ent} {aB : Nat} {vW vWo : Value} {eW : List Ent} {aW turn done used : Nat} (h : Bk W g off ow vB vBo eB aB vW vWo eW aW turn done used)
    (A : Option Addr) (n cp : Nat) (l : List Value) (hv : GV 5 W (.slice A n cp) l) (hl : l.length ≤ 1000000000000000) (hvn : ∀ b, (Value.slice A n cp).ownBlock = some b → ow b = none ∧ b ≠ g) (ht : turn < 1000000000000000) :
    Calls Try.prog 58 #[.pointer (some ⟨g, off, none⟩), .slice A n cp] W fun e w' => e = .returned (.tuple #[]) ∧ ∃ ow' vB' vBo' eB' used', Bk w' g off ow' vB' vBo' eB' aB vW vWo eW aW (turn + 1) done used' ∧ BkS W w' g off ow ow' (vB_ (.slice A n cp)) := by
  have hnl : n = l.length := by
    rcases hv with ⟨h1, h2⟩ | ⟨g', c', h1, h2⟩
    · simp only [Value.slice.injEq] at h1; rw [h2]; exact h1.2.1
    · simp only [Value.slice.injEq] at h1; exact h1.2.1
  have HB := Aside0.mk h
  have HV := Aside0.mk hv
  have HVN := Aside0.mk hvn
  have HN := Aside0.mk hnl
  have hx30 := h.hd.cell 30 (by omega)
  rw [show bkC vB vBo aB vW vWo aW turn done used 30 = .int .i64 (turn : Int) from rfl] at hx30
  obtain ⟨cur, T, hbk⟩ := h.hd.blk
  have hfz := blk_frozen hbk (off + 30)
  obtain ⟨m, hm⟩ : ∃ m, m = turn + 1 := ⟨_, rfl⟩
  have HM := Aside0.mk hm
  have hm15 : m ≤ 1000000000000000 := by omega
  have HE := Aside0.mk (NumB.sum_i (turn : Int) 1 m (by omega) (by omega))
  have hn14 : n ≤ 1000000000000000 := by omega
  clear h hv hvn hm hnl
  go_enter Try.func58, Try.ntmps58
  obtain ⟨e1, f1⟩ := HE.out
  go_upto_region 1 with fail
  clear e1 f1 hfz hbk
  have HF0 : Aside0 (Fl W (W.setCell ⟨g, off + 30, none⟩ (.int .i64 (m : Int))) g off (.slice A n cp) elB 5 l m 0 (bkC vB vBo aB vW vWo aW m done used)) := ⟨Fl.start HB.out.hd HV.out (fun hb => (HVN.out g hb).2 rfl) 30 (by omega) (fun i hi => by
    unfold putC bkC
    by_cases h1 : i = 30
    · subst h1; simp
    · simp [h1])⟩
  generalize W.setCell ⟨g, off + 30, none⟩ (.int .i64 (m : Int)) = w1 at *
  clear hx30
  have hx30 := HF0.out.hd.cell 30 (by omega)
  rw [show bkC vB vBo aB vW vWo aW m done used 30 = .int .i64 (m : Int) from rfl] at hx30
  go_wp2_with fail
  clear hx30
  go_loopw [5] (fun i wr => ∃ k : Nat, k ≤ n ∧ i = .int .i64 k ∧ Aside0 (Fl W wr g off (.slice A n cp) elB 5 l m k (bkC vB vBo aB vW vWo aW m done used))) (fun i _ => n - (intOf i).toNat)
  case atStart => exact ⟨0, by omega, rfl, HF0⟩
  case round =>
    obtain ⟨k, hk, rfl, HF⟩ := hrel
    clear HF0
    rename World => wr
    by_cases hlt : k < n
    · have hlt' : (k : Int) < n := by omega
      have hk0 : (0 : Int) ≤ (k : Int) := by omega
      obtain ⟨gv, rfl⟩ : ∃ gv, A = some ⟨gv, 0, none⟩ := by
        rcases HF.out.gv with ⟨h1, _⟩ | ⟨g', c', h1, _⟩
        · simp only [Value.slice.injEq] at h1; omega
        · simp only [Value.slice.injEq] at h1; exact ⟨g', h1.1⟩
      have HAt := Aside0.mk (at_all m k hm15 (by omega) wr)
      go_wp2_with fail
      refine HAt.out.mono ?_
      rintro e w2 ⟨rfl, hb⟩
      have HF2 := Aside0.mk (HF.out.move hb)
      clear hb HAt HF
      obtain ⟨hg1, hn1⟩ := GenAt.of_gv HF2.out.gv
      obtain ⟨old, hold⟩ : ∃ old, (half elB m l k)[k]? = some old := ⟨_, List.getElem?_eq_getElem (by omega)⟩
      have hkk := hg1.get k old hold
      have hfz := gen_frozen hg1 k
      have hbk : ∃ cur : List Value, w2.heap[gv]? = some (.cells cur.toArray 5 (0, 0)) := by
        obtain ⟨cur, q1, _⟩ := hg1
        exact ⟨cur, q1⟩
      obtain ⟨cur, hbk⟩ := hbk
      clear hg1 hn1 hold
      have HF3 := Aside0.mk (HF2.out.set (by rw [← HN.out]; exact hlt) (HVN.out gv rfl).2)
      unfold elB
      go_wp2_with fail
      exact ⟨⟨k + 1, by omega, by rw [Int.natCast_succ], HF3⟩, by simp only [intOf]; omega⟩
    · obtain rfl : k = n := by omega
      have HFu : Aside0 (Full W wr g off ow (.slice A k cp) elB 5 k m (bkC vB vBo aB vW vWo aW m done used)) := ⟨by have := HF.out; rw [HN.out] at this ⊢; exact this.full⟩
      obtain ⟨z1, hz1⟩ : ∃ z1, z1 = 3 * k := ⟨_, rfl⟩
      obtain ⟨z2, hz2⟩ : ∃ z2, z2 = 1200 + z1 := ⟨_, rfl⟩
      have HEs := Aside0.mk (And.intro (NumB.mul_i (3 : Int) k z1 (by omega) (by omega)) (NumB.sum_i (1200 : Int) z1 z2 (by omega) (by omega)))
      have HTi := Aside0.mk (tight.calls wr g off _ used z2 HFu.out.hd rfl HB.out.us (by omega))
      have HZ := Aside0.mk (And.intro hz1 hz2)
      clear hz1 hz2 HF hlt
      obtain ⟨⟨e1, f1⟩, e2, f2⟩ := HEs.out
      go_wp2_with fail
      clear e1 f1 e2 f2
      refine HTi.out.mono ?_
      rintro e w5 (⟨rfl, rfl⟩ | ⟨rfl, hfit, hw5⟩)
      · have HE := Aside0.mk (full_end HB.out HVN.out (by rw [← HM.out]; exact HFu.out))
        clear HTi
        go_wp2_with fail
        (try simp only [Exit.inBlock, Exit.then])
        refine bodyPost_ret (results_none rfl _ _ _) rfl ?_
        exact ⟨rfl, ow, vB, vBo, eB, used, HE.out.1, HE.out.2⟩
      · obtain ⟨used', hus⟩ : ∃ u, u = used + z2 := ⟨_, rfl⟩
        rw [← hus] at hfit hw5
        have HF5 : Aside0 (Full W w5 g off ow (.slice A k cp) elB 5 k m (bkC vB vBo aB vW vWo aW m done used')) := ⟨by
          rw [hw5]
          refine HFu.out.put (fun hb => (HVN.out g hb).2 rfl) 32 (by omega) _ (fun i hi => ?_)
          unfold putC bkC
          by_cases h1 : i = 32
          · subst h1; simp
          · simp [h1]⟩
        have HU5 : Aside0 (used + 1200 ≤ used' ∧ used' ≤ 16777216 ∧ k ≤ 5900000) := ⟨by have := HZ.out; omega, hfit, by have := HZ.out; omega⟩
        have HT5 : Aside0 (Tb 0 67 5 elB w5 ow vB vBo eB aB used ∧ eB.length ≤ 140000) := ⟨by
          have hnS : ∀ b t, ow b = some t → ¬ (b = g ∨ (Value.slice A k cp).ownBlock = some b) := by
            rintro b t hb (rfl | h1)
            · rw [HB.out.ng] at hb; cases hb
            · rw [(HVN.out b h1).1] at hb; cases hb
          exact HB.out.tB.move HF5.out.upd (fun b t hb => hnS b _ hb) (Own.le.refl _) (Nat.le_refl _), cnt_fit HB.out.tB HB.out.us⟩
        clear hus hw5 hfit HFu HTi HZ
        have hx0 : w5.cell? ⟨g, off, none⟩ = some vB := HF5.out.hd.cell 0 (by omega)
        go_upto_region 8 with ((with_reducible refine gate_builtin (b := .append) (xs := #[.tmp 39, .tmp 41]) rfl ?_); at_builtin; refine wpList_gen2 _ rfl (.tmp 39) (.tmp 41) 89 67 rfl Try.underlying89 (.slice none 0 0) 24 (by kernel_rfl) rfl (by decide) vB (vsOf eB) rfl ?hv ⟨w5.heap.size, 0, none⟩ (.slice A k cp) rfl ?hc rfl ?hb ?_; (case hv => exact HT5.out.1.tab.upd (S := none_) (Upd.of_below (below_alloc (Below.refl _ _) _)) (fun _ _ h => h)); (case hc => exact cell_one_new _ _ _ 0 _ rfl); (case hb => rw [vsOf_len]; have := HT5.out.2; omega); intro v7 w7 hr7; obtain ⟨g7, c7, rfl⟩ := hr7.form; have R7 := Aside0.mk hr7; clear hr7 hx0; have H7 : Aside0 (Hd w7 g off (bkC vB vBo aB vW vWo aW m done used')) := ⟨hd_grew (Tt := 0) (Te := 0) (el := elB) HF5.out.hd HB.out.ng HB.out.tB.tabT (below_alloc (Below.refl _ _) _) R7.out⟩; have hx0 : w7.cell? ⟨g, off, none⟩ = some vB := H7.out.cell 0 (by omega); obtain ⟨cur7, T7, hbk⟩ := H7.out.blk; have hfz := blk_frozen hbk off)
        clear hbk hfz hx0
        obtain ⟨w8, hw8⟩ : ∃ w8, w8 = w7.setCell ⟨g, off, none⟩ (.slice (some ⟨g7, 0, none⟩) ((vsOf eB).length + 1) c7) := ⟨_, rfl⟩
        rw [← hw8]
        have H8 : Aside0 (Hd w8 g off (putC (bkC vB vBo aB vW vWo aW m done used') 0 (.slice (some ⟨g7, 0, none⟩) ((vsOf eB).length + 1) c7))) := ⟨by rw [hw8]; exact H7.out.put 0 (by omega) _⟩
        have HO8 : Aside0 (GV 3 w8 vBo (msOf eB)) := ⟨by
          have u : Upd (fun b => vB.ownBlock = some b ∨ b = g) w5 w8 := by
            rw [hw8]
            exact ((Upd.of_below (below_alloc (Below.refl _ _) _)).trans (R7.out.upd.mono (fun b hb => .inl hb))).trans ((put_upd _ _ _ _).mono (fun b hb => .inr hb))
          refine HT5.out.1.of_.upd u (fun b hb => ?_)
          have h1 := HT5.out.1.ofT b hb
          rintro (h2 | rfl)
          · have h3 := HT5.out.1.tabT b h2
            rw [h1] at h3; simp at h3
          · rw [HB.out.ng] at h1; cases h1⟩
        have HW8 := Aside0.mk hw8
        clear hw8
        have hx1 : w8.cell? ⟨g, off + 1, none⟩ = some vBo := H8.out.cell 1 (by omega)
        go_upto_region 99 with ((with_reducible refine gate_builtin (b := .append) (xs := #[.tmp 49, .tmp 51]) rfl ?_); at_builtin; refine wpList_gen2 _ rfl (.tmp 49) (.tmp 51) 30 3 rfl Try.underlying30 (.int .i64 0) 8 (by kernel_rfl) rfl (by decide) vBo (msOf eB) rfl ?hv ⟨w8.heap.size, 0, none⟩ (.int .i64 (m : Int)) rfl ?hc rfl ?hb ?_; (case hv => exact HO8.out.upd (S := none_) (Upd.of_below (below_alloc (Below.refl _ _) _)) (fun _ _ h => h)); (case hc => exact cell_one_new _ _ _ 0 _ rfl); (case hb => rw [msOf_len]; have := HT5.out.2; omega); intro v9 w9 hr9; obtain ⟨g9, c9, rfl⟩ := hr9.form; have R9 := Aside0.mk hr9; clear hr9 hx1; have H9 : Aside0 (Hd w9 g off (putC (bkC vB vBo aB vW vWo aW m done used') 0 (.slice (some ⟨g7, 0, none⟩) ((vsOf eB).length + 1) c7))) := ⟨hd_grew (Tt := 0) (Te := 0) (el := elB) H8.out HB.out.ng HB.out.tB.ofT (below_alloc (Below.refl _ _) _) R9.out⟩; have hx1 : w9.cell? ⟨g, off + 1, none⟩ = some vBo := H9.out.cell 1 (by omega); obtain ⟨cur9, T9, hbk⟩ := H9.out.blk; have hfz := blk_frozen hbk (off + 1))
        clear hbk hfz hx1
        have hm2 := HM.out
        subst hm2
        go_end0
        obtain ⟨ow', h1, h2⟩ := bytes_end HB.out HVN.out HU5.out.2.2 ht HU5.out.1 HU5.out.2.1 HF5.out (below_alloc (Below.refl _ _) _) R7.out HW8.out (below_alloc (Below.refl _ _) _) R9.out rfl
        exact ⟨rfl, ow', _, _, _, _, h1, h2⟩
end Go.Proofs.Ytgjcffjicbmkhaa.BokC
end

section
namespace Go.Proofs.Ytgjcffjicbmkhaa.BokE
open Go Go.RowKit Go.Proofs.YtgjcffjicbmkhaaW.PrintWords Go.Proofs.YtgjcffjicbmkhaaW.PrintLast Go.Proofs.YtgjcffjicbmkhaaW.PrintMore Go.Proofs.Ytgjcffjicbmkhaa.PF Go.Proofs.Ytgjcffjicbmkhaa.RowU Go.Proofs.Ytgjcffjicbmkhaa.ArS Go.Proofs.Ytgjcffjicbmkhaa.ArM Go.Proofs.Ytgjcffjicbmkhaa.GenM Go.Proofs.Ytgjcffjicbmkhaa.GenN Go.Proofs.Ytgjcffjicbmkhaa.BokA Go.Proofs.Ytgjcffjicbmkhaa.BokT Go.Proofs.Ytgjcffjicbmkhaa.BokB
set_option linter.unusedVariables false
set_option maxRecDepth 100000
theorem _root_.Go.Proofs.Ytgjcffjicbmkhaa.BokA.Bk.below {W W' : World} {g off : Nat} {ow : Own} {vB vBo : Value} {eB : List Ent} {aB : Nat} {vW vWo : Value} {eW : List Ent} {aW turn done used : Nat} (h : Bk W g off ow vB vBo eB aB vW vWo eW aW turn done used) (hb : Below W.heap.size W W') : Bk W' g off ow vB vBo eB aB vW vWo eW aW turn done used :=
  h.move (S := none_) (Upd.of_below hb) (fun h => h) (fun _ _ h => h)
theorem tb_at {k : Nat} {Tt Te : TypeId} {el : Nat → Nat → Value} {W : World} {ow : Own} {v vo : Value} {es : List Ent} {a U : Nat} (h : Tb k Tt Te el W ow v vo es a U) {i : Nat} (hi : i < es.length) :
    ∃ gt ct go co m n Ae ce, v = .slice (some ⟨gt, 0, none⟩) es.length ct ∧ vo = .slice (some ⟨go, 0, none⟩) es.length co ∧ es[i]? = some ⟨.slice Ae n ce, m, n⟩ ∧ n ≤ 6000000 ∧ m ≤ 1000000000000000 ∧ W.cell? ⟨gt, i, none⟩ = some (.slice Ae n ce) ∧ W.cell? ⟨go, i, none⟩ = some (.int .i64 (m : Int)) ∧ GV Te W (.slice Ae n ce) (mkL el m n) := by
  obtain ⟨⟨x, m, n⟩, he⟩ : ∃ e, es[i]? = some e := ⟨_, List.getElem?_eq_getElem hi⟩
  obtain ⟨h1, h2, h3⟩ := h.ent _ (List.mem_of_getElem? he)
  obtain ⟨Ae, ce, hx⟩ := h1.slice
  rw [mkL_len] at hx
  have hx : x = .slice Ae n ce := hx
  subst hx
  obtain ⟨gt, ct, e1, c1⟩ := h.tab.get i _ (vsOf_get he)
  obtain ⟨go, co, e2, c2⟩ := h.of_.get i _ (msOf_get he)
  rw [vsOf_len] at e1
  rw [msOf_len] at e2
  exact ⟨gt, ct, go, co, m, n, Ae, ce, e1, e2, he, h2, h3, c1, c2, h1⟩
theorem gv_some {Te : TypeId} {W : World} {A : Option Addr} {n c : Nat} {l : List Value} (h : GV Te W (.slice A n c) l) (hn : 0 < n) : ∃ ge, A = some ⟨ge, 0, none⟩ ∧ GenAt Te W ge c l ∧ n = l.length := by
  rcases h with ⟨h1, _⟩ | ⟨g, cap, h1, h2⟩
  · simp only [Value.slice.injEq] at h1; omega
  · simp only [Value.slice.injEq] at h1
    obtain ⟨rfl, rfl, rfl⟩ := h1
    exact ⟨g, rfl, h2, rfl⟩
set_option maxHeartbeats 8000000 in
theorem plain.calls {W : World} {g off : Nat} {ow : Own} {vB vBo : Value} {eB : List Ent} {aB : Nat} {vW vWo : Value} {eW : List Ent} {aW turn done used : Nat} (h : Bk W g off ow vB vBo eB aB vW vWo eW aW turn done used) :
    Calls Try.prog 67 #[.pointer (some ⟨g, off, none⟩)] W fun e w' => e = .returned (.bool true) ∧ Below W.heap.size W w' := by
  have HB := Aside0.mk h
  obtain ⟨A0, c0, hvB⟩ := h.tB.tab.slice
  rw [vsOf_len] at hvB
  have HL : Aside0 (eB.length ≤ 140000) := ⟨cnt_fit h.tB h.us⟩
  have hlen := HL.out
  subst hvB
  clear h
  go_enter Try.func67, Try.ntmps67
  go_wp2_with fail
  go_loopw [3] (fun i wr => ∃ k : Nat, k ≤ eB.length ∧ i = .int .i64 k ∧ Aside0 (Below W.heap.size W wr)) (fun i _ => eB.length - (intOf i).toNat)
  case atStart => exact ⟨0, by omega, rfl, ⟨Below.refl _ _⟩⟩
  case round =>
    obtain ⟨i, hi, rfl, H0⟩ := hrel
    rename World => wr
    have hx0 : wr.cell? ⟨g, off, none⟩ = some (.slice A0 eB.length c0) := (HB.out.below H0.out).hd.cell 0 (by omega)
    by_cases hlt : i < eB.length
    · have hlt' : (i : Int) < eB.length := by omega
      have hi0 : (0 : Int) ≤ (i : Int) := by omega
      go_wp2_with fail
      clear hx0
      obtain ⟨gt, ct, go, co, m, n, Ae, ce, e1, e2, -, hn, hm, c1, c2, hgv⟩ := tb_at HB.out.tB hlt
      simp only [Value.slice.injEq, true_and] at e1
      obtain ⟨rfl, rfl⟩ := e1
      subst e2
      have HR : Aside0 (∀ w', Below W.heap.size W w' → w'.cell? ⟨g, off, none⟩ = some (.slice (some ⟨gt, 0, none⟩) eB.length c0) ∧ w'.cell? ⟨gt, i, none⟩ = some (.slice Ae n ce) ∧ w'.cell? ⟨g, off + 1, none⟩ = some (.slice (some ⟨go, 0, none⟩) eB.length co) ∧ w'.cell? ⟨go, i, none⟩ = some (.int .i64 (m : Int)) ∧ GV 5 w' (.slice Ae n ce) (mkL elB m n)) := ⟨fun w' hb => ⟨(HB.out.below hb).hd.cell 0 (by omega), (hb.cell (World.block_lt_of_cell? _ _ c1)).trans c1, (HB.out.below hb).hd.cell 1 (by omega), (hb.cell (World.block_lt_of_cell? _ _ c2)).trans c2, hgv.upd (S := none_) (Upd.of_below hb) (fun _ _ h => h)⟩⟩
      clear c1 c2 hgv
      go_loopw [4] (fun k wr => ∃ j : Nat, j ≤ n ∧ k = .int .i64 j ∧ Aside0 (Below W.heap.size W wr)) (fun k _ => n - (intOf k).toNat)
      case atStart => exact ⟨0, by omega, rfl, H0⟩
      case round =>
        obtain ⟨k, hk, rfl, HK⟩ := hrel
        clear H0
        rename World => wk
        obtain ⟨hx0, hx1, hx2, hx3, hx4⟩ := HR.out wk HK.out
        have HG := Aside0.mk hx4
        clear hx2 hx3 hx4
        by_cases hkl : k < n
        · have hkl' : (k : Int) < n := by omega
          have hk0 : (0 : Int) ≤ (k : Int) := by omega
          obtain ⟨ge, rfl, hge, -⟩ := gv_some HG.out (by omega)
          have HAt := Aside0.mk (fun w => at_all m k hm (by omega) w)
          simp only [elB] at HAt
          have HNM := Aside0.mk (And.intro hn hm)
          have HGE := Aside0.mk hge
          clear hm hge
          go_wp2_with fail
          clear hx0 hx1
          have HS : Aside0 (∀ w', Below W.heap.size W w' → w'.cell? ⟨g, off, none⟩ = some (.slice (some ⟨gt, 0, none⟩) eB.length c0) ∧ w'.cell? ⟨gt, i, none⟩ = some (.slice (some ⟨ge, 0, none⟩) n ce) ∧ w'.cell? ⟨ge, k, none⟩ = some (.int .u8 (atN m k : Int)) ∧ w'.cell? ⟨g, off + 1, none⟩ = some (.slice (some ⟨go, 0, none⟩) eB.length co) ∧ w'.cell? ⟨go, i, none⟩ = some (.int .i64 (m : Int))) := ⟨fun w' hb => by
            obtain ⟨a1, a2, a3, a4, a5⟩ := HR.out w' hb
            exact ⟨a1, a2, (GenAt.of_gv a5).1.get k _ (mkL_get elB m hkl), a3, a4⟩⟩
          have HK0 := Aside0.mk (HS.out wk HK.out)
          go_region_held3 (fun w' => w'.cell? ⟨g, off, none⟩ = some (.slice (some ⟨gt, 0, none⟩) eB.length c0) ∧ w'.cell? ⟨gt, i, none⟩ = some (.slice (some ⟨ge, 0, none⟩) n ce) ∧ w'.cell? ⟨ge, k, none⟩ = some (.int .u8 (atN m k : Int)) ∧ w'.cell? ⟨g, off + 1, none⟩ = some (.slice (some ⟨go, 0, none⟩) eB.length co) ∧ w'.cell? ⟨go, i, none⟩ = some (.int .i64 (m : Int))) (first | exact HK1.out | exact HK0.out) (first | (go_at_call 85; refine (HAt.out _).mono ?_; rintro e w2 ⟨rfl, hb⟩; have H2 := Aside0.mk (below_next HK.out (below_next (Below.refl wk.heap.size wk).drew hb)); have HK1 := Aside0.mk (HS.out w2 H2.out); clear hb))
          go_wp2_with fail
          exact ⟨⟨k + 1, by omega, by rw [Int.natCast_succ], H2⟩, by simp only [intOf]; omega⟩
        · obtain rfl : k = n := by omega
          go_wp2_with fail
          clear hx0 hx1
          exact ⟨⟨i + 1, by omega, by rw [Int.natCast_succ], HK⟩, by simp only [intOf]; omega⟩
    · obtain rfl : i = eB.length := by omega
      clear hlt
      go_wp2_with fail
      clear hx0
      go_loopw [5] (fun i wr => i = .int .i64 0 ∧ Aside0 (Below W.heap.size W wr)) (fun _ _ => 0)
      case atStart => exact ⟨rfl, H0⟩
      case round =>
        obtain ⟨rfl, H1⟩ := hrel
        clear H0
        rename World => wq
        have hx3 : wq.cell? ⟨g, off + 3, none⟩ = some (.slice none 0 0) := (HB.out.below H1.out).hd.cell 3 (by omega)
        go_wp2_with fail
        go_ret
        exact ⟨rfl, H1.out⟩
end Go.Proofs.Ytgjcffjicbmkhaa.BokE
end

section
namespace Go.Proofs.Ytgjcffjicbmkhaa.BokF
open Go Go.RowKit Go.Proofs.YtgjcffjicbmkhaaW.PrintWords Go.Proofs.YtgjcffjicbmkhaaW.PrintLast Go.Proofs.YtgjcffjicbmkhaaW.PrintMore Go.Proofs.Ytgjcffjicbmkhaa.PF Go.Proofs.Ytgjcffjicbmkhaa.RowU Go.Proofs.Ytgjcffjicbmkhaa.ArS Go.Proofs.Ytgjcffjicbmkhaa.ArM Go.Proofs.Ytgjcffjicbmkhaa.GenM Go.Proofs.Ytgjcffjicbmkhaa.GenN Go.Proofs.Ytgjcffjicbmkhaa.BokA Go.Proofs.Ytgjcffjicbmkhaa.BokT Go.Proofs.Ytgjcffjicbmkhaa.BokB Go.Proofs.Ytgjcffjicbmkhaa.BokE
set_option linter.unusedVariables false
set_option maxRecDepth 100000
set_option maxHeartbeats 8000000 in
theorem kept.calls {W : World} {g off : Nat} {ow : Own} {vB vBo : Value} {eB : List Ent} {aB : Nat} {vW vWo : Value} {eW : List Ent} {aW turn done used : Nat} (h : Bk W g off ow vB vBo eB aB vW vWo eW aW turn done used) :
    Calls Try.prog 68 #[.pointer (some ⟨g, off, none⟩)] W fun e w' => e = .returned (.bool true) ∧ Below W.heap.size W w' := by
  have HB := Aside0.mk h
  obtain ⟨A0, c0, hvW⟩ := h.tW.tab.slice
  rw [vsOf_len] at hvW
  have HL : Aside0 (eW.length ≤ 140000) := ⟨cnt_fit h.tW h.us⟩
  have hlen := HL.out
  subst hvW
  clear h
  go_enter Try.func68, Try.ntmps68
  go_wp2_with fail
  go_loopw [3] (fun i wr => ∃ k : Nat, k ≤ eW.length ∧ i = .int .i64 k ∧ Aside0 (Below W.heap.size W wr)) (fun i _ => eW.length - (intOf i).toNat)
  case atStart => exact ⟨0, by omega, rfl, ⟨Below.refl _ _⟩⟩
  case round =>
    obtain ⟨i, hi, rfl, H0⟩ := hrel
    rename World => wr
    have hx0 : wr.cell? ⟨g, off + 6, none⟩ = some (.slice A0 eW.length c0) := (HB.out.below H0.out).hd.cell 6 (by omega)
    by_cases hlt : i < eW.length
    · have hlt' : (i : Int) < eW.length := by omega
      have hi0 : (0 : Int) ≤ (i : Int) := by omega
      go_wp2_with fail
      clear hx0
      obtain ⟨gt, ct, go, co, m, n, Ae, ce, e1, e2, -, hn, hm, c1, c2, hgv⟩ := tb_at HB.out.tW hlt
      simp only [Value.slice.injEq, true_and] at e1
      obtain ⟨rfl, rfl⟩ := e1
      subst e2
      have HR : Aside0 (∀ w', Below W.heap.size W w' → w'.cell? ⟨g, off + 6, none⟩ = some (.slice (some ⟨gt, 0, none⟩) eW.length c0) ∧ w'.cell? ⟨gt, i, none⟩ = some (.slice Ae n ce) ∧ w'.cell? ⟨g, off + 7, none⟩ = some (.slice (some ⟨go, 0, none⟩) eW.length co) ∧ w'.cell? ⟨go, i, none⟩ = some (.int .i64 (m : Int)) ∧ GV 36 w' (.slice Ae n ce) (mkL elW m n)) := ⟨fun w' hb => ⟨(HB.out.below hb).hd.cell 6 (by omega), (hb.cell (World.block_lt_of_cell? _ _ c1)).trans c1, (HB.out.below hb).hd.cell 7 (by omega), (hb.cell (World.block_lt_of_cell? _ _ c2)).trans c2, hgv.upd (S := none_) (Upd.of_below hb) (fun _ _ h => h)⟩⟩
      clear c1 c2 hgv
      go_loopw [4] (fun k wr => ∃ j : Nat, j ≤ n ∧ k = .int .i64 j ∧ Aside0 (Below W.heap.size W wr)) (fun k _ => n - (intOf k).toNat)
      case atStart => exact ⟨0, by omega, rfl, H0⟩
      case round =>
        obtain ⟨k, hk, rfl, HK⟩ := hrel
        clear H0
        rename World => wk
        obtain ⟨hx0, hx1, hx2, hx3, hx4⟩ := HR.out wk HK.out
        have HG := Aside0.mk hx4
        clear hx2 hx3 hx4
        by_cases hkl : k < n
        · have hkl' : (k : Int) < n := by omega
          have hk0 : (0 : Int) ≤ (k : Int) := by omega
          obtain ⟨ge, rfl, hge, -⟩ := gv_some HG.out (by omega)
          have HAt := Aside0.mk (fun w => wm_all m hm w)
          have HNM := Aside0.mk (And.intro hn hm)
          have HGE := Aside0.mk hge
          clear hm hge
          go_wp2_with fail
          clear hx0 hx1
          have HS : Aside0 (∀ w', Below W.heap.size W w' → w'.cell? ⟨g, off + 6, none⟩ = some (.slice (some ⟨gt, 0, none⟩) eW.length c0) ∧ w'.cell? ⟨gt, i, none⟩ = some (.slice (some ⟨ge, 0, none⟩) n ce) ∧ w'.cell? ⟨ge, k, none⟩ = some (.int .u64 (wmN m : Int)) ∧ w'.cell? ⟨g, off + 7, none⟩ = some (.slice (some ⟨go, 0, none⟩) eW.length co) ∧ w'.cell? ⟨go, i, none⟩ = some (.int .i64 (m : Int))) := ⟨fun w' hb => by
            obtain ⟨a1, a2, a3, a4, a5⟩ := HR.out w' hb
            exact ⟨a1, a2, (GenAt.of_gv a5).1.get k _ (mkL_get elW m hkl), a3, a4⟩⟩
          have HK0 := Aside0.mk (HS.out wk HK.out)
          go_region_held3 (fun w' => w'.cell? ⟨g, off + 6, none⟩ = some (.slice (some ⟨gt, 0, none⟩) eW.length c0) ∧ w'.cell? ⟨gt, i, none⟩ = some (.slice (some ⟨ge, 0, none⟩) n ce) ∧ w'.cell? ⟨ge, k, none⟩ = some (.int .u64 (wmN m : Int)) ∧ w'.cell? ⟨g, off + 7, none⟩ = some (.slice (some ⟨go, 0, none⟩) eW.length co) ∧ w'.cell? ⟨go, i, none⟩ = some (.int .i64 (m : Int))) (first | exact HK1.out | exact HK0.out) (first | (go_at_call 88; refine (HAt.out _).mono ?_; rintro e w2 ⟨rfl, hb⟩; have H2 := Aside0.mk (below_next HK.out (below_next (Below.refl wk.heap.size wk).drew hb)); have HK1 := Aside0.mk (HS.out w2 H2.out); clear hb))
          go_wp2_with fail
          exact ⟨⟨k + 1, by omega, by rw [Int.natCast_succ], H2⟩, by simp only [intOf]; omega⟩
        · obtain rfl : k = n := by omega
          go_wp2_with fail
          clear hx0 hx1
          exact ⟨⟨i + 1, by omega, by rw [Int.natCast_succ], HK⟩, by simp only [intOf]; omega⟩
    · obtain rfl : i = eW.length := by omega
      clear hlt
      go_wp2_with fail
      clear hx0
      go_loopw [5] (fun i wr => i = .int .i64 0 ∧ Aside0 (Below W.heap.size W wr)) (fun _ _ => 0)
      case atStart => exact ⟨rfl, H0⟩
      case round =>
        obtain ⟨rfl, H1⟩ := hrel
        clear H0
        rename World => wq0
        have hx3 : wq0.cell? ⟨g, off + 9, none⟩ = some (.slice none 0 0) := (HB.out.below H1.out).hd.cell 9 (by omega)
        go_wp2_with fail
        clear hx3
        go_loopw [9] (fun i wr => i = .int .i64 0 ∧ Aside0 (Below W.heap.size W wr)) (fun _ _ => 0)
        case atStart => exact ⟨rfl, H1⟩
        case round =>
          obtain ⟨rfl, H2⟩ := hrel
          clear H1
          rename World => wq1
          have hx3 : wq1.cell? ⟨g, off + 12, none⟩ = some (.slice none 0 0) := (HB.out.below H2.out).hd.cell 12 (by omega)
          go_wp2_with fail
          clear hx3
          go_loopw [13] (fun i wr => i = .int .i64 0 ∧ Aside0 (Below W.heap.size W wr)) (fun _ _ => 0)
          case atStart => exact ⟨rfl, H2⟩
          case round =>
            obtain ⟨rfl, H3⟩ := hrel
            clear H2
            rename World => wq2
            have hx3 : wq2.cell? ⟨g, off + 15, none⟩ = some (.slice none 0 0) := (HB.out.below H3.out).hd.cell 15 (by omega)
            go_wp2_with fail
            clear hx3
            go_ret
            exact ⟨rfl, H3.out⟩
set_option maxHeartbeats 8000000 in
theorem told.calls {W : World} {g off : Nat} {ow : Own} {vB vBo : Value} {eB : List Ent} {aB : Nat} {vW vWo : Value} {eW : List Ent} {aW turn done used : Nat} (h : Bk W g off ow vB vBo eB aB vW vWo eW aW turn done used) :
    Calls Try.prog 69 #[.pointer (some ⟨g, off, none⟩)] W fun e w' => e = .returned (.bool true) ∧ Below W.heap.size W w' := by
  have HB := Aside0.mk h
  have H0 : Aside0 (Below W.heap.size W W) := ⟨Below.refl _ _⟩
  clear h
  go_enter Try.func69, Try.ntmps69
  go_wp2_with fail
  go_loopw [3] (fun i wr => i = .int .i64 0 ∧ Aside0 (Below W.heap.size W wr)) (fun _ _ => 0)
  case atStart => exact ⟨rfl, H0⟩
  case round =>
    obtain ⟨rfl, H1⟩ := hrel
    clear H0
    rename World => wq0
    have hx3 : wq0.cell? ⟨g, off + 18, none⟩ = some (.slice none 0 0) := (HB.out.below H1.out).hd.cell 18 (by omega)
    go_wp2_with fail
    clear hx3
    go_loopw [7] (fun i wr => i = .int .i64 0 ∧ Aside0 (Below W.heap.size W wr)) (fun _ _ => 0)
    case atStart => exact ⟨rfl, H1⟩
    case round =>
      obtain ⟨rfl, H2⟩ := hrel
      clear H1
      rename World => wq1
      have hx3 : wq1.cell? ⟨g, off + 21, none⟩ = some (.slice none 0 0) := (HB.out.below H2.out).hd.cell 21 (by omega)
      go_wp2_with fail
      clear hx3
      go_loopw [11] (fun i wr => i = .int .i64 0 ∧ Aside0 (Below W.heap.size W wr)) (fun _ _ => 0)
      case atStart => exact ⟨rfl, H2⟩
      case round =>
        obtain ⟨rfl, H3⟩ := hrel
        clear H2
        rename World => wq2
        have hx3 : wq2.cell? ⟨g, off + 24, none⟩ = some (.slice none 0 0) := (HB.out.below H3.out).hd.cell 24 (by omega)
        go_wp2_with fail
        clear hx3
        go_loopw [15] (fun i wr => i = .int .i64 0 ∧ Aside0 (Below W.heap.size W wr)) (fun _ _ => 0)
        case atStart => exact ⟨rfl, H3⟩
        case round =>
          obtain ⟨rfl, H4⟩ := hrel
          clear H3
          rename World => wq3
          have hx3 : wq3.cell? ⟨g, off + 27, none⟩ = some (.slice none 0 0) := (HB.out.below H4.out).hd.cell 27 (by omega)
          go_wp2_with fail
          clear hx3
          go_ret
          exact ⟨rfl, H4.out⟩
set_option maxHeartbeats 4000000 in
theorem holds.calls {W : World} {g off : Nat} {ow : Own} {vB vBo : Value} {eB : List Ent} {aB : Nat} {vW vWo : Value} {eW : List Ent} {aW turn done used : Nat} (h : Bk W g off ow vB vBo eB aB vW vWo eW aW turn done used) :
    Calls Try.prog 49 #[.pointer (some ⟨g, off, none⟩)] W fun e w' => e = .returned (.bool true) ∧ Below W.heap.size W w' := by
  have HB := Aside0.mk h
  clear h
  go_enter Try.func49, Try.ntmps49
  go_wp2_with fail
  refine (BokE.plain.calls HB.out).mono ?_
  rintro e w2 ⟨rfl, hb⟩
  have H2 := Aside0.mk hb
  clear hb
  go_wp2_with fail
  refine (kept.calls (HB.out.below H2.out)).mono ?_
  rintro e w3 ⟨rfl, hb⟩
  have H3 := Aside0.mk (below_next H2.out hb)
  clear hb
  go_wp2_with fail
  refine (told.calls (HB.out.below H3.out)).mono ?_
  rintro e w4 ⟨rfl, hb⟩
  have H4 := Aside0.mk (below_next H3.out hb)
  clear hb
  go_wp2_with fail
  go_ret
  exact ⟨rfl, H4.out⟩
end Go.Proofs.Ytgjcffjicbmkhaa.BokF
end

section
namespace Go.Proofs.Ytgjcffjicbmkhaa.BokG
open Go Go.RowKit Go.Proofs.YtgjcffjicbmkhaaW.PrintWords Go.Proofs.YtgjcffjicbmkhaaW.PrintLast Go.Proofs.YtgjcffjicbmkhaaW.PrintMore Go.Proofs.Ytgjcffjicbmkhaa.PF Go.Proofs.Ytgjcffjicbmkhaa.RowU Go.Proofs.Ytgjcffjicbmkhaa.ArS Go.Proofs.Ytgjcffjicbmkhaa.ArM Go.Proofs.Ytgjcffjicbmkhaa.GenM Go.Proofs.Ytgjcffjicbmkhaa.GenN Go.Proofs.Ytgjcffjicbmkhaa.BokA Go.Proofs.Ytgjcffjicbmkhaa.BokT Go.Proofs.Ytgjcffjicbmkhaa.BokB Go.Proofs.Ytgjcffjicbmkhaa.BokE
set_option linter.unusedVariables false
set_option maxRecDepth 100000
theorem tab_push {k : Nat} {Tt : TypeId} {w3 w4 w5 w6 w7 w8 : World} {ow : Own} {g j0 : Nat} {vT vO v7 v9 x6 y z : Value} {lv lo : List Value}
    (htT : ∀ b, vT.ownBlock = some b → ow b = some (k, 0)) (hoT : ∀ b, vO.ownBlock = some b → ow b = some (k, 1)) (hlt : ∀ b, ow b ≠ none → b < w3.heap.size) (hg : ow g = none) (hgl : g < w3.heap.size)
    (u4 : Below w3.heap.size w3 w4) (r5 : Grew Tt w4 w5 vT v7 lv y) (e6 : w6 = w5.setCell ⟨g, j0, none⟩ x6) (u67 : Below w6.heap.size w6 w7) (r8 : Grew 3 w7 w8 vO v9 lo z) :
    ∃ ow', GV Tt w8 v7 (lv ++ [y]) ∧ GV 3 w8 v9 (lo ++ [z]) ∧ (∀ b, v7.ownBlock = some b → ow' b = some (k, 0)) ∧ (∀ b, v9.ownBlock = some b → ow' b = some (k, 1)) ∧ ow.le ow' ∧ (∀ b, ow' b ≠ none → b < w8.heap.size) ∧ ow' g = none ∧ (∀ b, ow' b ≠ none → ow b ≠ none ∨ w3.heap.size ≤ b) ∧ Upd (fun b => b = g ∨ ow b = some (k, 0) ∨ ow b = some (k, 1)) w3 w8 := by
  have s4 := u4.size
  have u35 : Upd (fun b => ow b = some (k, 0)) w3 w5 := (Upd.of_below u4).trans (r5.upd.mono (fun b hb => htT b hb))
  have u56 : Upd (fun b => b = g) w5 w6 := by rw [e6]; exact Upd.put (S := fun b => b = g) (Upd.refl _ w5) (.inl rfl) _ _
  have s35 := u35.size
  have s56 := u56.size
  have s67 := u67.size
  have s78 := r8.upd.size
  have b7 : ∀ b, v7.ownBlock = some b → ow b = some (k, 0) ∨ (ow b = none ∧ w3.heap.size ≤ b ∧ b < w5.heap.size) := fun b hb => by
    rcases r5.block b hb with h1 | h1
    · exact .inl (htT b h1)
    · exact .inr ⟨Classical.byContradiction fun hne => by have := hlt b hne; omega, by omega, r5.gv.lt b hb⟩
  have b9 : ∀ b, v9.ownBlock = some b → ow b = some (k, 1) ∨ (ow b = none ∧ w5.heap.size ≤ b ∧ b < w8.heap.size) := fun b hb => by
    rcases r8.block b hb with h1 | h1
    · exact .inl (hoT b h1)
    · exact .inr ⟨Classical.byContradiction fun hne => by have := hlt b hne; omega, by omega, r8.gv.lt b hb⟩
  have n97 : ∀ b, v9.ownBlock = some b → v7.ownBlock ≠ some b := fun b hb h7 => by
    rcases b9 b hb with h3 | h3 <;> rcases b7 b h7 with h4 | h4
    · rw [h3] at h4; simp at h4
    · rw [h3] at h4; simp at h4
    · rw [h4] at h3; simp at h3
    · omega
  have n7g : v7.ownBlock ≠ some g := fun hb => by
    rcases b7 g hb with h3 | h3
    · rw [hg] at h3; cases h3
    · omega
  have n9g : v9.ownBlock ≠ some g := fun hb => by
    rcases b9 g hb with h3 | h3
    · rw [hg] at h3; cases h3
    · omega
  have hu : Upd (fun b => b = g ∨ ow b = some (k, 0) ∨ ow b = some (k, 1)) w3 w8 :=
    (((u35.mono (fun b hb => .inr (.inl hb))).trans (u56.mono (fun b hb => .inl hb))).trans (Upd.of_below u67)).trans (r8.upd.mono (fun b hb => .inr (.inr (hoT b hb))))
  have e1 : ∀ b, v7.ownBlock = some b → ow b = none ∨ ow b = some (k, 0) := fun b hb => by
    rcases b7 b hb with h3 | h3
    · exact .inr h3
    · exact .inl h3.1
  have e2 : ∀ b, v9.ownBlock = some b → (ow.put v7 (k, 0)) b = none ∨ (ow.put v7 (k, 0)) b = some (k, 1) := fun b hb => by
    unfold Own.put
    rw [if_neg (n97 b hb)]
    rcases b9 b hb with h3 | h3
    · exact .inr h3
    · exact .inl h3.1
  refine ⟨(ow.put v7 (k, 0)).put v9 (k, 1), ?_, r8.gv, fun b hb => ?_, fun b hb => Own.put_at hb, (Own.put_le e1).trans (Own.put_le e2), fun b hb => ?_, ?_, fun b hb => ?_, hu⟩
  · have u58 : Upd (fun b => b = g ∨ vO.ownBlock = some b) w5 w8 := ((u56.mono (fun b hb => .inl hb)).trans (Upd.of_below u67)).trans (r8.upd.mono (fun b hb => .inr hb))
    refine r5.gv.upd u58 (fun b hb => ?_)
    rintro (rfl | h1)
    · exact n7g hb
    · have h2 := hoT b h1
      rcases b7 b hb with h3 | h3
      · rw [h2] at h3; simp at h3
      · rw [h2] at h3; simp at h3
  · show ((ow.put v7 (k, 0)).put v9 (k, 1)) b = _
    rw [Own.put, if_neg (fun h9 => n97 b h9 hb)]
    exact Own.put_at hb
  · rcases Own.put_ne hb with hb | hb
    · rcases Own.put_ne hb with hb | hb
      · have := hlt b hb; omega
      · have := r5.gv.lt b hb; omega
    · exact r8.gv.lt b hb
  · rw [Own.put, if_neg n9g, Own.put, if_neg n7g]; exact hg
  · rcases Own.put_ne hb with hb | hb
    · rcases Own.put_ne hb with hb | hb
      · exact .inl hb
      · rcases b7 b hb with h3 | h3
        · exact .inl (by rw [h3]; simp)
        · exact .inr h3.2.1
    · rcases b9 b hb with h3 | h3
      · exact .inl (by rw [h3]; simp)
      · exact .inr (by omega)
def Own.leK (k : Nat) (ow ow' : Own) : Prop := ∀ b t, ow b = some t → t.1 ≠ k → ow' b = some t
theorem Own.leK.trans {k : Nat} {a b c : Own} (h : Own.leK k a b) (h2 : Own.leK k b c) : Own.leK k a c := fun x t hx ht => h2 x t (h x t hx ht) ht
theorem Own.le.leK {k : Nat} {a b : Own} (h : a.le b) : Own.leK k a b := fun x t hx _ => h x t hx
theorem _root_.Go.Proofs.Ytgjcffjicbmkhaa.BokA.Tb.moveK {k : Nat} {Tt Te : TypeId} {el : Nat → Nat → Value} {S : Nat → Prop} {W W' : World} {ow ow' : Own} {v vo : Value} {es : List Ent} {a U U' : Nat} (h : Tb k Tt Te el W ow v vo es a U) (hu : Upd S W W') (hS : ∀ b t, ow b = some (k, t) → ¬ S b) (ho : ∀ b t, ow b = some (k, t) → ow' b = some (k, t)) (hU : U ≤ U') : Tb k Tt Te el W' ow' v vo es a U' := by
  refine ⟨h.tab.upd hu (fun b hb => hS b _ (h.tabT b hb)), h.of_.upd hu (fun b hb => hS b _ (h.ofT b hb)), fun b hb => ho _ _ (h.tabT b hb), fun b hb => ho _ _ (h.ofT b hb), fun e he => ⟨(h.ent e he).1.upd hu (fun b hb => ?_), (h.ent e he).2⟩, fun i e b hi hb => ho _ _ (h.entT i e b hi hb), h.al, Nat.le_trans h.bnd hU, h.short⟩
  obtain ⟨i, hi⟩ := List.getElem?_of_mem he
  exact hS b _ (h.entT i e b hi hb)
structure Tg (k : Nat) (Tt Te : TypeId) (el : Nat → Nat → Value) (W : World) (ow : Own) (v vo : Value) (es : List Ent) (N0 i U : Nat) : Prop where
  tab : GV Tt W v (vsOf es)
  of_ : GV 3 W vo (msOf es)
  tabT : ∀ b, v.ownBlock = some b → ow b = some (k, 0)
  ofT : ∀ b, vo.ownBlock = some b → ow b = some (k, 1)
  ent : ∀ e ∈ es, GV Te W e.v (mkL el e.m e.n) ∧ e.n ≤ 6000000 ∧ e.m ≤ 1000000000000000
  entT : ∀ j e b, es[j]? = some e → e.v.ownBlock = some b → ow b = some (k, if i ≤ j ∧ j < N0 then 4 + j else 2)
  short : ∀ j e, es[j]? = some e → i ≤ j → j < N0 → e.n ≤ 5900000
  iN : i ≤ N0
  nl : N0 ≤ es.length
  bnd : 120 * i + 120 * (es.length - N0) + 1200 * (N0 - i) ≤ U
structure Gr (k : Nat) (Tt Te : TypeId) (el : Nat → Nat → Value) (W : World) (ow : Own) (vT vo : Value) (es : List Ent) (N0 i : Nat) (v : Value) (m n p U : Nat) : Prop where
  tab : GV Tt W vT (vsOf es)
  of_ : GV 3 W vo (msOf es)
  tabT : ∀ b, vT.ownBlock = some b → ow b = some (k, 0)
  ofT : ∀ b, vo.ownBlock = some b → ow b = some (k, 1)
  ent : ∀ e ∈ es, GV Te W e.v (mkL el e.m e.n) ∧ e.n ≤ 6000000 ∧ e.m ≤ 1000000000000000
  entT : ∀ j e b, es[j]? = some e → e.v.ownBlock = some b → (i < j ∧ j < N0 ∧ ow b = some (k, 4 + j)) ∨ (¬ (i < j ∧ j < N0) ∧ (ow b = some (k, 2) ∨ (ow b = some (k, 3) ∧ e.m = m ∧ e.n ≤ n)))
  short : ∀ j e, es[j]? = some e → i < j → j < N0 → e.n ≤ 5900000
  cur : GV Te W v (mkL el m n)
  curT : ∀ b, v.ownBlock = some b → ow b = some (k, 3)
  iN : i < N0
  nl : N0 ≤ es.length
  bnd : 120 * i + 120 * (es.length - N0) + 1200 * (N0 - i) ≤ U + 120 * p
  mb : m ≤ 1000000000000000
theorem gen_len {T : TypeId} {W : World} {g c : Nat} {l : List Value} (h : GenAt T W g c l) {c2 : Nat} {l2 : List Value} (h2 : GenAt T W g c2 l2) : c = c2 := by
  obtain ⟨cur, a1, a2, _⟩ := h
  obtain ⟨cur2, b1, b2, _⟩ := h2
  rw [a1] at b1
  simp only [Option.some.injEq, Obj.cells.injEq] at b1
  have : cur = cur2 := by have := congrArg Array.toList b1.1; simpa using this
  rw [← a2, ← b2, this]
theorem gen_cut {T : TypeId} {W : World} {g cap : Nat} {l l2 : List Value} (h : GenAt T W g cap (l ++ l2)) : GenAt T W g cap l := by
  obtain ⟨cur, h1, h2, h3, h5, h4⟩ := h
  refine ⟨cur, h1, h2, by rw [List.length_append] at h3; omega, h5, ?_⟩
  have := congrArg (fun r => r.take l.length) h4
  simpa [List.take_take] using this
theorem Gr.grow {k : Nat} {Tt Te : TypeId} {el : Nat → Nat → Value} {w3 w4 w5 : World} {ow : Own} {vT vo : Value} {es : List Ent} {N0 i : Nat} {v v' : Value} {m n p U : Nat} (h : Gr k Tt Te el w3 ow vT vo es N0 i v m n p U) (hlt : ∀ b, ow b ≠ none → b < w3.heap.size) {g : Nat} (hg : ow g = none) (hgl : g < w3.heap.size)
    (u4 : Below w3.heap.size w3 w4) (r : Grew Te w4 w5 v v' (mkL el m n) (el m n)) :
    ∃ ow', Gr k Tt Te el w5 ow' vT vo es N0 i v' m (n + 1) p U ∧ ow.le ow' ∧ (∀ b, ow' b ≠ none → b < w5.heap.size) ∧ ow' g = none ∧ (∀ b, ow' b ≠ none → ow b ≠ none ∨ w3.heap.size ≤ b) ∧ Upd (fun b => ow b = some (k, 3)) w3 w5 := by
  have hu : Upd (fun b => v.ownBlock = some b) w3 w5 := (Upd.of_below u4).trans r.upd
  have hu3 : Upd (fun b => ow b = some (k, 3)) w3 w5 := hu.mono (fun b hb => h.curT b hb)
  have s34 := u4.size
  have s35 := hu.size
  have e1 : ∀ b, v'.ownBlock = some b → ow b = none ∨ ow b = some (k, 3) := fun b hb => by
    rcases r.block b hb with h1 | h1
    · exact .inr (h.curT b h1)
    · exact .inl (Classical.byContradiction fun hne => by have := hlt b hne; omega)
  have le := Own.put_le (t := (k, 3)) e1
  have hS : ∀ b t, ow b = some (k, t) → t ≠ 3 → ¬ (fun b => ow b = some (k, 3)) b := fun b t hb ht hb' => by
    have hb' : ow b = some (k, 3) := hb'
    rw [hb] at hb'
    simp at hb'
    exact ht hb'
  have hgv := r.gv
  rw [← mkL_succ] at hgv
  refine ⟨ow.put v' (k, 3), ⟨h.tab.upd hu3 (fun b hb => hS b _ (h.tabT b hb) (by decide)), h.of_.upd hu3 (fun b hb => hS b _ (h.ofT b hb) (by decide)), fun b hb => le _ _ (h.tabT b hb), fun b hb => le _ _ (h.ofT b hb), fun e he => ⟨?_, (h.ent e he).2⟩, fun j e b hj hb => ?_, h.short, hgv, fun b hb => Own.put_at hb, h.iN, h.nl, h.bnd, h.mb⟩, le, fun b hb => ?_, ?_, fun b hb => ?_, hu3⟩
  · obtain ⟨j, hj⟩ := List.getElem?_of_mem he
    have hgE := (h.ent e he).1
    by_cases hbk : ∃ b, e.v.ownBlock = some b ∧ v.ownBlock = some b
    · obtain ⟨b, hb, hvb⟩ := hbk
      have h3 := h.curT b hvb
      have hmn : e.m = m ∧ e.n ≤ n := by
        rcases h.entT j e b hj hb with h4 | ⟨_, h4 | h4⟩
        · rw [h3] at h4; simp at h4; omega
        · rw [h3] at h4; simp at h4
        · exact h4.2
      rcases r with ⟨g1, cap, rfl, rfl, hga, _⟩ | ⟨g1, cap, rfl, hg1, hga, hbe⟩
      · have hgb : g1 = b := Option.some.inj hvb
        subst hgb
        rcases hgE with ⟨hz, hz2⟩ | ⟨g2, cap2, hz, hge⟩
        · rw [hz] at hb; cases hb
        · have : g2 = g1 := by rw [hz] at hb; exact Option.some.inj hb
          subst this
          have hcur := (GenAt.of_gv h.cur).1
          have hcc := gen_len hge hcur
          subst hcc
          refine .inr ⟨g2, cap2, hz, ?_⟩
          rw [hmn.1]
          have h5 : mkL el m n ++ [el m n] = mkL el m e.n ++ (mkL el m (n + 1)).drop e.n := by
            rw [← mkL_succ]
            conv => lhs; rw [← List.take_append_drop e.n (mkL el m (n + 1))]
            rw [mkL_take el m (by omega)]
          rw [h5] at hga
          exact gen_cut hga
      · exact hgE.upd (S := none_) (Upd.of_below (below_next u4 hbe)) (fun _ _ h => h)
    · exact hgE.upd hu (fun b hb hvb => hbk ⟨b, hb, hvb⟩)
  · rcases h.entT j e b hj hb with h4 | ⟨h4, h5 | h5⟩
    · exact .inl ⟨h4.1, h4.2.1, le _ _ h4.2.2⟩
    · exact .inr ⟨h4, .inl (le _ _ h5)⟩
    · exact .inr ⟨h4, .inr ⟨le _ _ h5.1, h5.2.1, by omega⟩⟩
  · rcases Own.put_ne hb with hb | hb
    · have := hlt b hb; omega
    · exact r.gv.lt b hb
  · have : v'.ownBlock ≠ some g := fun hb => by
      rcases r.block g hb with h1 | h1
      · have := h.curT g h1; rw [hg] at this; cases this
      · omega
    rw [Own.put, if_neg this]; exact hg
  · rcases Own.put_ne hb with hb | hb
    · exact .inl hb
    · rcases r.block b hb with h1 | h1
      · exact .inl (by rw [h.curT b h1]; simp)
      · exact .inr (by omega)
theorem Gr.push {k : Nat} {Tt Te : TypeId} {el : Nat → Nat → Value} {w3 w4 w5 w6 w7 w8 : World} {ow : Own} {vT vo v7 v9 x6 : Value} {es : List Ent} {N0 i : Nat} {v : Value} {m n p U j0 : Nat} (h : Gr k Tt Te el w3 ow vT vo es N0 i v m n p U) (hlt : ∀ b, ow b ≠ none → b < w3.heap.size) {g : Nat} (hg : ow g = none) (hgl : g < w3.heap.size) (hn : n ≤ 6000000)
    (u4 : Below w3.heap.size w3 w4) (r5 : Grew Tt w4 w5 vT v7 (vsOf es) v) (e6 : w6 = w5.setCell ⟨g, j0, none⟩ x6) (u67 : Below w6.heap.size w6 w7) (r8 : Grew 3 w7 w8 vo v9 (msOf es) (.int .i64 (m : Int))) :
    ∃ ow', Gr k Tt Te el w8 ow' v7 v9 (es ++ [⟨v, m, n⟩]) N0 i v m n (p + 1) U ∧ ow.le ow' ∧ (∀ b, ow' b ≠ none → b < w8.heap.size) ∧ ow' g = none ∧ (∀ b, ow' b ≠ none → ow b ≠ none ∨ w3.heap.size ≤ b) ∧ Upd (fun b => b = g ∨ ow b = some (k, 0) ∨ ow b = some (k, 1)) w3 w8 := by
  obtain ⟨ow', t1, t2, t3, t4, le, lt8, ng8, own8, hu⟩ := tab_push h.tabT h.ofT hlt hg hgl u4 r5 e6 u67 r8
  have hS : ∀ b t, ow b = some (k, t) → 2 ≤ t → ¬ (fun b => b = g ∨ ow b = some (k, 0) ∨ ow b = some (k, 1)) b := by
    rintro b t hb ht (rfl | h1 | h1)
    · rw [hg] at hb; cases hb
    · rw [hb] at h1; simp at h1; omega
    · rw [hb] at h1; simp at h1; omega
  have hcur := h.cur.upd hu (fun b hb => hS b _ (h.curT b hb) (by decide))
  refine ⟨ow', ⟨by rw [vsOf_snoc]; exact t1, by rw [msOf_snoc]; exact t2, t3, t4, fun e he => ?_, fun j e b hj hb => ?_, fun j e hj h1 h2 => ?_, hcur, fun b hb => le _ _ (h.curT b hb), h.iN, by rw [List.length_append]; have := h.nl; omega, by have := h.bnd; have := h.nl; rw [List.length_append, List.length_singleton]; omega, h.mb⟩, le, lt8, ng8, own8, hu⟩
  · rcases List.mem_append.1 he with he | he
    · refine ⟨(h.ent e he).1.upd hu (fun b hb => ?_), (h.ent e he).2⟩
      obtain ⟨j, hj⟩ := List.getElem?_of_mem he
      rcases h.entT j e b hj hb with h4 | ⟨_, h4 | h4⟩
      · exact hS b _ h4.2.2 (by omega)
      · exact hS b _ h4 (by decide)
      · exact hS b _ h4.1 (by decide)
    · rw [List.mem_singleton] at he; subst he
      exact ⟨hcur, hn, h.mb⟩
  · by_cases hjl : j < es.length
    · rw [List.getElem?_append_left hjl] at hj
      rcases h.entT j e b hj hb with h4 | ⟨h3, h4 | h4⟩
      · exact .inl ⟨h4.1, h4.2.1, le _ _ h4.2.2⟩
      · exact .inr ⟨h3, .inl (le _ _ h4)⟩
      · exact .inr ⟨h3, .inr ⟨le _ _ h4.1, h4.2⟩⟩
    · have hl := (List.getElem?_eq_some_iff.1 hj).1
      rw [List.length_append, List.length_singleton] at hl
      have hje : j = es.length := by omega
      subst hje
      rw [List.getElem?_append_right (Nat.le_refl _), Nat.sub_self] at hj
      have hj : (⟨v, m, n⟩ : Ent) = e := by simpa using hj
      subst hj
      have := h.nl
      exact .inr ⟨by omega, .inr ⟨le _ _ (h.curT b hb), rfl, Nat.le_refl _⟩⟩
  · have hjl : j < es.length := by have := h.nl; omega
    rw [List.getElem?_append_left hjl] at hj
    exact h.short j e hj h1 h2
theorem Gr.moveU {k : Nat} {Tt Te : TypeId} {el : Nat → Nat → Value} {S : Nat → Prop} {W W' : World} {ow : Own} {vT vo : Value} {es : List Ent} {N0 i : Nat} {v : Value} {m n p U : Nat} (h : Gr k Tt Te el W ow vT vo es N0 i v m n p U) (hu : Upd S W W') (hS : ∀ b, ow b ≠ none → ¬ S b) : Gr k Tt Te el W' ow vT vo es N0 i v m n p U := by
  refine ⟨h.tab.upd hu (fun b hb => hS b (by rw [h.tabT b hb]; simp)), h.of_.upd hu (fun b hb => hS b (by rw [h.ofT b hb]; simp)), h.tabT, h.ofT, fun e he => ⟨(h.ent e he).1.upd hu (fun b hb => ?_), (h.ent e he).2⟩, h.entT, h.short, h.cur.upd hu (fun b hb => hS b (by rw [h.curT b hb]; simp)), h.curT, h.iN, h.nl, h.bnd, h.mb⟩
  obtain ⟨j, hj⟩ := List.getElem?_of_mem he
  rcases h.entT j e b hj hb with h4 | ⟨_, h4 | h4⟩
  · exact hS b (by rw [h4.2.2]; simp)
  · exact hS b (by rw [h4]; simp)
  · exact hS b (by rw [h4.1]; simp)
theorem Tg.moveU {k : Nat} {Tt Te : TypeId} {el : Nat → Nat → Value} {S : Nat → Prop} {W W' : World} {ow : Own} {vT vo : Value} {es : List Ent} {N0 i U : Nat} (h : Tg k Tt Te el W ow vT vo es N0 i U) (hu : Upd S W W') (hS : ∀ b, ow b ≠ none → ¬ S b) : Tg k Tt Te el W' ow vT vo es N0 i U := by
  refine ⟨h.tab.upd hu (fun b hb => hS b (by rw [h.tabT b hb]; simp)), h.of_.upd hu (fun b hb => hS b (by rw [h.ofT b hb]; simp)), h.tabT, h.ofT, fun e he => ⟨(h.ent e he).1.upd hu (fun b hb => ?_), (h.ent e he).2⟩, h.entT, h.short, h.iN, h.nl, h.bnd⟩
  obtain ⟨j, hj⟩ := List.getElem?_of_mem he
  exact hS b (by rw [h.entT j e b hj hb]; simp)
theorem Tg.start {k : Nat} {Tt Te : TypeId} {el : Nat → Nat → Value} {W : World} {ow : Own} {vT vo : Value} {es : List Ent} {a U : Nat} (h : Tb k Tt Te el W ow vT vo es a U) : Tg k Tt Te el W ow vT vo es es.length a U := by
  refine ⟨h.tab, h.of_, h.tabT, h.ofT, h.ent, fun j e b hj hb => ?_, fun j e hj h1 _ => h.short j e hj h1, h.al, Nat.le_refl _, by have := h.bnd; omega⟩
  rw [h.entT j e b hj hb]
  have hl := (List.getElem?_eq_some_iff.1 hj).1
  by_cases h1 : a ≤ j
  · rw [if_pos h1, if_pos ⟨h1, hl⟩]
  · rw [if_neg h1, if_neg (fun e => h1 e.1)]
theorem Tg.done {k : Nat} {Tt Te : TypeId} {el : Nat → Nat → Value} {W : World} {ow : Own} {vT vo : Value} {es : List Ent} {N0 U : Nat} (h : Tg k Tt Te el W ow vT vo es N0 N0 U) : Tb k Tt Te el W ow vT vo es es.length U := by
  have := h.bnd
  have := h.nl
  refine ⟨h.tab, h.of_, h.tabT, h.ofT, h.ent, fun j e b hj hb => ?_, Nat.le_refl _, by omega, fun j e hj h1 => by have := (List.getElem?_eq_some_iff.1 hj).1; omega⟩
  rw [h.entT j e b hj hb]
  have hl := (List.getElem?_eq_some_iff.1 hj).1
  rw [if_neg (by omega), if_neg (by omega)]
theorem Tg.begin_ {k : Nat} {Tt Te : TypeId} {el : Nat → Nat → Value} {W : World} {ow : Own} {vT vo : Value} {es : List Ent} {N0 i U : Nat} (h : Tg k Tt Te el W ow vT vo es N0 i U) (hi : i < N0) {e : Ent} (he : es[i]? = some e) :
    Gr k Tt Te el W (ow.put e.v (k, 3)) vT vo es N0 i e.v e.m e.n 0 U ∧ Own.leK k ow (ow.put e.v (k, 3)) ∧ (∀ b, ow.put e.v (k, 3) b ≠ none ↔ ow b ≠ none) ∧ e.n ≤ 5900000 := by
  have htag : ∀ b, e.v.ownBlock = some b → ow b = some (k, 4 + i) := fun b hb => by
    rw [h.entT i e b he hb, if_pos ⟨Nat.le_refl _, hi⟩]
  have other : ∀ b t, ow b = some (k, t) → t ≠ 4 + i → (ow.put e.v (k, 3)) b = some (k, t) := fun b t hb ht => by
    unfold Own.put
    rw [if_neg (fun hv => ?_)]
    · exact hb
    · have := htag b hv
      rw [hb] at this
      simp at this
      exact ht this
  refine ⟨⟨h.tab, h.of_, fun b hb => other b _ (h.tabT b hb) (by omega), fun b hb => other b _ (h.ofT b hb) (by omega), h.ent, fun j x b hj hb => ?_, fun j x hj h1 h2 => h.short j x hj (Nat.le_of_lt h1) h2, (h.ent e (List.mem_of_getElem? he)).1, fun b hb => Own.put_at hb, hi, h.nl, by have := h.bnd; omega, (h.ent e (List.mem_of_getElem? he)).2.2⟩, fun b t hb ht => ?_, fun b => ?_, h.short i e he (Nat.le_refl _) hi⟩
  · have h1 := h.entT j x b hj hb
    by_cases hij : j = i
    · subst hij
      have hx : x = e := Option.some.inj (hj.symm.trans he)
      subst hx
      exact .inr ⟨by omega, .inr ⟨Own.put_at hb, rfl, Nat.le_refl _⟩⟩
    · by_cases hc : i < j ∧ j < N0
      · rw [if_pos ⟨Nat.le_of_lt hc.1, hc.2⟩] at h1
        exact .inl ⟨hc.1, hc.2, other b _ h1 (by omega)⟩
      · rw [if_neg (by omega)] at h1
        exact .inr ⟨hc, .inl (other b _ h1 (by omega))⟩
  · unfold Own.put
    rw [if_neg (fun hv => ?_)]
    · exact hb
    · have := htag b hv
      rw [hb] at this
      simp at this
      rw [this] at ht
      exact ht rfl
  · unfold Own.put
    by_cases hv : e.v.ownBlock = some b
    · rw [if_pos hv, htag b hv]; simp
    · rw [if_neg hv]
def Own.old (k : Nat) (ow : Own) : Own := fun b => if ow b = some (k, 3) then some (k, 2) else ow b
theorem Gr.finish {k : Nat} {Tt Te : TypeId} {el : Nat → Nat → Value} {W : World} {ow : Own} {vT vo : Value} {es : List Ent} {N0 i : Nat} {v : Value} {m n p U : Nat} (h : Gr k Tt Te el W ow vT vo es N0 i v m n p U) (hp : p ≤ 9) :
    Tg k Tt Te el W (Own.old k ow) vT vo es N0 (i + 1) U ∧ Own.leK k ow (Own.old k ow) ∧ (∀ b, Own.old k ow b ≠ none ↔ ow b ≠ none) := by
  have other : ∀ b t, ow b = some (k, t) → t ≠ 3 → Own.old k ow b = some (k, t) := fun b t hb ht => by
    unfold Own.old
    rw [if_neg (fun hv => ?_)]
    · exact hb
    · rw [hb] at hv; simp at hv; exact ht hv
  have hiN := h.iN
  refine ⟨⟨h.tab, h.of_, fun b hb => other b _ (h.tabT b hb) (by decide), fun b hb => other b _ (h.ofT b hb) (by decide), h.ent, fun j e b hj hb => ?_, fun j e hj h1 h2 => h.short j e hj (by omega) h2, by omega, h.nl, by have := h.bnd; omega⟩, fun b t hb ht => ?_, fun b => ?_⟩
  · rcases h.entT j e b hj hb with h4 | ⟨h3, h4 | h4⟩
    · rw [if_pos ⟨by omega, h4.2.1⟩]
      exact other b _ h4.2.2 (by omega)
    · rw [if_neg (by omega)]
      exact other b _ h4 (by decide)
    · rw [if_neg (by omega)]
      unfold Own.old
      rw [if_pos h4.1]
  · unfold Own.old
    rw [if_neg (fun hv => ?_)]
    · exact hb
    · rw [hb] at hv; simp at hv; rw [hv] at ht; exact ht rfl
  · unfold Own.old
    by_cases hv : ow b = some (k, 3)
    · rw [if_pos hv, hv]; simp
    · rw [if_neg hv]
end Go.Proofs.Ytgjcffjicbmkhaa.BokG
end

section
namespace Go.Proofs.Ytgjcffjicbmkhaa.BokS
open Go Go.RowKit Go.Proofs.YtgjcffjicbmkhaaW.PrintWords Go.Proofs.YtgjcffjicbmkhaaW.PrintLast Go.Proofs.YtgjcffjicbmkhaaW.PrintMore Go.Proofs.Ytgjcffjicbmkhaa.PF Go.Proofs.Ytgjcffjicbmkhaa.RowU Go.Proofs.Ytgjcffjicbmkhaa.ArS Go.Proofs.Ytgjcffjicbmkhaa.ArM Go.Proofs.Ytgjcffjicbmkhaa.GenM Go.Proofs.Ytgjcffjicbmkhaa.GenN Go.Proofs.Ytgjcffjicbmkhaa.BokA Go.Proofs.Ytgjcffjicbmkhaa.BokT Go.Proofs.Ytgjcffjicbmkhaa.BokB Go.Proofs.Ytgjcffjicbmkhaa.BokE Go.Proofs.Ytgjcffjicbmkhaa.BokG
set_option linter.unusedVariables false
set_option maxRecDepth 100000
def nix : Nat → Prop := fun _ => False
def OthOk (k : Nat) (Oth : World → Own → Prop) : Prop := ∀ (S : Nat → Prop) w w' ow ow', Oth w ow → Upd S w w' → (∀ b t, ow b = some t → t.1 ≠ k → ¬ S b) → Own.leK k ow ow' → Oth w' ow'
structure Gs (k : Nat) (Oth : World → Own → Prop) (W wr : World) (g off : Nat) (ow0 ow : Own) (c : Nat → Value) : Prop where
  hd : Hd wr g off c
  oth : Oth wr ow
  lt : ∀ b, ow b ≠ none → b < wr.heap.size
  ng : ow g = none
  bks : BkS W wr g off ow0 ow nix
theorem Gs.gl {k : Nat} {Oth : World → Own → Prop} {W wr : World} {g off : Nat} {ow0 ow : Own} {c : Nat → Value} (h : Gs k Oth W wr g off ow0 ow c) : g < wr.heap.size := by obtain ⟨cur, T, hb⟩ := h.hd.blk; exact cell_lt hb
theorem Gs.turn {k : Nat} {Oth : World → Own → Prop} (hO : OthOk k Oth) {W wr w' : World} {g off : Nat} {ow0 ow ow' : Own} {c : Nat → Value} (h : Gs k Oth W wr g off ow0 ow c) {S : Nat → Prop} (hu : Upd S wr w') (hS : ∀ b, S b → ∃ t, ow b = some (k, t)) (hle : Own.leK k ow ow') (hlt : ∀ b, ow' b ≠ none → b < w'.heap.size) (hng : ow' g = none) (hown : ∀ b, ow' b ≠ none → ow b ≠ none ∨ wr.heap.size ≤ b) : Gs k Oth W w' g off ow0 ow' c := by
  have hg : ¬ S g := fun hs => by obtain ⟨t, ht⟩ := hS g hs; rw [h.ng] at ht; cases ht
  refine ⟨h.hd.upd hu hg, hO S wr w' ow ow' h.oth hu (fun b t hb ht hs => ?_) hle, hlt, hng, h.bks.trans (Y := nix) ⟨hu.mono (fun b hb => .inr (.inl ?_)), fun b hb => (hown b hb).imp id .inr, fun j hj => keep_upd h.hd hu hg j hj⟩ (fun b hb => hb.elim)⟩
  · obtain ⟨t', ht'⟩ := hS b hs
    rw [hb] at ht'
    simp at ht'
    rw [ht'] at ht
    exact ht rfl
  · obtain ⟨t', ht'⟩ := hS b hb
    rw [ht']; simp
theorem Gs.below {k : Nat} {Oth : World → Own → Prop} (hO : OthOk k Oth) {W wr w' : World} {g off : Nat} {ow0 ow : Own} {c : Nat → Value} (h : Gs k Oth W wr g off ow0 ow c) (hb : Below wr.heap.size wr w') : Gs k Oth W w' g off ow0 ow c :=
  h.turn hO (S := nix) (Upd.of_below hb) (fun b hb => hb.elim) (fun b t hb _ => hb) (fun b hb' => Nat.lt_of_lt_of_le (h.lt b hb') hb.size) h.ng (fun b hb => .inl hb)
theorem Gs.retag {k : Nat} {Oth : World → Own → Prop} (hO : OthOk k Oth) {W wr : World} {g off : Nat} {ow0 ow ow' : Own} {c : Nat → Value} (h : Gs k Oth W wr g off ow0 ow c) (hle : Own.leK k ow ow') (hiff : ∀ b, ow' b ≠ none ↔ ow b ≠ none) : Gs k Oth W wr g off ow0 ow' c :=
  h.turn hO (S := nix) (Upd.refl _ wr) (fun b hb => hb.elim) hle (fun b hb => h.lt b ((hiff b).1 hb)) (Classical.byContradiction fun hne => (hiff g).1 hne h.ng) (fun b hb => .inl ((hiff b).1 hb))
theorem Gs.store {k : Nat} {Oth : World → Own → Prop} (hO : OthOk k Oth) {W wr : World} {g off : Nat} {ow0 ow : Own} {c c' : Nat → Value} (h : Gs k Oth W wr g off ow0 ow c) (j : Nat) (hj : j < 33) (v : Value) (hc : ∀ i, i < 33 → putC c j v i = c' i) : Gs k Oth W (wr.setCell ⟨g, off + j, none⟩ v) g off ow0 ow c' := by
  have hu := put_upd wr g (off + j) v
  have hne : ∀ b, ow b ≠ none → b ≠ g := fun b hb e => by subst e; exact hb h.ng
  refine ⟨(h.hd.put j hj v).congr hc, hO _ wr _ ow ow h.oth hu (fun b t hb _ e => hne b (by rw [hb]; simp) e) (fun b t hb _ => hb), fun b hb => Nat.lt_of_lt_of_le (h.lt b hb) hu.size, h.ng, h.bks.trans (Y := nix) ⟨hu.mono (fun b hb => .inl hb), fun b hb => .inl hb, fun i hi => set_keep h.hd.blk (by omega)⟩ (fun b hb => hb.elim)⟩
theorem gs_grow {k : Nat} {Oth : World → Own → Prop} (hO : OthOk k Oth) {W w3 w4 w5 : World} {g off : Nat} {ow0 ow : Own} {c : Nat → Value} (h : Gs k Oth W w3 g off ow0 ow c) {Tt Te : TypeId} {el : Nat → Nat → Value} {vT vo : Value} {es : List Ent} {N0 i : Nat} {v v' : Value} {m n p U : Nat} (hr : Gr k Tt Te el w3 ow vT vo es N0 i v m n p U)
    (u4 : Below w3.heap.size w3 w4) (r : Grew Te w4 w5 v v' (mkL el m n) (el m n)) : ∃ ow', Gr k Tt Te el w5 ow' vT vo es N0 i v' m (n + 1) p U ∧ Gs k Oth W w5 g off ow0 ow' c := by
  obtain ⟨ow', a1, a2, a3, a4, a5, a6⟩ := hr.grow h.lt h.ng h.gl u4 r
  exact ⟨ow', a1, h.turn hO a6 (fun b hb => ⟨3, hb⟩) (Own.le.leK a2) a3 a4 a5⟩
theorem gs_push {k : Nat} {Oth : World → Own → Prop} (hO : OthOk k Oth) {W w3 w4 w5 w6 w7 w8 w9 : World} {g off : Nat} {ow0 ow : Own} {c c' : Nat → Value} (h : Gs k Oth W w3 g off ow0 ow c) {Tt Te : TypeId} {el : Nat → Nat → Value} {vT vo v7 v9 : Value} {es : List Ent} {N0 i : Nat} {v : Value} {m n p U j0 j1 : Nat} (hr : Gr k Tt Te el w3 ow vT vo es N0 i v m n p U) (hn : n ≤ 6000000)
    (u4 : Below w3.heap.size w3 w4) (r5 : Grew Tt w4 w5 vT v7 (vsOf es) v) (hj0 : j0 < 33) (e6 : w6 = w5.setCell ⟨g, off + j0, none⟩ v7) (u67 : Below w6.heap.size w6 w7) (r8 : Grew 3 w7 w8 vo v9 (msOf es) (.int .i64 (m : Int))) (hj1 : j1 < 33) (e9 : w9 = w8.setCell ⟨g, off + j1, none⟩ v9) (hc : ∀ i, i < 33 → putC (putC c j0 v7) j1 v9 i = c' i) :
    ∃ ow', Gr k Tt Te el w9 ow' v7 v9 (es ++ [⟨v, m, n⟩]) N0 i v m n (p + 1) U ∧ Gs k Oth W w9 g off ow0 ow' c' := by
  obtain ⟨ow', a1, le, lt8, ng8, own8, u38⟩ := hr.push h.lt h.ng h.gl hn u4 r5 e6 u67 r8
  have u35 : Upd (fun b => ow b = some (k, 0)) w3 w5 := (Upd.of_below u4).trans (r5.upd.mono (fun b hb => hr.tabT b hb))
  have nS : ¬ (fun b => ow b = some (k, 0)) g := by show ¬ ow g = _; rw [h.ng]; simp
  have hd5 := h.hd.upd u35 nS
  have k5 := keep_upd h.hd u35 nS
  have hd6 := hd5.put j0 hj0 v7
  rw [← e6] at hd6
  have k6 := keep_put hd5 hj0 e6
  have u68 : Upd (fun b => vo.ownBlock = some b) w6 w8 := (Upd.of_below u67).trans r8.upd
  have nS2 : ¬ (fun b => vo.ownBlock = some b) g := fun hb => by have := hr.ofT g hb; rw [h.ng] at this; cases this
  have hd8 := hd6.upd u68 nS2
  have k8 := keep_upd hd6 u68 nS2
  have hd9 := hd8.put j1 hj1 v9
  rw [← e9] at hd9
  have k9 := keep_put hd8 hj1 e9
  have u89 : Upd (fun b => b = g) w8 w9 := by rw [e9]; exact put_upd _ _ _ _
  have hg9 : ∀ b, ow' b ≠ none → ¬ (fun b => b = g) b := fun b hb e => by have e : b = g := e; subst e; exact hb ng8
  have u39 := u38.trans (u89.mono (fun b hb => (.inl hb : b = g ∨ ow b = some (k, 0) ∨ ow b = some (k, 1))))
  refine ⟨ow', a1.moveU u89 hg9, ⟨hd9.congr hc, hO _ w3 w9 ow ow' h.oth u39 (fun b t hb ht => ?_) (Own.le.leK le), fun b hb => Nat.lt_of_lt_of_le (lt8 b hb) u89.size, ng8, h.bks.trans (Y := nix) ⟨u39.mono (fun b hb => ?_), fun b hb => (own8 b hb).imp id .inr, fun j hj => ?_⟩ (fun b hb => hb.elim)⟩⟩
  · rintro (rfl | h1 | h1)
    · rw [h.ng] at hb; cases hb
    · rw [hb] at h1; simp at h1; rw [h1] at ht; exact ht rfl
    · rw [hb] at h1; simp at h1; rw [h1] at ht; exact ht rfl
  · rcases hb with h1 | h1 | h1
    · exact .inl h1
    · exact .inr (.inl (by rw [h1]; simp))
    · exact .inr (.inl (by rw [h1]; simp))
  · rw [k9 j hj, k8 j hj, k6 j hj, k5 j hj]
theorem oth_W (vW vWo : Value) (eW : List Ent) (aW U : Nat) : OthOk 0 (fun w ow => Tb 2 34 36 elW w ow vW vWo eW aW U) := fun S w w' ow ow' h hu hS hle => h.moveK hu (fun b t hb => hS b _ hb (by show (_ : Nat) ≠ _; omega)) (fun b t hb => hle b _ hb (by show (_ : Nat) ≠ _; omega)) (Nat.le_refl _)
theorem oth_B (vB vBo : Value) (eB : List Ent) (aB U : Nat) : OthOk 2 (fun w ow => Tb 0 67 5 elB w ow vB vBo eB aB U) := fun S w w' ow ow' h hu hS hle => h.moveK hu (fun b t hb => hS b _ hb (by show (_ : Nat) ≠ _; omega)) (fun b t hb => hle b _ hb (by show (_ : Nat) ≠ _; omega)) (Nat.le_refl _)
def pcnt (x : Nat) : Nat := min (x - 1) 3 + (x - 1) / 16
theorem pcnt_yes {x : Nat} (h0 : 1 ≤ x) (h : x < 4 ∨ x % 16 = 0) : pcnt (x + 1) = pcnt x + 1 := by unfold pcnt; omega
theorem pcnt_no {x : Nat} (h0 : 1 ≤ x) (h : ¬ (x < 4 ∨ x % 16 = 0)) : pcnt (x + 1) = pcnt x := by unfold pcnt; omega
theorem pcnt_le {x : Nat} (h : x ≤ 97) : pcnt x ≤ 9 := by unfold pcnt; omega
end Go.Proofs.Ytgjcffjicbmkhaa.BokS
end

section
namespace Go.Proofs.Ytgjcffjicbmkhaa.BokI
open Go Go.RowKit Go.Proofs.YtgjcffjicbmkhaaW.PrintWords Go.Proofs.YtgjcffjicbmkhaaW.PrintLast Go.Proofs.YtgjcffjicbmkhaaW.PrintMore Go.Proofs.Ytgjcffjicbmkhaa.PF Go.Proofs.Ytgjcffjicbmkhaa.RowU Go.Proofs.Ytgjcffjicbmkhaa.ArS Go.Proofs.Ytgjcffjicbmkhaa.ArM Go.Proofs.Ytgjcffjicbmkhaa.GenM Go.Proofs.Ytgjcffjicbmkhaa.GenN Go.Proofs.Ytgjcffjicbmkhaa.BokA Go.Proofs.Ytgjcffjicbmkhaa.BokT Go.Proofs.Ytgjcffjicbmkhaa.BokB Go.Proofs.Ytgjcffjicbmkhaa.BokE Go.Proofs.Ytgjcffjicbmkhaa.BokG Go.Proofs.Ytgjcffjicbmkhaa.BokS
set_option linter.unusedVariables false
set_option maxRecDepth 100000
def othB (vB vBo : Value) (eB : List Ent) (aB U : Nat) : World → Own → Prop := fun w ow => Tb 0 67 5 elB w ow vB vBo eB aB U
theorem othB_ok (vB vBo : Value) (eB : List Ent) (aB U : Nat) : OthOk 2 (othB vB vBo eB aB U) := oth_B vB vBo eB aB U
set_option maxHeartbeats 8000000 in
theorem growWords.calls {W : World} {g off : Nat} {ow : Own} {vB vBo : Value} {eB : List Ent} {aB : Nat} {vW vWo : Value} {eW : List Ent} {aW turn done used : Nat} (h : Bk W g off ow vB vBo eB aB vW vWo eW aW turn done used) :
    Calls Try.prog 72 #[.pointer (some ⟨g, off, none⟩)] W fun e w' => e = .returned (.tuple #[]) ∧ ∃ ow' vW' vWo' eW', Bk w' g off ow' vB vBo eB aB vW' vWo' eW' eW'.length turn done used ∧ BkS W w' g off ow ow' nix := by
  have HG0 : Aside0 (Gs 2 (othB vB vBo eB aB used) W W g off ow ow (bkC vB vBo aB vW vWo aW turn done used) ∧ Tg 2 34 36 elW W ow vW vWo eW eW.length aW used) := ⟨⟨h.hd, h.tB, h.lt, h.ng, BkS.refl _ _ _ _ _⟩, Tg.start h.tW⟩
  have HUS := Aside0.mk h.us
  obtain ⟨A0, c0, hvW⟩ := h.tW.tab.slice
  rw [vsOf_len] at hvW
  have HL : Aside0 (eW.length ≤ 140000) := ⟨cnt_fit h.tW h.us⟩
  have hlen := HL.out
  obtain ⟨N0, hN0⟩ : ∃ N0, N0 = eW.length := ⟨_, rfl⟩
  rw [← hN0] at hvW HG0 hlen
  have haN : aW ≤ N0 := by rw [hN0]; exact h.tW.al
  subst hvW
  have hx0 : W.cell? ⟨g, off + 6, none⟩ = some (.slice A0 N0 c0) := h.hd.cell 6 (by omega)
  have hx2 : W.cell? ⟨g, off + 8, none⟩ = some (.int .i64 (aW : Int)) := h.hd.cell 8 (by omega)
  clear h hN0 HL
  go_enter Try.func72, Try.ntmps72
  go_wp2_with fail
  clear hx0 hx2
  go_loopw [3] (fun i wr => ∃ (k : Nat) (ow1 : Own) (v1 vo1 : Value) (es : List Ent), k ≤ N0 ∧ i = .int .i64 k ∧ Aside0 (Gs 2 (othB vB vBo eB aB used) W wr g off ow ow1 (bkC vB vBo aB v1 vo1 aW turn done used) ∧ Tg 2 34 36 elW wr ow1 v1 vo1 es N0 k used)) (fun i _ => N0 - (intOf i).toNat)
  case atStart => exact ⟨aW, ow, _, vWo, eW, haN, rfl, HG0⟩
  case round =>
    obtain ⟨i, ow1, v1, vo1, es, hi, rfl, HG⟩ := hrel
    clear HG0
    rename World => wr
    by_cases hlt : i < N0
    · have hlt' : (i : Int) < N0 := by omega
      have hi0 : (0 : Int) ≤ (i : Int) := by omega
      have hil : i < es.length := Nat.lt_of_lt_of_le hlt HG.out.2.nl
      obtain ⟨⟨ve, m, n0⟩, he⟩ : ∃ e, es[i]? = some e := ⟨_, List.getElem?_eq_getElem hil⟩
      obtain ⟨gt, ct, e1, c1⟩ := HG.out.2.tab.get i _ (vsOf_get he)
      obtain ⟨go, co, e2, c2⟩ := HG.out.2.of_.get i _ (msOf_get he)
      rw [vsOf_len] at e1
      rw [msOf_len] at e2
      subst e1 e2
      have hil' : (i : Int) < es.length := by omega
      obtain ⟨b1, b2, b3, b4⟩ := HG.out.2.begin_ hlt he
      have HB := Aside0.mk (And.intro (HG.out.1.retag (othB_ok _ _ _ _ _) b2 b3) (And.intro b1 b4))
      have hx0 : wr.cell? ⟨g, off + 6, none⟩ = some (.slice (some ⟨gt, 0, none⟩) es.length ct) := HG.out.1.hd.cell 6 (by omega)
      have hx1 : wr.cell? ⟨g, off + 7, none⟩ = some (.slice (some ⟨go, 0, none⟩) es.length co) := HG.out.1.hd.cell 7 (by omega)
      have hm : m ≤ 1000000000000000 := b1.mb
      have hn0 : n0 ≤ 5900000 := b4
      clear b1 b2 b3 b4 he HG hil
      go_wp2_with fail
      clear hx0 hx1 c1 c2
      generalize ow1.put ve (2, 3) = ow2 at *
      go_loopw [4, 6] (fun v x wr => ∃ (j : Nat) (ow1 : Own) (v1 vo1 : Value) (es : List Ent), 1 ≤ j ∧ j ≤ 33 ∧ x = .int .i64 j ∧ Aside0 (Gs 2 (othB vB vBo eB aB used) W wr g off ow ow1 (bkC vB vBo aB v1 vo1 aW turn done used) ∧ Gr 2 34 36 elW wr ow1 v1 vo1 es N0 i v m (n0 + (j - 1)) (pcnt j) used)) (fun _ x _ => 33 - (intOf x).toNat)
      case atStart => exact ⟨1, ow2, _, _, es, by omega, by omega, rfl, ⟨HB.out.1, HB.out.2.1⟩⟩
      case round =>
        obtain ⟨j, ow3, v1, vo1, es1, hj1, hj2, rfl, HR⟩ := hrel
        clear HB
        rename World => wk
        obtain ⟨Ac, cc, hv4⟩ := HR.out.2.cur.slice
        rw [mkL_len] at hv4
        subst hv4
        by_cases hjl : j ≤ 32
        · have hjl' : (j : Int) ≤ 32 := by omega
          obtain ⟨n, hn⟩ : ∃ n, n = n0 + (j - 1) := ⟨_, rfl⟩
          rw [← hn] at HR ⊢
          have HN := Aside0.mk hn
          have hn6 : n ≤ 5999999 := by omega
          have HAt := Aside0.mk (wm_all m hm wk)
          clear hn
          go_wp2_with fail
          refine HAt.out.mono ?_
          rintro e w2 ⟨rfl, hb⟩
          have HR2 : Aside0 (Gs 2 (othB vB vBo eB aB used) W w2 g off ow ow3 (bkC vB vBo aB v1 vo1 aW turn done used) ∧ Gr 2 34 36 elW w2 ow3 v1 vo1 es1 N0 i (.slice Ac n cc) m n (pcnt j) used) := ⟨HR.out.1.below (othB_ok _ _ _ _ _) hb, HR.out.2.moveU (S := none_) (Upd.of_below hb) (fun _ _ h => h)⟩
          clear hb HAt HR
          go_upto_region 10 with ((with_reducible refine gate_builtin (b := .append) (xs := #[.tmp 39, .tmp 42]) rfl ?_); at_builtin; refine wpList_gen2 _ rfl (.tmp 39) (.tmp 42) 34 36 rfl Try.underlying34 (.int .u64 0) 8 (by kernel_rfl) rfl (by decide) (.slice Ac n cc) (mkL elW m n) rfl ?hv ⟨w2.heap.size, 0, none⟩ (.int .u64 (wmN m : Int)) rfl ?hc rfl ?hb ?_; (case hv => exact HR2.out.2.cur.upd (S := none_) (Upd.of_below (below_alloc (Below.refl _ _) _)) (fun _ _ h => h)); (case hc => exact cell_one_new _ _ _ 0 _ rfl); (case hb => rw [mkL_len]; omega); intro v5 w5 hr5; obtain ⟨g5, c5, rfl⟩ := hr5.form; have R5 := Aside0.mk hr5; clear hr5)
          have HG5 := Aside0.mk (gs_grow (othB_ok _ _ _ _ _) HR2.out.1 HR2.out.2 (below_alloc (Below.refl _ _) _) R5.out)
          clear R5 HR2
          rw [mkL_len]
          obtain ⟨ow5, HG5'⟩ := HG5.out
          rw [mkL_len] at HG5'
          have HR5 := Aside0.mk HG5'
          clear HG5 HG5'
          have htm : Int.tmod (j : Int) 16 = ((j % 16 : Nat) : Int) := by rw [Int.tmod_eq_emod_of_nonneg (by omega)]; omega
          by_cases hj4 : j < 4
          · have hj4' : (j : Int) < 4 := by omega
            clear htm
            obtain ⟨c1, hc1⟩ : ∃ c1, c1 = bkC vB vBo aB v1 vo1 aW turn done used := ⟨_, rfl⟩
            have hx0 : w5.cell? ⟨g, off + 6, none⟩ = some v1 := HR5.out.2.hd.cell 6 (by omega)
            have HE1 : Aside0 (es1.length ≤ 150000) := ⟨by have h1 := HR5.out.1.bnd; have h2 := HR5.out.1.nl; have h3 := HR5.out.1.iN; have h4 := HUS.out; have h5 := pcnt_le (x := j) (by omega); omega⟩
            go_upto_region 12 with ((with_reducible refine gate_builtin (b := .append) (xs := #[.tmp 55, .tmp 57]) rfl ?_); at_builtin; refine wpList_gen2 _ rfl (.tmp 55) (.tmp 57) 33 34 rfl Try.underlying33 (.slice none 0 0) 24 (by kernel_rfl) rfl (by decide) v1 (vsOf es1) rfl ?hv ⟨w5.heap.size, 0, none⟩ (.slice (some ⟨g5, 0, none⟩) (n + 1) c5) rfl ?hc rfl ?hb ?_; (case hv => exact HR5.out.1.tab.upd (S := none_) (Upd.of_below (below_alloc (Below.refl _ _) _)) (fun _ _ h => h)); (case hc => exact cell_one_new _ _ _ 0 _ rfl); (case hb => rw [vsOf_len]; have := HE1.out; omega); intro v7 w7 hr7; obtain ⟨g7, c7, rfl⟩ := hr7.form; have R7 := Aside0.mk hr7; clear hr7 hx0; have H7 : Aside0 (Hd w7 g off (bkC vB vBo aB v1 vo1 aW turn done used)) := ⟨hd_grew (Tt := 0) (Te := 0) (el := elW) HR5.out.2.hd HR5.out.2.ng HR5.out.1.tabT (below_alloc (Below.refl _ _) _) R7.out⟩; have hx0 : w7.cell? ⟨g, off + 6, none⟩ = some v1 := H7.out.cell 6 (by omega); obtain ⟨cur7, T7, hbk⟩ := H7.out.blk; have hfz := blk_frozen hbk (off + 6))
            clear hbk hfz hx0
            obtain ⟨w8, hw8⟩ : ∃ w8, w8 = w7.setCell ⟨g, off + 6, none⟩ (.slice (some ⟨g7, 0, none⟩) ((vsOf es1).length + 1) c7) := ⟨_, rfl⟩
            rw [← hw8]
            have H8 : Aside0 (Hd w8 g off (putC (bkC vB vBo aB v1 vo1 aW turn done used) 6 (.slice (some ⟨g7, 0, none⟩) ((vsOf es1).length + 1) c7))) := ⟨by rw [hw8]; exact H7.out.put 6 (by omega) _⟩
            have HO8 : Aside0 (GV 3 w8 vo1 (msOf es1)) := ⟨by
              have u : Upd (fun b => v1.ownBlock = some b ∨ b = g) w5 w8 := by
                rw [hw8]
                exact ((Upd.of_below (below_alloc (Below.refl _ _) _)).trans (R7.out.upd.mono (fun b hb => .inl hb))).trans ((put_upd _ _ _ _).mono (fun b hb => .inr hb))
              refine HR5.out.1.of_.upd u (fun b hb => ?_)
              have h1 := HR5.out.1.ofT b hb
              rintro (h2 | rfl)
              · have h3 := HR5.out.1.tabT b h2
                rw [h1] at h3; simp at h3
              · rw [HR5.out.2.ng] at h1; cases h1⟩
            have HW8 := Aside0.mk hw8
            clear hw8
            have hx1 : w8.cell? ⟨g, off + 7, none⟩ = some vo1 := H8.out.cell 7 (by omega)
            go_upto_region 8 with ((with_reducible refine gate_builtin (b := .append) (xs := #[.tmp 65, .tmp 67]) rfl ?_); at_builtin; refine wpList_gen2 _ rfl (.tmp 65) (.tmp 67) 30 3 rfl Try.underlying30 (.int .i64 0) 8 (by kernel_rfl) rfl (by decide) vo1 (msOf es1) rfl ?hv ⟨w8.heap.size, 0, none⟩ (.int .i64 (m : Int)) rfl ?hc rfl ?hb ?_; (case hv => exact HO8.out.upd (S := none_) (Upd.of_below (below_alloc (Below.refl _ _) _)) (fun _ _ h => h)); (case hc => exact cell_one_new _ _ _ 0 _ rfl); (case hb => rw [msOf_len]; have := HE1.out; omega); intro v9 w9 hr9; obtain ⟨g9, c9, rfl⟩ := hr9.form; have R9 := Aside0.mk hr9; clear hr9 hx1; have H9 : Aside0 (Hd w9 g off (putC (bkC vB vBo aB v1 vo1 aW turn done used) 6 (.slice (some ⟨g7, 0, none⟩) ((vsOf es1).length + 1) c7))) := ⟨hd_grew (Tt := 0) (Te := 0) (el := elW) H8.out HR5.out.2.ng HR5.out.1.ofT (below_alloc (Below.refl _ _) _) R9.out⟩; have hx1 : w9.cell? ⟨g, off + 7, none⟩ = some vo1 := H9.out.cell 7 (by omega); obtain ⟨cur9, T9, hbk⟩ := H9.out.blk; have hfz := blk_frozen hbk (off + 7))
            clear hbk hfz hx1
            have HP := Aside0.mk (gs_push (othB_ok _ _ _ _ _) HR5.out.2 HR5.out.1 (by omega) (below_alloc (Below.refl _ _) _) R7.out (by omega) HW8.out (below_alloc (Below.refl _ _) _) R9.out (j0 := 6) (j1 := 7) (by omega) rfl (c' := bkC vB vBo aB (.slice (some ⟨g7, 0, none⟩) ((vsOf es1).length + 1) c7) (.slice (some ⟨g9, 0, none⟩) ((msOf es1).length + 1) c9) aW turn done used) (fun i hi => by
              unfold putC bkC
              by_cases h1 : i = 7
              · subst h1; simp
              · by_cases h0 : i = 6
                · subst h0; simp
                · simp [h1, h0]))
            have HRound : Aside0 (∃ (jj : Nat) (ow1 : Own) (v1 vo1 : Value) (es : List Ent), 1 ≤ jj ∧ jj ≤ 33 ∧ (Value.int .i64 ((j : Int) + 1)) = .int .i64 jj ∧ Aside0 (Gs 2 (othB vB vBo eB aB used) W (w9.setCell ⟨g, off + 7, none⟩ (.slice (some ⟨g9, 0, none⟩) ((msOf es1).length + 1) c9)) g off ow ow1 (bkC vB vBo aB v1 vo1 aW turn done used) ∧ Gr 2 34 36 elW (w9.setCell ⟨g, off + 7, none⟩ (.slice (some ⟨g9, 0, none⟩) ((msOf es1).length + 1) c9)) ow1 v1 vo1 es N0 i (.slice (some ⟨g5, 0, none⟩) (n + 1) c5) m (n0 + (jj - 1)) (pcnt jj) used)) := ⟨by
              obtain ⟨ow9, q1, q2⟩ := HP.out
              refine ⟨j + 1, ow9, _, _, es1 ++ [⟨.slice (some ⟨g5, 0, none⟩) (n + 1) c5, m, n + 1⟩], by omega, by omega, by rw [Int.natCast_succ], ⟨q2, ?_⟩⟩
              have e1 : n0 + (j + 1 - 1) = n + 1 := by have := HN.out; omega
              rw [e1, pcnt_yes hj1 (.inl hj4)]
              exact q1⟩
            clear R7 R9 H7 H8 H9 HO8 HW8 HP HR5 hc1
            go_wp2_with fail
            exact ⟨HRound.out, by simp only [intOf]; omega⟩
          · have hj4' : ¬ ((j : Int) < 4) := by omega
            by_cases h16 : j % 16 = 0
            · have htm' : Int.tmod (j : Int) 16 = 0 := by rw [htm, h16]; rfl
              clear htm
              obtain ⟨c1, hc1⟩ : ∃ c1, c1 = bkC vB vBo aB v1 vo1 aW turn done used := ⟨_, rfl⟩
              have hx0 : w5.cell? ⟨g, off + 6, none⟩ = some v1 := HR5.out.2.hd.cell 6 (by omega)
              have HE1 : Aside0 (es1.length ≤ 150000) := ⟨by have h1 := HR5.out.1.bnd; have h2 := HR5.out.1.nl; have h3 := HR5.out.1.iN; have h4 := HUS.out; have h5 := pcnt_le (x := j) (by omega); omega⟩
              go_upto_region 12 with ((with_reducible refine gate_builtin (b := .append) (xs := #[.tmp 55, .tmp 57]) rfl ?_); at_builtin; refine wpList_gen2 _ rfl (.tmp 55) (.tmp 57) 33 34 rfl Try.underlying33 (.slice none 0 0) 24 (by kernel_rfl) rfl (by decide) v1 (vsOf es1) rfl ?hv ⟨w5.heap.size, 0, none⟩ (.slice (some ⟨g5, 0, none⟩) (n + 1) c5) rfl ?hc rfl ?hb ?_; (case hv => exact HR5.out.1.tab.upd (S := none_) (Upd.of_below (below_alloc (Below.refl _ _) _)) (fun _ _ h => h)); (case hc => exact cell_one_new _ _ _ 0 _ rfl); (case hb => rw [vsOf_len]; have := HE1.out; omega); intro v7 w7 hr7; obtain ⟨g7, c7, rfl⟩ := hr7.form; have R7 := Aside0.mk hr7; clear hr7 hx0; have H7 : Aside0 (Hd w7 g off (bkC vB vBo aB v1 vo1 aW turn done used)) := ⟨hd_grew (Tt := 0) (Te := 0) (el := elW) HR5.out.2.hd HR5.out.2.ng HR5.out.1.tabT (below_alloc (Below.refl _ _) _) R7.out⟩; have hx0 : w7.cell? ⟨g, off + 6, none⟩ = some v1 := H7.out.cell 6 (by omega); obtain ⟨cur7, T7, hbk⟩ := H7.out.blk; have hfz := blk_frozen hbk (off + 6))
              clear hbk hfz hx0
              obtain ⟨w8, hw8⟩ : ∃ w8, w8 = w7.setCell ⟨g, off + 6, none⟩ (.slice (some ⟨g7, 0, none⟩) ((vsOf es1).length + 1) c7) := ⟨_, rfl⟩
              rw [← hw8]
              have H8 : Aside0 (Hd w8 g off (putC (bkC vB vBo aB v1 vo1 aW turn done used) 6 (.slice (some ⟨g7, 0, none⟩) ((vsOf es1).length + 1) c7))) := ⟨by rw [hw8]; exact H7.out.put 6 (by omega) _⟩
              have HO8 : Aside0 (GV 3 w8 vo1 (msOf es1)) := ⟨by
                have u : Upd (fun b => v1.ownBlock = some b ∨ b = g) w5 w8 := by
                  rw [hw8]
                  exact ((Upd.of_below (below_alloc (Below.refl _ _) _)).trans (R7.out.upd.mono (fun b hb => .inl hb))).trans ((put_upd _ _ _ _).mono (fun b hb => .inr hb))
                refine HR5.out.1.of_.upd u (fun b hb => ?_)
                have h1 := HR5.out.1.ofT b hb
                rintro (h2 | rfl)
                · have h3 := HR5.out.1.tabT b h2
                  rw [h1] at h3; simp at h3
                · rw [HR5.out.2.ng] at h1; cases h1⟩
              have HW8 := Aside0.mk hw8
              clear hw8
              have hx1 : w8.cell? ⟨g, off + 7, none⟩ = some vo1 := H8.out.cell 7 (by omega)
              go_upto_region 8 with ((with_reducible refine gate_builtin (b := .append) (xs := #[.tmp 65, .tmp 67]) rfl ?_); at_builtin; refine wpList_gen2 _ rfl (.tmp 65) (.tmp 67) 30 3 rfl Try.underlying30 (.int .i64 0) 8 (by kernel_rfl) rfl (by decide) vo1 (msOf es1) rfl ?hv ⟨w8.heap.size, 0, none⟩ (.int .i64 (m : Int)) rfl ?hc rfl ?hb ?_; (case hv => exact HO8.out.upd (S := none_) (Upd.of_below (below_alloc (Below.refl _ _) _)) (fun _ _ h => h)); (case hc => exact cell_one_new _ _ _ 0 _ rfl); (case hb => rw [msOf_len]; have := HE1.out; omega); intro v9 w9 hr9; obtain ⟨g9, c9, rfl⟩ := hr9.form; have R9 := Aside0.mk hr9; clear hr9 hx1; have H9 : Aside0 (Hd w9 g off (putC (bkC vB vBo aB v1 vo1 aW turn done used) 6 (.slice (some ⟨g7, 0, none⟩) ((vsOf es1).length + 1) c7))) := ⟨hd_grew (Tt := 0) (Te := 0) (el := elW) H8.out HR5.out.2.ng HR5.out.1.ofT (below_alloc (Below.refl _ _) _) R9.out⟩; have hx1 : w9.cell? ⟨g, off + 7, none⟩ = some vo1 := H9.out.cell 7 (by omega); obtain ⟨cur9, T9, hbk⟩ := H9.out.blk; have hfz := blk_frozen hbk (off + 7))
              clear hbk hfz hx1
              have HP := Aside0.mk (gs_push (othB_ok _ _ _ _ _) HR5.out.2 HR5.out.1 (by omega) (below_alloc (Below.refl _ _) _) R7.out (by omega) HW8.out (below_alloc (Below.refl _ _) _) R9.out (j0 := 6) (j1 := 7) (by omega) rfl (c' := bkC vB vBo aB (.slice (some ⟨g7, 0, none⟩) ((vsOf es1).length + 1) c7) (.slice (some ⟨g9, 0, none⟩) ((msOf es1).length + 1) c9) aW turn done used) (fun i hi => by
                unfold putC bkC
                by_cases h1 : i = 7
                · subst h1; simp
                · by_cases h0 : i = 6
                  · subst h0; simp
                  · simp [h1, h0]))
              have HRound : Aside0 (∃ (jj : Nat) (ow1 : Own) (v1 vo1 : Value) (es : List Ent), 1 ≤ jj ∧ jj ≤ 33 ∧ (Value.int .i64 ((j : Int) + 1)) = .int .i64 jj ∧ Aside0 (Gs 2 (othB vB vBo eB aB used) W (w9.setCell ⟨g, off + 7, none⟩ (.slice (some ⟨g9, 0, none⟩) ((msOf es1).length + 1) c9)) g off ow ow1 (bkC vB vBo aB v1 vo1 aW turn done used) ∧ Gr 2 34 36 elW (w9.setCell ⟨g, off + 7, none⟩ (.slice (some ⟨g9, 0, none⟩) ((msOf es1).length + 1) c9)) ow1 v1 vo1 es N0 i (.slice (some ⟨g5, 0, none⟩) (n + 1) c5) m (n0 + (jj - 1)) (pcnt jj) used)) := ⟨by
                obtain ⟨ow9, q1, q2⟩ := HP.out
                refine ⟨j + 1, ow9, _, _, es1 ++ [⟨.slice (some ⟨g5, 0, none⟩) (n + 1) c5, m, n + 1⟩], by omega, by omega, by rw [Int.natCast_succ], ⟨q2, ?_⟩⟩
                have e1 : n0 + (j + 1 - 1) = n + 1 := by have := HN.out; omega
                rw [e1, pcnt_yes hj1 (.inr h16)]
                exact q1⟩
              clear R7 R9 H7 H8 H9 HO8 HW8 HP HR5 hc1
              go_wp2_with fail
              exact ⟨HRound.out, by simp only [intOf]; omega⟩
            · have htm' : (Int.tmod (j : Int) 16 == 0) = false := by rw [htm]; exact beq_eq_false_iff_ne.2 (by omega)
              clear htm
              have HRound : Aside0 (∃ (jj : Nat) (ow1 : Own) (v1 vo1 : Value) (es : List Ent), 1 ≤ jj ∧ jj ≤ 33 ∧ (Value.int .i64 ((j : Int) + 1)) = .int .i64 jj ∧ Aside0 (Gs 2 (othB vB vBo eB aB used) W w5 g off ow ow1 (bkC vB vBo aB v1 vo1 aW turn done used) ∧ Gr 2 34 36 elW w5 ow1 v1 vo1 es N0 i (.slice (some ⟨g5, 0, none⟩) (n + 1) c5) m (n0 + (jj - 1)) (pcnt jj) used)) := ⟨by
                refine ⟨j + 1, ow5, _, _, es1, by omega, by omega, by rw [Int.natCast_succ], ⟨HR5.out.2, ?_⟩⟩
                have e1 : n0 + (j + 1 - 1) = n + 1 := by have := HN.out; omega
                rw [e1, pcnt_no hj1 (by omega)]
                exact HR5.out.1⟩
              clear HR5
              go_wp2_with fail
              exact ⟨HRound.out, by simp only [intOf]; omega⟩
        · obtain rfl : j = 33 := by omega
          obtain ⟨b1, b2, b3⟩ := HR.out.2.finish (pcnt_le (by omega))
          have HN := Aside0.mk (And.intro (HR.out.1.retag (othB_ok _ _ _ _ _) b2 b3) b1)
          clear b1 b2 b3 HR hjl
          go_wp2_with fail
          exact ⟨⟨i + 1, _, _, _, _, by omega, by rw [Int.natCast_succ], HN⟩, by simp only [intOf]; omega⟩
    · obtain rfl : i = N0 := by omega
      obtain ⟨A1, c1, hv1⟩ := HG.out.2.tab.slice
      rw [vsOf_len] at hv1
      subst hv1
      have hx0 : wr.cell? ⟨g, off + 6, none⟩ = some (.slice A1 es.length c1) := HG.out.1.hd.cell 6 (by omega)
      have hx2 : wr.cell? ⟨g, off + 8, none⟩ = some (.int .i64 (aW : Int)) := HG.out.1.hd.cell 8 (by omega)
      obtain ⟨cur, T, hbk⟩ := HG.out.1.hd.blk
      have hfz := blk_frozen hbk (off + 8)
      have HE := Aside0.mk (HG.out.1.store (othB_ok _ _ _ _ _) 8 (by omega) (.int .i64 (es.length : Int)) (c' := bkC vB vBo aB (.slice A1 es.length c1) vo1 es.length turn done used) (fun i hi => by
        unfold putC bkC
        by_cases h1 : i = 8
        · subst h1; simp
        · simp [h1]))
      have HT := Aside0.mk (Tg.done (HG.out.2.moveU (put_upd wr g (off + 8) (.int .i64 (es.length : Int))) (fun b hb e => by have e : b = g := e; subst e; exact hb HG.out.1.ng)))
      clear HG hlt
      go_wp2_with fail
      go_end0
      exact ⟨rfl, ow1, _, vo1, es, ⟨HE.out.hd, HE.out.oth, HT.out, HE.out.lt, HE.out.ng, HUS.out⟩, HE.out.bks⟩
end Go.Proofs.Ytgjcffjicbmkhaa.BokI
end

section
namespace Go.Proofs.Ytgjcffjicbmkhaa.BokH
open Go Go.RowKit Go.Proofs.YtgjcffjicbmkhaaW.PrintWords Go.Proofs.YtgjcffjicbmkhaaW.PrintLast Go.Proofs.YtgjcffjicbmkhaaW.PrintMore Go.Proofs.Ytgjcffjicbmkhaa.PF Go.Proofs.Ytgjcffjicbmkhaa.RowU Go.Proofs.Ytgjcffjicbmkhaa.ArS Go.Proofs.Ytgjcffjicbmkhaa.ArM Go.Proofs.Ytgjcffjicbmkhaa.GenM Go.Proofs.Ytgjcffjicbmkhaa.GenN Go.Proofs.Ytgjcffjicbmkhaa.BokA Go.Proofs.Ytgjcffjicbmkhaa.BokT Go.Proofs.Ytgjcffjicbmkhaa.BokB Go.Proofs.Ytgjcffjicbmkhaa.BokE Go.Proofs.Ytgjcffjicbmkhaa.BokG Go.Proofs.Ytgjcffjicbmkhaa.BokS
set_option linter.unusedVariables false
set_option maxRecDepth 100000
def othW (vW vWo : Value) (eW : List Ent) (aW U : Nat) : World → Own → Prop := fun w ow => Tb 2 34 36 elW w ow vW vWo eW aW U
theorem othW_ok (vW vWo : Value) (eW : List Ent) (aW U : Nat) : OthOk 0 (othW vW vWo eW aW U) := oth_W vW vWo eW aW U
set_option maxHeartbeats 8000000 in
theorem growBytes.calls {W : World} {g off : Nat} {ow : Own} {vB vBo : Value} {eB : List Ent} {aB : Nat} {vW vWo : Value} {eW : List Ent} {aW turn done used : Nat} (h : Bk W g off ow vB vBo eB aB vW vWo eW aW turn done used) :
    Calls Try.prog 70 #[.pointer (some ⟨g, off, none⟩)] W fun e w' => e = .returned (.tuple #[]) ∧ ∃ ow' vB' vBo' eB', Bk w' g off ow' vB' vBo' eB' eB'.length vW vWo eW aW turn done used ∧ BkS W w' g off ow ow' nix := by
  have HG0 : Aside0 (Gs 0 (othW vW vWo eW aW used) W W g off ow ow (bkC vB vBo aB vW vWo aW turn done used) ∧ Tg 0 67 5 elB W ow vB vBo eB eB.length aB used) := ⟨⟨h.hd, h.tW, h.lt, h.ng, BkS.refl _ _ _ _ _⟩, Tg.start h.tB⟩
  have HUS := Aside0.mk h.us
  obtain ⟨A0, c0, hvB⟩ := h.tB.tab.slice
  rw [vsOf_len] at hvB
  have HL : Aside0 (eB.length ≤ 140000) := ⟨cnt_fit h.tB h.us⟩
  have hlen := HL.out
  obtain ⟨N0, hN0⟩ : ∃ N0, N0 = eB.length := ⟨_, rfl⟩
  rw [← hN0] at hvB HG0 hlen
  have haN : aB ≤ N0 := by rw [hN0]; exact h.tB.al
  subst hvB
  have hx0 : W.cell? ⟨g, off, none⟩ = some (.slice A0 N0 c0) := h.hd.cell 0 (by omega)
  have hx2 : W.cell? ⟨g, off + 2, none⟩ = some (.int .i64 (aB : Int)) := h.hd.cell 2 (by omega)
  clear h hN0 HL
  go_enter Try.func70, Try.ntmps70
  go_wp2_with fail
  clear hx0 hx2
  go_loopw [3] (fun i wr => ∃ (k : Nat) (ow1 : Own) (v1 vo1 : Value) (es : List Ent), k ≤ N0 ∧ i = .int .i64 k ∧ Aside0 (Gs 0 (othW vW vWo eW aW used) W wr g off ow ow1 (bkC v1 vo1 aB vW vWo aW turn done used) ∧ Tg 0 67 5 elB wr ow1 v1 vo1 es N0 k used)) (fun i _ => N0 - (intOf i).toNat)
  case atStart => exact ⟨aB, ow, _, vBo, eB, haN, rfl, HG0⟩
  case round =>
    obtain ⟨i, ow1, v1, vo1, es, hi, rfl, HG⟩ := hrel
    clear HG0
    rename World => wr
    by_cases hlt : i < N0
    · have hlt' : (i : Int) < N0 := by omega
      have hi0 : (0 : Int) ≤ (i : Int) := by omega
      have hil : i < es.length := Nat.lt_of_lt_of_le hlt HG.out.2.nl
      obtain ⟨⟨ve, m, n0⟩, he⟩ : ∃ e, es[i]? = some e := ⟨_, List.getElem?_eq_getElem hil⟩
      obtain ⟨gt, ct, e1, c1⟩ := HG.out.2.tab.get i _ (vsOf_get he)
      obtain ⟨go, co, e2, c2⟩ := HG.out.2.of_.get i _ (msOf_get he)
      rw [vsOf_len] at e1
      rw [msOf_len] at e2
      subst e1 e2
      have hil' : (i : Int) < es.length := by omega
      obtain ⟨b1, b2, b3, b4⟩ := HG.out.2.begin_ hlt he
      have HB := Aside0.mk (And.intro (HG.out.1.retag (othW_ok _ _ _ _ _) b2 b3) (And.intro b1 b4))
      have hx0 : wr.cell? ⟨g, off, none⟩ = some (.slice (some ⟨gt, 0, none⟩) es.length ct) := HG.out.1.hd.cell 0 (by omega)
      have hx1 : wr.cell? ⟨g, off + 1, none⟩ = some (.slice (some ⟨go, 0, none⟩) es.length co) := HG.out.1.hd.cell 1 (by omega)
      have hm : m ≤ 1000000000000000 := b1.mb
      have hn0 : n0 ≤ 5900000 := b4
      clear b1 b2 b3 b4 he HG hil
      go_wp2_with fail
      clear hx0 hx1 c1 c2
      generalize ow1.put ve (0, 3) = ow2 at *
      go_loopw [4, 6] (fun v x wr => ∃ (j : Nat) (ow1 : Own) (v1 vo1 : Value) (es : List Ent), 1 ≤ j ∧ j ≤ 97 ∧ x = .int .i64 j ∧ Aside0 (Gs 0 (othW vW vWo eW aW used) W wr g off ow ow1 (bkC v1 vo1 aB vW vWo aW turn done used) ∧ Gr 0 67 5 elB wr ow1 v1 vo1 es N0 i v m (n0 + (j - 1)) (pcnt j) used)) (fun _ x _ => 97 - (intOf x).toNat)
      case atStart => exact ⟨1, ow2, _, _, es, by omega, by omega, rfl, ⟨HB.out.1, HB.out.2.1⟩⟩
      case round =>
        obtain ⟨j, ow3, v1, vo1, es1, hj1, hj2, rfl, HR⟩ := hrel
        clear HB
        rename World => wk
        obtain ⟨Ac, cc, hv4⟩ := HR.out.2.cur.slice
        rw [mkL_len] at hv4
        subst hv4
        by_cases hjl : j ≤ 96
        · have hjl' : (j : Int) ≤ 96 := by omega
          obtain ⟨n, hn⟩ : ∃ n, n = n0 + (j - 1) := ⟨_, rfl⟩
          rw [← hn] at HR ⊢
          have HN := Aside0.mk hn
          have hn6 : n ≤ 5999999 := by omega
          have HAt := Aside0.mk (at_all m n hm (by omega) wk)
          simp only [elB] at HAt
          clear hn
          go_wp2_with fail
          refine HAt.out.mono ?_
          rintro e w2 ⟨rfl, hb⟩
          have HR2 : Aside0 (Gs 0 (othW vW vWo eW aW used) W w2 g off ow ow3 (bkC v1 vo1 aB vW vWo aW turn done used) ∧ Gr 0 67 5 elB w2 ow3 v1 vo1 es1 N0 i (.slice Ac n cc) m n (pcnt j) used) := ⟨HR.out.1.below (othW_ok _ _ _ _ _) hb, HR.out.2.moveU (S := none_) (Upd.of_below hb) (fun _ _ h => h)⟩
          clear hb HAt HR
          go_upto_region 10 with ((with_reducible refine gate_builtin (b := .append) (xs := #[.tmp 39, .tmp 44]) rfl ?_); at_builtin; refine wpList_gen2 _ rfl (.tmp 39) (.tmp 44) 67 5 rfl Try.underlying67 (.int .u8 0) 1 (by kernel_rfl) rfl (by decide) (.slice Ac n cc) (mkL elB m n) rfl ?hv ⟨w2.heap.size, 0, none⟩ (.int .u8 (atN m n : Int)) rfl ?hc rfl ?hb ?_; (case hv => exact HR2.out.2.cur.upd (S := none_) (Upd.of_below (below_alloc (Below.refl _ _) _)) (fun _ _ h => h)); (case hc => exact cell_one_new _ _ _ 0 _ rfl); (case hb => rw [mkL_len]; omega); intro v5 w5 hr5; obtain ⟨g5, c5, rfl⟩ := hr5.form; have R5 := Aside0.mk hr5; clear hr5)
          have HG5 := Aside0.mk (gs_grow (othW_ok _ _ _ _ _) HR2.out.1 HR2.out.2 (below_alloc (Below.refl _ _) _) R5.out)
          clear R5 HR2
          rw [mkL_len]
          obtain ⟨ow5, HG5'⟩ := HG5.out
          rw [mkL_len] at HG5'
          have HR5 := Aside0.mk HG5'
          clear HG5 HG5'
          have htm : Int.tmod (j : Int) 16 = ((j % 16 : Nat) : Int) := by rw [Int.tmod_eq_emod_of_nonneg (by omega)]; omega
          by_cases hj4 : j < 4
          · have hj4' : (j : Int) < 4 := by omega
            clear htm
            obtain ⟨c1, hc1⟩ : ∃ c1, c1 = bkC v1 vo1 aB vW vWo aW turn done used := ⟨_, rfl⟩
            have hx0 : w5.cell? ⟨g, off, none⟩ = some v1 := HR5.out.2.hd.cell 0 (by omega)
            have HE1 : Aside0 (es1.length ≤ 150000) := ⟨by have h1 := HR5.out.1.bnd; have h2 := HR5.out.1.nl; have h3 := HR5.out.1.iN; have h4 := HUS.out; have h5 := pcnt_le (x := j) (by omega); omega⟩
            go_upto_region 12 with ((with_reducible refine gate_builtin (b := .append) (xs := #[.tmp 57, .tmp 59]) rfl ?_); at_builtin; refine wpList_gen2 _ rfl (.tmp 57) (.tmp 59) 89 67 rfl Try.underlying89 (.slice none 0 0) 24 (by kernel_rfl) rfl (by decide) v1 (vsOf es1) rfl ?hv ⟨w5.heap.size, 0, none⟩ (.slice (some ⟨g5, 0, none⟩) (n + 1) c5) rfl ?hc rfl ?hb ?_; (case hv => exact HR5.out.1.tab.upd (S := none_) (Upd.of_below (below_alloc (Below.refl _ _) _)) (fun _ _ h => h)); (case hc => exact cell_one_new _ _ _ 0 _ rfl); (case hb => rw [vsOf_len]; have := HE1.out; omega); intro v7 w7 hr7; obtain ⟨g7, c7, rfl⟩ := hr7.form; have R7 := Aside0.mk hr7; clear hr7 hx0; have H7 : Aside0 (Hd w7 g off (bkC v1 vo1 aB vW vWo aW turn done used)) := ⟨hd_grew (Tt := 0) (Te := 0) (el := elB) HR5.out.2.hd HR5.out.2.ng HR5.out.1.tabT (below_alloc (Below.refl _ _) _) R7.out⟩; have hx0 : w7.cell? ⟨g, off, none⟩ = some v1 := H7.out.cell 0 (by omega); obtain ⟨cur7, T7, hbk⟩ := H7.out.blk; have hfz := blk_frozen hbk off)
            clear hbk hfz hx0
            obtain ⟨w8, hw8⟩ : ∃ w8, w8 = w7.setCell ⟨g, off, none⟩ (.slice (some ⟨g7, 0, none⟩) ((vsOf es1).length + 1) c7) := ⟨_, rfl⟩
            rw [← hw8]
            have H8 : Aside0 (Hd w8 g off (putC (bkC v1 vo1 aB vW vWo aW turn done used) 0 (.slice (some ⟨g7, 0, none⟩) ((vsOf es1).length + 1) c7))) := ⟨by rw [hw8]; exact H7.out.put 0 (by omega) _⟩
            have HO8 : Aside0 (GV 3 w8 vo1 (msOf es1)) := ⟨by
              have u : Upd (fun b => v1.ownBlock = some b ∨ b = g) w5 w8 := by
                rw [hw8]
                exact ((Upd.of_below (below_alloc (Below.refl _ _) _)).trans (R7.out.upd.mono (fun b hb => .inl hb))).trans ((put_upd _ _ _ _).mono (fun b hb => .inr hb))
              refine HR5.out.1.of_.upd u (fun b hb => ?_)
              have h1 := HR5.out.1.ofT b hb
              rintro (h2 | rfl)
              · have h3 := HR5.out.1.tabT b h2
                rw [h1] at h3; simp at h3
              · rw [HR5.out.2.ng] at h1; cases h1⟩
            have HW8 := Aside0.mk hw8
            clear hw8
            have hx1 : w8.cell? ⟨g, off + 1, none⟩ = some vo1 := H8.out.cell 1 (by omega)
            go_upto_region 8 with ((with_reducible refine gate_builtin (b := .append) (xs := #[.tmp 67, .tmp 69]) rfl ?_); at_builtin; refine wpList_gen2 _ rfl (.tmp 67) (.tmp 69) 30 3 rfl Try.underlying30 (.int .i64 0) 8 (by kernel_rfl) rfl (by decide) vo1 (msOf es1) rfl ?hv ⟨w8.heap.size, 0, none⟩ (.int .i64 (m : Int)) rfl ?hc rfl ?hb ?_; (case hv => exact HO8.out.upd (S := none_) (Upd.of_below (below_alloc (Below.refl _ _) _)) (fun _ _ h => h)); (case hc => exact cell_one_new _ _ _ 0 _ rfl); (case hb => rw [msOf_len]; have := HE1.out; omega); intro v9 w9 hr9; obtain ⟨g9, c9, rfl⟩ := hr9.form; have R9 := Aside0.mk hr9; clear hr9 hx1; have H9 : Aside0 (Hd w9 g off (putC (bkC v1 vo1 aB vW vWo aW turn done used) 0 (.slice (some ⟨g7, 0, none⟩) ((vsOf es1).length + 1) c7))) := ⟨hd_grew (Tt := 0) (Te := 0) (el := elB) H8.out HR5.out.2.ng HR5.out.1.ofT (below_alloc (Below.refl _ _) _) R9.out⟩; have hx1 : w9.cell? ⟨g, off + 1, none⟩ = some vo1 := H9.out.cell 1 (by omega); obtain ⟨cur9, T9, hbk⟩ := H9.out.blk; have hfz := blk_frozen hbk (off + 1))
            clear hbk hfz hx1
            have HP := Aside0.mk (gs_push (othW_ok _ _ _ _ _) HR5.out.2 HR5.out.1 (by omega) (below_alloc (Below.refl _ _) _) R7.out (by omega) HW8.out (below_alloc (Below.refl _ _) _) R9.out (j0 := 0) (j1 := 1) (by omega) rfl (c' := bkC (.slice (some ⟨g7, 0, none⟩) ((vsOf es1).length + 1) c7) (.slice (some ⟨g9, 0, none⟩) ((msOf es1).length + 1) c9) aB vW vWo aW turn done used) (fun i hi => by
              unfold putC bkC
              by_cases h1 : i = 1
              · subst h1; simp
              · by_cases h0 : i = 0
                · subst h0; simp
                · simp [h1, h0]))
            have HRound : Aside0 (∃ (jj : Nat) (ow1 : Own) (v1 vo1 : Value) (es : List Ent), 1 ≤ jj ∧ jj ≤ 97 ∧ (Value.int .i64 ((j : Int) + 1)) = .int .i64 jj ∧ Aside0 (Gs 0 (othW vW vWo eW aW used) W (w9.setCell ⟨g, off + 1, none⟩ (.slice (some ⟨g9, 0, none⟩) ((msOf es1).length + 1) c9)) g off ow ow1 (bkC v1 vo1 aB vW vWo aW turn done used) ∧ Gr 0 67 5 elB (w9.setCell ⟨g, off + 1, none⟩ (.slice (some ⟨g9, 0, none⟩) ((msOf es1).length + 1) c9)) ow1 v1 vo1 es N0 i (.slice (some ⟨g5, 0, none⟩) (n + 1) c5) m (n0 + (jj - 1)) (pcnt jj) used)) := ⟨by
              obtain ⟨ow9, q1, q2⟩ := HP.out
              refine ⟨j + 1, ow9, _, _, es1 ++ [⟨.slice (some ⟨g5, 0, none⟩) (n + 1) c5, m, n + 1⟩], by omega, by omega, by rw [Int.natCast_succ], ⟨q2, ?_⟩⟩
              have e1 : n0 + (j + 1 - 1) = n + 1 := by have := HN.out; omega
              rw [e1, pcnt_yes hj1 (.inl hj4)]
              exact q1⟩
            clear R7 R9 H7 H8 H9 HO8 HW8 HP HR5 hc1
            go_wp2_with fail
            exact ⟨HRound.out, by simp only [intOf]; omega⟩
          · have hj4' : ¬ ((j : Int) < 4) := by omega
            by_cases h16 : j % 16 = 0
            · have htm' : Int.tmod (j : Int) 16 = 0 := by rw [htm, h16]; rfl
              clear htm
              obtain ⟨c1, hc1⟩ : ∃ c1, c1 = bkC v1 vo1 aB vW vWo aW turn done used := ⟨_, rfl⟩
              have hx0 : w5.cell? ⟨g, off, none⟩ = some v1 := HR5.out.2.hd.cell 0 (by omega)
              have HE1 : Aside0 (es1.length ≤ 150000) := ⟨by have h1 := HR5.out.1.bnd; have h2 := HR5.out.1.nl; have h3 := HR5.out.1.iN; have h4 := HUS.out; have h5 := pcnt_le (x := j) (by omega); omega⟩
              go_upto_region 12 with ((with_reducible refine gate_builtin (b := .append) (xs := #[.tmp 57, .tmp 59]) rfl ?_); at_builtin; refine wpList_gen2 _ rfl (.tmp 57) (.tmp 59) 89 67 rfl Try.underlying89 (.slice none 0 0) 24 (by kernel_rfl) rfl (by decide) v1 (vsOf es1) rfl ?hv ⟨w5.heap.size, 0, none⟩ (.slice (some ⟨g5, 0, none⟩) (n + 1) c5) rfl ?hc rfl ?hb ?_; (case hv => exact HR5.out.1.tab.upd (S := none_) (Upd.of_below (below_alloc (Below.refl _ _) _)) (fun _ _ h => h)); (case hc => exact cell_one_new _ _ _ 0 _ rfl); (case hb => rw [vsOf_len]; have := HE1.out; omega); intro v7 w7 hr7; obtain ⟨g7, c7, rfl⟩ := hr7.form; have R7 := Aside0.mk hr7; clear hr7 hx0; have H7 : Aside0 (Hd w7 g off (bkC v1 vo1 aB vW vWo aW turn done used)) := ⟨hd_grew (Tt := 0) (Te := 0) (el := elB) HR5.out.2.hd HR5.out.2.ng HR5.out.1.tabT (below_alloc (Below.refl _ _) _) R7.out⟩; have hx0 : w7.cell? ⟨g, off, none⟩ = some v1 := H7.out.cell 0 (by omega); obtain ⟨cur7, T7, hbk⟩ := H7.out.blk; have hfz := blk_frozen hbk off)
              clear hbk hfz hx0
              obtain ⟨w8, hw8⟩ : ∃ w8, w8 = w7.setCell ⟨g, off, none⟩ (.slice (some ⟨g7, 0, none⟩) ((vsOf es1).length + 1) c7) := ⟨_, rfl⟩
              rw [← hw8]
              have H8 : Aside0 (Hd w8 g off (putC (bkC v1 vo1 aB vW vWo aW turn done used) 0 (.slice (some ⟨g7, 0, none⟩) ((vsOf es1).length + 1) c7))) := ⟨by rw [hw8]; exact H7.out.put 0 (by omega) _⟩
              have HO8 : Aside0 (GV 3 w8 vo1 (msOf es1)) := ⟨by
                have u : Upd (fun b => v1.ownBlock = some b ∨ b = g) w5 w8 := by
                  rw [hw8]
                  exact ((Upd.of_below (below_alloc (Below.refl _ _) _)).trans (R7.out.upd.mono (fun b hb => .inl hb))).trans ((put_upd _ _ _ _).mono (fun b hb => .inr hb))
                refine HR5.out.1.of_.upd u (fun b hb => ?_)
                have h1 := HR5.out.1.ofT b hb
                rintro (h2 | rfl)
                · have h3 := HR5.out.1.tabT b h2
                  rw [h1] at h3; simp at h3
                · rw [HR5.out.2.ng] at h1; cases h1⟩
              have HW8 := Aside0.mk hw8
              clear hw8
              have hx1 : w8.cell? ⟨g, off + 1, none⟩ = some vo1 := H8.out.cell 1 (by omega)
              go_upto_region 8 with ((with_reducible refine gate_builtin (b := .append) (xs := #[.tmp 67, .tmp 69]) rfl ?_); at_builtin; refine wpList_gen2 _ rfl (.tmp 67) (.tmp 69) 30 3 rfl Try.underlying30 (.int .i64 0) 8 (by kernel_rfl) rfl (by decide) vo1 (msOf es1) rfl ?hv ⟨w8.heap.size, 0, none⟩ (.int .i64 (m : Int)) rfl ?hc rfl ?hb ?_; (case hv => exact HO8.out.upd (S := none_) (Upd.of_below (below_alloc (Below.refl _ _) _)) (fun _ _ h => h)); (case hc => exact cell_one_new _ _ _ 0 _ rfl); (case hb => rw [msOf_len]; have := HE1.out; omega); intro v9 w9 hr9; obtain ⟨g9, c9, rfl⟩ := hr9.form; have R9 := Aside0.mk hr9; clear hr9 hx1; have H9 : Aside0 (Hd w9 g off (putC (bkC v1 vo1 aB vW vWo aW turn done used) 0 (.slice (some ⟨g7, 0, none⟩) ((vsOf es1).length + 1) c7))) := ⟨hd_grew (Tt := 0) (Te := 0) (el := elB) H8.out HR5.out.2.ng HR5.out.1.ofT (below_alloc (Below.refl _ _) _) R9.out⟩; have hx1 : w9.cell? ⟨g, off + 1, none⟩ = some vo1 := H9.out.cell 1 (by omega); obtain ⟨cur9, T9, hbk⟩ := H9.out.blk; have hfz := blk_frozen hbk (off + 1))
              clear hbk hfz hx1
              have HP := Aside0.mk (gs_push (othW_ok _ _ _ _ _) HR5.out.2 HR5.out.1 (by omega) (below_alloc (Below.refl _ _) _) R7.out (by omega) HW8.out (below_alloc (Below.refl _ _) _) R9.out (j0 := 0) (j1 := 1) (by omega) rfl (c' := bkC (.slice (some ⟨g7, 0, none⟩) ((vsOf es1).length + 1) c7) (.slice (some ⟨g9, 0, none⟩) ((msOf es1).length + 1) c9) aB vW vWo aW turn done used) (fun i hi => by
                unfold putC bkC
                by_cases h1 : i = 1
                · subst h1; simp
                · by_cases h0 : i = 0
                  · subst h0; simp
                  · simp [h1, h0]))
              have HRound : Aside0 (∃ (jj : Nat) (ow1 : Own) (v1 vo1 : Value) (es : List Ent), 1 ≤ jj ∧ jj ≤ 97 ∧ (Value.int .i64 ((j : Int) + 1)) = .int .i64 jj ∧ Aside0 (Gs 0 (othW vW vWo eW aW used) W (w9.setCell ⟨g, off + 1, none⟩ (.slice (some ⟨g9, 0, none⟩) ((msOf es1).length + 1) c9)) g off ow ow1 (bkC v1 vo1 aB vW vWo aW turn done used) ∧ Gr 0 67 5 elB (w9.setCell ⟨g, off + 1, none⟩ (.slice (some ⟨g9, 0, none⟩) ((msOf es1).length + 1) c9)) ow1 v1 vo1 es N0 i (.slice (some ⟨g5, 0, none⟩) (n + 1) c5) m (n0 + (jj - 1)) (pcnt jj) used)) := ⟨by
                obtain ⟨ow9, q1, q2⟩ := HP.out
                refine ⟨j + 1, ow9, _, _, es1 ++ [⟨.slice (some ⟨g5, 0, none⟩) (n + 1) c5, m, n + 1⟩], by omega, by omega, by rw [Int.natCast_succ], ⟨q2, ?_⟩⟩
                have e1 : n0 + (j + 1 - 1) = n + 1 := by have := HN.out; omega
                rw [e1, pcnt_yes hj1 (.inr h16)]
                exact q1⟩
              clear R7 R9 H7 H8 H9 HO8 HW8 HP HR5 hc1
              go_wp2_with fail
              exact ⟨HRound.out, by simp only [intOf]; omega⟩
            · have htm' : (Int.tmod (j : Int) 16 == 0) = false := by rw [htm]; exact beq_eq_false_iff_ne.2 (by omega)
              clear htm
              have HRound : Aside0 (∃ (jj : Nat) (ow1 : Own) (v1 vo1 : Value) (es : List Ent), 1 ≤ jj ∧ jj ≤ 97 ∧ (Value.int .i64 ((j : Int) + 1)) = .int .i64 jj ∧ Aside0 (Gs 0 (othW vW vWo eW aW used) W w5 g off ow ow1 (bkC v1 vo1 aB vW vWo aW turn done used) ∧ Gr 0 67 5 elB w5 ow1 v1 vo1 es N0 i (.slice (some ⟨g5, 0, none⟩) (n + 1) c5) m (n0 + (jj - 1)) (pcnt jj) used)) := ⟨by
                refine ⟨j + 1, ow5, _, _, es1, by omega, by omega, by rw [Int.natCast_succ], ⟨HR5.out.2, ?_⟩⟩
                have e1 : n0 + (j + 1 - 1) = n + 1 := by have := HN.out; omega
                rw [e1, pcnt_no hj1 (by omega)]
                exact HR5.out.1⟩
              clear HR5
              go_wp2_with fail
              exact ⟨HRound.out, by simp only [intOf]; omega⟩
        · obtain rfl : j = 97 := by omega
          obtain ⟨b1, b2, b3⟩ := HR.out.2.finish (pcnt_le (by omega))
          have HN := Aside0.mk (And.intro (HR.out.1.retag (othW_ok _ _ _ _ _) b2 b3) b1)
          clear b1 b2 b3 HR hjl
          go_wp2_with fail
          exact ⟨⟨i + 1, _, _, _, _, by omega, by rw [Int.natCast_succ], HN⟩, by simp only [intOf]; omega⟩
    · obtain rfl : i = N0 := by omega
      obtain ⟨A1, c1, hv1⟩ := HG.out.2.tab.slice
      rw [vsOf_len] at hv1
      subst hv1
      have hx0 : wr.cell? ⟨g, off, none⟩ = some (.slice A1 es.length c1) := HG.out.1.hd.cell 0 (by omega)
      have hx2 : wr.cell? ⟨g, off + 2, none⟩ = some (.int .i64 (aB : Int)) := HG.out.1.hd.cell 2 (by omega)
      obtain ⟨cur, T, hbk⟩ := HG.out.1.hd.blk
      have hfz := blk_frozen hbk (off + 2)
      have HE := Aside0.mk (HG.out.1.store (othW_ok _ _ _ _ _) 2 (by omega) (.int .i64 (es.length : Int)) (c' := bkC (.slice A1 es.length c1) vo1 es.length vW vWo aW turn done used) (fun i hi => by
        unfold putC bkC
        by_cases h1 : i = 2
        · subst h1; simp
        · simp [h1]))
      have HT := Aside0.mk (Tg.done (HG.out.2.moveU (put_upd wr g (off + 2) (.int .i64 (es.length : Int))) (fun b hb e => by have e : b = g := e; subst e; exact hb HG.out.1.ng)))
      clear HG hlt
      go_wp2_with fail
      go_end0
      exact ⟨rfl, ow1, _, vo1, es, ⟨HE.out.hd, HT.out, HE.out.oth, HE.out.lt, HE.out.ng, HUS.out⟩, HE.out.bks⟩
end Go.Proofs.Ytgjcffjicbmkhaa.BokH
end

section
namespace Go.Proofs.Ytgjcffjicbmkhaa.BokJ
open Go Go.RowKit Go.Proofs.YtgjcffjicbmkhaaW.PrintWords Go.Proofs.YtgjcffjicbmkhaaW.PrintLast Go.Proofs.YtgjcffjicbmkhaaW.PrintMore Go.Proofs.Ytgjcffjicbmkhaa.PF Go.Proofs.Ytgjcffjicbmkhaa.RowU Go.Proofs.Ytgjcffjicbmkhaa.ArS Go.Proofs.Ytgjcffjicbmkhaa.ArM Go.Proofs.Ytgjcffjicbmkhaa.GenM Go.Proofs.Ytgjcffjicbmkhaa.GenN Go.Proofs.Ytgjcffjicbmkhaa.BokA Go.Proofs.Ytgjcffjicbmkhaa.BokT Go.Proofs.Ytgjcffjicbmkhaa.BokB Go.Proofs.Ytgjcffjicbmkhaa.BokE Go.Proofs.Ytgjcffjicbmkhaa.BokF Go.Proofs.Ytgjcffjicbmkhaa.BokG Go.Proofs.Ytgjcffjicbmkhaa.BokS
set_option linter.unusedVariables false
set_option maxRecDepth 100000
theorem bk_store {W : World} {g off : Nat} {ow : Own} {vB vBo : Value} {eB : List Ent} {aB : Nat} {vW vWo : Value} {eW : List Ent} {aW turn done used : Nat} (h : Bk W g off ow vB vBo eB aB vW vWo eW aW turn done used) (j : Nat) (hj : j < 33) (v : Value) {done' : Nat} (hc : ∀ i, i < 33 → putC (bkC vB vBo aB vW vWo aW turn done used) j v i = bkC vB vBo aB vW vWo aW turn done' used i) :
    Bk (W.setCell ⟨g, off + j, none⟩ v) g off ow vB vBo eB aB vW vWo eW aW turn done' used ∧ BkS W (W.setCell ⟨g, off + j, none⟩ v) g off ow ow nix := by
  have hu := put_upd W g (off + j) v
  have hne : ∀ b, ow b ≠ none → ¬ (fun b => b = g) b := fun b hb e => by have e : b = g := e; subst e; exact hb h.ng
  exact ⟨⟨(h.hd.put j hj v).congr hc, h.tB.move hu (fun b t hb => hne b (by rw [hb]; simp)) (Own.le.refl _) (Nat.le_refl _), h.tW.move hu (fun b t hb => hne b (by rw [hb]; simp)) (Own.le.refl _) (Nat.le_refl _), fun b hb => Nat.lt_of_lt_of_le (h.lt b hb) hu.size, h.ng, h.us⟩, ⟨hu.mono (fun b hb => .inl hb), fun b hb => .inl hb, fun i hi => set_keep h.hd.blk (by omega)⟩⟩
set_option maxHeartbeats 4000000 in
theorem growRows.calls {W : World} {g off : Nat} {ow : Own} {vB vBo : Value} {eB : List Ent} {aB : Nat} {vW vWo : Value} {eW : List Ent} {aW turn done used : Nat} (h : Bk W g off ow vB vBo eB aB vW vWo eW aW turn done used) :
    Calls Try.prog 71 #[.pointer (some ⟨g, off, none⟩)] W fun e w' => e = .returned (.tuple #[]) ∧ Bk w' g off ow vB vBo eB aB vW vWo eW aW turn done used ∧ BkS W w' g off ow ow nix := by
  have HB := Aside0.mk h
  have HE := Aside0.mk (bk_store h 5 (by omega) (.int .i64 0) (done' := done) (fun i hi => by
    unfold putC
    by_cases h1 : i = 5
    · subst h1; rfl
    · rw [if_neg h1]))
  have hx0 : W.cell? ⟨g, off + 3, none⟩ = some (.slice none 0 0) := h.hd.cell 3 (by omega)
  have hx2 : W.cell? ⟨g, off + 5, none⟩ = some (.int .i64 0) := h.hd.cell 5 (by omega)
  obtain ⟨cur, T, hbk⟩ := h.hd.blk
  have hfz := blk_frozen hbk (off + 5)
  clear h
  go_enter Try.func71, Try.ntmps71
  go_wp2_with fail
  go_loopw [3] (fun i wr => i = .int .i64 0 ∧ Aside0 (wr = W)) (fun _ _ => 0)
  case atStart => exact ⟨rfl, ⟨rfl⟩⟩
  case round =>
    obtain ⟨rfl, H1⟩ := hrel
    have h1 := H1.out
    subst h1
    go_wp2_with fail
    go_end0
    exact ⟨rfl, HE.out.1, HE.out.2⟩
set_option maxHeartbeats 4000000 in
theorem growScored.calls {W : World} {g off : Nat} {ow : Own} {vB vBo : Value} {eB : List Ent} {aB : Nat} {vW vWo : Value} {eW : List Ent} {aW turn done used : Nat} (h : Bk W g off ow vB vBo eB aB vW vWo eW aW turn done used) :
    Calls Try.prog 73 #[.pointer (some ⟨g, off, none⟩)] W fun e w' => e = .returned (.tuple #[]) ∧ Bk w' g off ow vB vBo eB aB vW vWo eW aW turn done used ∧ BkS W w' g off ow ow nix := by
  have HB := Aside0.mk h
  have HE := Aside0.mk (bk_store h 11 (by omega) (.int .i64 0) (done' := done) (fun i hi => by
    unfold putC
    by_cases h1 : i = 11
    · subst h1; rfl
    · rw [if_neg h1]))
  have hx0 : W.cell? ⟨g, off + 9, none⟩ = some (.slice none 0 0) := h.hd.cell 9 (by omega)
  have hx2 : W.cell? ⟨g, off + 11, none⟩ = some (.int .i64 0) := h.hd.cell 11 (by omega)
  obtain ⟨cur, T, hbk⟩ := h.hd.blk
  have hfz := blk_frozen hbk (off + 11)
  clear h
  go_enter Try.func73, Try.ntmps73
  go_wp2_with fail
  go_loopw [3] (fun i wr => i = .int .i64 0 ∧ Aside0 (wr = W)) (fun _ _ => 0)
  case atStart => exact ⟨rfl, ⟨rfl⟩⟩
  case round =>
    obtain ⟨rfl, H1⟩ := hrel
    have h1 := H1.out
    subst h1
    go_wp2_with fail
    go_end0
    exact ⟨rfl, HE.out.1, HE.out.2⟩
set_option maxHeartbeats 4000000 in
theorem growPairs.calls {W : World} {g off : Nat} {ow : Own} {vB vBo : Value} {eB : List Ent} {aB : Nat} {vW vWo : Value} {eW : List Ent} {aW turn done used : Nat} (h : Bk W g off ow vB vBo eB aB vW vWo eW aW turn done used) :
    Calls Try.prog 74 #[.pointer (some ⟨g, off, none⟩)] W fun e w' => e = .returned (.tuple #[]) ∧ Bk w' g off ow vB vBo eB aB vW vWo eW aW turn done used ∧ BkS W w' g off ow ow nix := by
  have HB := Aside0.mk h
  have HE := Aside0.mk (bk_store h 14 (by omega) (.int .i64 0) (done' := done) (fun i hi => by
    unfold putC
    by_cases h1 : i = 14
    · subst h1; rfl
    · rw [if_neg h1]))
  have hx0 : W.cell? ⟨g, off + 12, none⟩ = some (.slice none 0 0) := h.hd.cell 12 (by omega)
  have hx2 : W.cell? ⟨g, off + 14, none⟩ = some (.int .i64 0) := h.hd.cell 14 (by omega)
  obtain ⟨cur, T, hbk⟩ := h.hd.blk
  have hfz := blk_frozen hbk (off + 14)
  clear h
  go_enter Try.func74, Try.ntmps74
  go_wp2_with fail
  go_loopw [3] (fun i wr => i = .int .i64 0 ∧ Aside0 (wr = W)) (fun _ _ => 0)
  case atStart => exact ⟨rfl, ⟨rfl⟩⟩
  case round =>
    obtain ⟨rfl, H1⟩ := hrel
    have h1 := H1.out
    subst h1
    go_wp2_with fail
    go_end0
    exact ⟨rfl, HE.out.1, HE.out.2⟩
set_option maxHeartbeats 4000000 in
theorem growRepl.calls {W : World} {g off : Nat} {ow : Own} {vB vBo : Value} {eB : List Ent} {aB : Nat} {vW vWo : Value} {eW : List Ent} {aW turn done used : Nat} (h : Bk W g off ow vB vBo eB aB vW vWo eW aW turn done used) :
    Calls Try.prog 75 #[.pointer (some ⟨g, off, none⟩)] W fun e w' => e = .returned (.tuple #[]) ∧ Bk w' g off ow vB vBo eB aB vW vWo eW aW turn done used ∧ BkS W w' g off ow ow nix := by
  have HB := Aside0.mk h
  have HE := Aside0.mk (bk_store h 17 (by omega) (.int .i64 0) (done' := done) (fun i hi => by
    unfold putC
    by_cases h1 : i = 17
    · subst h1; rfl
    · rw [if_neg h1]))
  have hx0 : W.cell? ⟨g, off + 15, none⟩ = some (.slice none 0 0) := h.hd.cell 15 (by omega)
  have hx2 : W.cell? ⟨g, off + 17, none⟩ = some (.int .i64 0) := h.hd.cell 17 (by omega)
  obtain ⟨cur, T, hbk⟩ := h.hd.blk
  have hfz := blk_frozen hbk (off + 17)
  clear h
  go_enter Try.func75, Try.ntmps75
  go_wp2_with fail
  go_loopw [3] (fun i wr => i = .int .i64 0 ∧ Aside0 (wr = W)) (fun _ _ => 0)
  case atStart => exact ⟨rfl, ⟨rfl⟩⟩
  case round =>
    obtain ⟨rfl, H1⟩ := hrel
    have h1 := H1.out
    subst h1
    go_wp2_with fail
    go_end0
    exact ⟨rfl, HE.out.1, HE.out.2⟩
set_option maxHeartbeats 4000000 in
theorem growPlaces.calls {W : World} {g off : Nat} {ow : Own} {vB vBo : Value} {eB : List Ent} {aB : Nat} {vW vWo : Value} {eW : List Ent} {aW turn done used : Nat} (h : Bk W g off ow vB vBo eB aB vW vWo eW aW turn done used) :
    Calls Try.prog 76 #[.pointer (some ⟨g, off, none⟩)] W fun e w' => e = .returned (.tuple #[]) ∧ Bk w' g off ow vB vBo eB aB vW vWo eW aW turn done used ∧ BkS W w' g off ow ow nix := by
  have HB := Aside0.mk h
  have HE := Aside0.mk (bk_store h 20 (by omega) (.int .i64 0) (done' := done) (fun i hi => by
    unfold putC
    by_cases h1 : i = 20
    · subst h1; rfl
    · rw [if_neg h1]))
  have hx0 : W.cell? ⟨g, off + 18, none⟩ = some (.slice none 0 0) := h.hd.cell 18 (by omega)
  have hx2 : W.cell? ⟨g, off + 20, none⟩ = some (.int .i64 0) := h.hd.cell 20 (by omega)
  obtain ⟨cur, T, hbk⟩ := h.hd.blk
  have hfz := blk_frozen hbk (off + 20)
  clear h
  go_enter Try.func76, Try.ntmps76
  go_wp2_with fail
  go_loopw [3] (fun i wr => i = .int .i64 0 ∧ Aside0 (wr = W)) (fun _ _ => 0)
  case atStart => exact ⟨rfl, ⟨rfl⟩⟩
  case round =>
    obtain ⟨rfl, H1⟩ := hrel
    have h1 := H1.out
    subst h1
    go_wp2_with fail
    go_end0
    exact ⟨rfl, HE.out.1, HE.out.2⟩
set_option maxHeartbeats 4000000 in
theorem growActs.calls {W : World} {g off : Nat} {ow : Own} {vB vBo : Value} {eB : List Ent} {aB : Nat} {vW vWo : Value} {eW : List Ent} {aW turn done used : Nat} (h : Bk W g off ow vB vBo eB aB vW vWo eW aW turn done used) :
    Calls Try.prog 77 #[.pointer (some ⟨g, off, none⟩)] W fun e w' => e = .returned (.tuple #[]) ∧ Bk w' g off ow vB vBo eB aB vW vWo eW aW turn done used ∧ BkS W w' g off ow ow nix := by
  have HB := Aside0.mk h
  have HE := Aside0.mk (bk_store h 23 (by omega) (.int .i64 0) (done' := done) (fun i hi => by
    unfold putC
    by_cases h1 : i = 23
    · subst h1; rfl
    · rw [if_neg h1]))
  have hx0 : W.cell? ⟨g, off + 21, none⟩ = some (.slice none 0 0) := h.hd.cell 21 (by omega)
  have hx2 : W.cell? ⟨g, off + 23, none⟩ = some (.int .i64 0) := h.hd.cell 23 (by omega)
  obtain ⟨cur, T, hbk⟩ := h.hd.blk
  have hfz := blk_frozen hbk (off + 23)
  clear h
  go_enter Try.func77, Try.ntmps77
  go_wp2_with fail
  go_loopw [3] (fun i wr => i = .int .i64 0 ∧ Aside0 (wr = W)) (fun _ _ => 0)
  case atStart => exact ⟨rfl, ⟨rfl⟩⟩
  case round =>
    obtain ⟨rfl, H1⟩ := hrel
    have h1 := H1.out
    subst h1
    go_wp2_with fail
    go_end0
    exact ⟨rfl, HE.out.1, HE.out.2⟩
set_option maxHeartbeats 4000000 in
theorem growEnts.calls {W : World} {g off : Nat} {ow : Own} {vB vBo : Value} {eB : List Ent} {aB : Nat} {vW vWo : Value} {eW : List Ent} {aW turn done used : Nat} (h : Bk W g off ow vB vBo eB aB vW vWo eW aW turn done used) :
    Calls Try.prog 78 #[.pointer (some ⟨g, off, none⟩)] W fun e w' => e = .returned (.tuple #[]) ∧ Bk w' g off ow vB vBo eB aB vW vWo eW aW turn done used ∧ BkS W w' g off ow ow nix := by
  have HB := Aside0.mk h
  have HE := Aside0.mk (bk_store h 26 (by omega) (.int .i64 0) (done' := done) (fun i hi => by
    unfold putC
    by_cases h1 : i = 26
    · subst h1; rfl
    · rw [if_neg h1]))
  have hx0 : W.cell? ⟨g, off + 24, none⟩ = some (.slice none 0 0) := h.hd.cell 24 (by omega)
  have hx2 : W.cell? ⟨g, off + 26, none⟩ = some (.int .i64 0) := h.hd.cell 26 (by omega)
  obtain ⟨cur, T, hbk⟩ := h.hd.blk
  have hfz := blk_frozen hbk (off + 26)
  clear h
  go_enter Try.func78, Try.ntmps78
  go_wp2_with fail
  go_loopw [3] (fun i wr => i = .int .i64 0 ∧ Aside0 (wr = W)) (fun _ _ => 0)
  case atStart => exact ⟨rfl, ⟨rfl⟩⟩
  case round =>
    obtain ⟨rfl, H1⟩ := hrel
    have h1 := H1.out
    subst h1
    go_wp2_with fail
    go_end0
    exact ⟨rfl, HE.out.1, HE.out.2⟩
set_option maxHeartbeats 4000000 in
theorem growCmds.calls {W : World} {g off : Nat} {ow : Own} {vB vBo : Value} {eB : List Ent} {aB : Nat} {vW vWo : Value} {eW : List Ent} {aW turn done used : Nat} (h : Bk W g off ow vB vBo eB aB vW vWo eW aW turn done used) :
    Calls Try.prog 79 #[.pointer (some ⟨g, off, none⟩)] W fun e w' => e = .returned (.tuple #[]) ∧ Bk w' g off ow vB vBo eB aB vW vWo eW aW turn done used ∧ BkS W w' g off ow ow nix := by
  have HB := Aside0.mk h
  have HE := Aside0.mk (bk_store h 29 (by omega) (.int .i64 0) (done' := done) (fun i hi => by
    unfold putC
    by_cases h1 : i = 29
    · subst h1; rfl
    · rw [if_neg h1]))
  have hx0 : W.cell? ⟨g, off + 27, none⟩ = some (.slice none 0 0) := h.hd.cell 27 (by omega)
  have hx2 : W.cell? ⟨g, off + 29, none⟩ = some (.int .i64 0) := h.hd.cell 29 (by omega)
  obtain ⟨cur, T, hbk⟩ := h.hd.blk
  have hfz := blk_frozen hbk (off + 29)
  clear h
  go_enter Try.func79, Try.ntmps79
  go_wp2_with fail
  go_loopw [3] (fun i wr => i = .int .i64 0 ∧ Aside0 (wr = W)) (fun _ _ => 0)
  case atStart => exact ⟨rfl, ⟨rfl⟩⟩
  case round =>
    obtain ⟨rfl, H1⟩ := hrel
    have h1 := H1.out
    subst h1
    go_wp2_with fail
    go_end0
    exact ⟨rfl, HE.out.1, HE.out.2⟩
set_option maxHeartbeats 8000000 in
theorem grow.calls {W : World} {g off : Nat} {ow : Own} {vB vBo : Value} {eB : List Ent} {aB : Nat} {vW vWo : Value} {eW : List Ent} {aW turn done used : Nat} (h : Bk W g off ow vB vBo eB aB vW vWo eW aW turn done used) :
    Calls Try.prog 50 #[.pointer (some ⟨g, off, none⟩)] W fun e w' => e = .returned (.tuple #[]) ∧ ∃ ow' vB' vBo' eB' vW' vWo' eW', Bk w' g off ow' vB' vBo' eB' eB'.length vW' vWo' eW' eW'.length turn turn used ∧ BkS W w' g off ow ow' nix := by
  have HB := Aside0.mk h
  clear h
  go_enter Try.func50, Try.ntmps50
  go_wp2_with fail
  refine (BokH.growBytes.calls HB.out).mono ?_
  rintro e w1 ⟨rfl, ow1, vB1, vBo1, eB1, hB, hS⟩
  have H1 := Aside0.mk (And.intro hB hS)
  clear hB hS
  go_wp2_with fail
  refine (growRows.calls H1.out.1).mono ?_
  rintro e w2 ⟨rfl, hB, hS⟩
  have H2 := Aside0.mk (And.intro hB (H1.out.2.trans hS (fun b hb => hb.elim)))
  clear hB hS H1
  go_wp2_with fail
  refine (BokI.growWords.calls H2.out.1).mono ?_
  rintro e w3 ⟨rfl, ow3, vW3, vWo3, eW3, hB, hS⟩
  have H3 := Aside0.mk (And.intro hB (H2.out.2.trans hS (fun b hb => hb.elim)))
  clear hB hS H2
  go_wp2_with fail
  refine (growScored.calls H3.out.1).mono ?_
  rintro e w4 ⟨rfl, hB, hS⟩
  have H4 := Aside0.mk (And.intro hB (H3.out.2.trans hS (fun b hb => hb.elim)))
  clear hB hS H3
  go_wp2_with fail
  refine (growPairs.calls H4.out.1).mono ?_
  rintro e w5 ⟨rfl, hB, hS⟩
  have H5 := Aside0.mk (And.intro hB (H4.out.2.trans hS (fun b hb => hb.elim)))
  clear hB hS H4
  go_wp2_with fail
  refine (growRepl.calls H5.out.1).mono ?_
  rintro e w6 ⟨rfl, hB, hS⟩
  have H6 := Aside0.mk (And.intro hB (H5.out.2.trans hS (fun b hb => hb.elim)))
  clear hB hS H5
  go_wp2_with fail
  refine (growPlaces.calls H6.out.1).mono ?_
  rintro e w7 ⟨rfl, hB, hS⟩
  have H7 := Aside0.mk (And.intro hB (H6.out.2.trans hS (fun b hb => hb.elim)))
  clear hB hS H6
  go_wp2_with fail
  refine (growActs.calls H7.out.1).mono ?_
  rintro e w8 ⟨rfl, hB, hS⟩
  have H8 := Aside0.mk (And.intro hB (H7.out.2.trans hS (fun b hb => hb.elim)))
  clear hB hS H7
  go_wp2_with fail
  refine (growEnts.calls H8.out.1).mono ?_
  rintro e w9 ⟨rfl, hB, hS⟩
  have H9 := Aside0.mk (And.intro hB (H8.out.2.trans hS (fun b hb => hb.elim)))
  clear hB hS H8
  go_wp2_with fail
  refine (growCmds.calls H9.out.1).mono ?_
  rintro e w10 ⟨rfl, hB, hS⟩
  have H10 := Aside0.mk (And.intro hB (H9.out.2.trans hS (fun b hb => hb.elim)))
  clear hB hS H9
  have hx0 : w10.cell? ⟨g, off + 30, none⟩ = some (.int .i64 (turn : Int)) := H10.out.1.hd.cell 30 (by omega)
  have hx2 : w10.cell? ⟨g, off + 31, none⟩ = some (.int .i64 (done : Int)) := H10.out.1.hd.cell 31 (by omega)
  obtain ⟨cur, T, hbk⟩ := H10.out.1.hd.blk
  have hfz := blk_frozen hbk (off + 31)
  have HE := Aside0.mk (bk_store H10.out.1 31 (by omega) (.int .i64 (turn : Int)) (done' := turn) (fun i hi => by
    unfold putC bkC
    by_cases h1 : i = 31
    · subst h1; simp
    · simp [h1]))
  go_wp2_with fail
  go_end0
  exact ⟨rfl, ow3, _, _, _, _, _, _, HE.out.1, H10.out.2.trans HE.out.2 (fun b hb => hb.elim)⟩
set_option maxHeartbeats 8000000 in
theorem look.calls {W : World} {g off : Nat} {ow : Own} {vB vBo : Value} {eB : List Ent} {aB : Nat} {vW vWo : Value} {eW : List Ent} {aW turn done used : Nat} (h : Bk W g off ow vB vBo eB aB vW vWo eW aW turn done used) :
    Calls Try.prog 33 #[.pointer (some ⟨g, off, none⟩)] W fun e w' => e = .returned (.bool true) ∧ ∃ ow' vB' vBo' eB' aB' vW' vWo' eW' aW' done', Bk w' g off ow' vB' vBo' eB' aB' vW' vWo' eW' aW' turn done' used ∧ BkS W w' g off ow ow' nix := by
  have HB := Aside0.mk h
  clear h
  go_enter Try.func33, Try.ntmps33
  go_wp2_with fail
  refine (BokF.holds.calls HB.out).mono ?_
  rintro e w1 ⟨rfl, hb⟩
  have H1 : Aside0 (Bk w1 g off ow vB vBo eB aB vW vWo eW aW turn done used ∧ BkS W w1 g off ow ow nix) := ⟨HB.out.below hb, ⟨Upd.of_below hb, fun b hb => .inl hb, fun j hj => keep_upd (S := none_) HB.out.hd (Upd.of_below hb) (fun h => h) j hj⟩⟩
  clear hb
  have hx0 : w1.cell? ⟨g, off + 30, none⟩ = some (.int .i64 (turn : Int)) := H1.out.1.hd.cell 30 (by omega)
  have hx2 : w1.cell? ⟨g, off + 31, none⟩ = some (.int .i64 (done : Int)) := H1.out.1.hd.cell 31 (by omega)
  by_cases hdt : done = turn
  · have hdt' : ((done : Int) == (turn : Int)) = true := by rw [hdt]; simp
    have HF : Aside0 (∀ w', Below w1.heap.size w1 w' → Bk w' g off ow vB vBo eB aB vW vWo eW aW turn done used ∧ BkS W w' g off ow ow nix) := ⟨fun w' hb => ⟨H1.out.1.below hb, H1.out.2.trans (Y := nix) ⟨Upd.of_below hb, fun b hb => .inl hb, fun j hj => keep_upd (S := none_) H1.out.1.hd (Upd.of_below hb) (fun h => h) j hj⟩ (fun b hb => hb.elim)⟩⟩
    clear hdt
    go_wp2_with fail
    go_quiet (fail)
    go_wp2_with fail
    go_ret
    exact ⟨rfl, ow, _, _, _, _, _, _, _, _, _, HF.out _ (pw_below_drewN (Below.refl _ _) _)⟩
  · have hdt' : ((done : Int) == (turn : Int)) = false := beq_eq_false_iff_ne.2 (by omega)
    have HF : Aside0 (∀ w', Below w1.heap.size w1 w' → Bk w' g off ow vB vBo eB aB vW vWo eW aW turn done used ∧ BkS W w' g off ow ow nix) := ⟨fun w' hb => ⟨H1.out.1.below hb, H1.out.2.trans (Y := nix) ⟨Upd.of_below hb, fun b hb => .inl hb, fun j hj => keep_upd (S := none_) H1.out.1.hd (Upd.of_below hb) (fun h => h) j hj⟩ (fun b hb => hb.elim)⟩⟩
    clear hdt
    go_wp2_with fail
    go_quiet (fail)
    go_wp2_with fail
    refine (grow.calls (HF.out _ (pw_below_drewN (Below.refl _ _) _)).1).mono ?_
    rintro e w2 ⟨rfl, ow2, vB2, vBo2, eB2, vW2, vWo2, eW2, hB, hS⟩
    have H2 := Aside0.mk (And.intro hB ((HF.out _ (pw_below_drewN (Below.refl _ _) _)).2.trans hS (fun b hb => hb.elim)))
    clear hB hS
    go_wp2_with fail
    refine (BokF.holds.calls H2.out.1).mono ?_
    rintro e w3 ⟨rfl, hb⟩
    have H3 : Aside0 (Bk w3 g off ow2 vB2 vBo2 eB2 eB2.length vW2 vWo2 eW2 eW2.length turn turn used ∧ BkS W w3 g off ow ow2 nix) := ⟨H2.out.1.below hb, H2.out.2.trans (Y := nix) ⟨Upd.of_below hb, fun b hb => .inl hb, fun j hj => keep_upd (S := none_) H2.out.1.hd (Upd.of_below hb) (fun h => h) j hj⟩ (fun b hb => hb.elim)⟩
    clear hb
    go_wp2_with fail
    go_ret
    exact ⟨rfl, ow2, _, _, _, _, _, _, _, _, _, H3.out⟩
end Go.Proofs.Ytgjcffjicbmkhaa.BokJ
end

section
namespace Go.Proofs.Ytgjcffjicbmkhaa.FreM
open Go Go.RowKit Go.Proofs.YtgjcffjicbmkhaaW.PrintWords Go.Proofs.YtgjcffjicbmkhaaW.PrintLast Go.Proofs.YtgjcffjicbmkhaaW.PrintMore Go.Proofs.Ytgjcffjicbmkhaa.RowU Go.Proofs.Ytgjcffjicbmkhaa.ArM Go.Proofs.Ytgjcffjicbmkhaa.GenM Go.Proofs.Ytgjcffjicbmkhaa.GenN Go.Proofs.Ytgjcffjicbmkhaa.BokA Go.Proofs.Ytgjcffjicbmkhaa.BokB Go.Proofs.Ytgjcffjicbmkhaa.BokE Go.Proofs.Ytgjcffjicbmkhaa.BokG Go.Proofs.Ytgjcffjicbmkhaa.BokS
set_option linter.unusedVariables false
set_option maxRecDepth 100000
theorem gv_of_R {k : IntKind} {T : TypeId} {w : World} {base : Nat} {ok : Nat → Prop} {v : Value} {l : List Int} (h : (Kd.int k).R T w base ok v l) : GV T w v (l.map (Value.int k)) ∧ ∀ b, v.ownBlock = some b → base ≤ b := by
  obtain ⟨_, inner, ho, h1, h2⟩ := h
  have hlen : inner.length = l.length := by rw [h1]; exact Nat.mul_one _
  have hin : inner = l.map (Value.int k) := by
    apply List.ext_getElem?
    intro j
    by_cases hj : j < l.length
    · have h3 := h2 j l[j] (List.getElem?_eq_getElem hj)
      have h3 : (inner.drop (j * 1)).take 1 = [Value.int k l[j]] := h3
      rw [Nat.mul_one] at h3
      have h4 := congrArg (fun r => r[0]?) h3
      simp only [List.getElem?_take, List.getElem?_drop] at h4
      rw [List.getElem?_map, List.getElem?_eq_getElem hj]
      simpa using h4
    · rw [List.getElem?_eq_none (by omega), List.getElem?_eq_none (by rw [List.length_map]; omega)]
  subst hin
  exact GV.of_own ho (by rw [List.length_map])
def GU (W : World) (u : Value) (l : List Value) : Prop := ∃ A c, u = .slice A l.length c ∧ l.length ≤ c ∧ l.length ≤ maxLen ∧ ((A = none ∧ l = []) ∨ ∃ g, A = some ⟨g, 0, none⟩ ∧ g < W.heap.size ∧ ∀ j x, l[j]? = some x → W.cell? ⟨g, j, none⟩ = some x)
theorem cell_congr {W W' : World} {g : Nat} (h : W'.heap[g]? = W.heap[g]?) (j : Nat) : W'.cell? ⟨g, j, none⟩ = W.cell? ⟨g, j, none⟩ := by
  simp only [World.cell?]
  rw [h]
theorem GU.upd {S : Nat → Prop} {W W' : World} {u : Value} {l : List Value} (h : GU W u l) (hu : Upd S W W') (hS : ∀ b, u.ownBlock = some b → ¬ S b) : GU W' u l := by
  obtain ⟨A, c, rfl, h1, h2, h3 | ⟨g, rfl, h4, h5⟩⟩ := h
  · exact ⟨A, c, rfl, h1, h2, .inl h3⟩
  · exact ⟨_, c, rfl, h1, h2, .inr ⟨g, rfl, Nat.lt_of_lt_of_le h4 hu.size, fun j x hj => by rw [cell_congr (hu.block g h4 (hS g rfl)) j]; exact h5 j x hj⟩⟩
theorem GU.of_gv {T : TypeId} {W : World} {u : Value} {l : List Value} (h : GV T W u l) : GU W u l := by
  rcases h with ⟨rfl, rfl⟩ | ⟨g, cap, rfl, h⟩
  · exact ⟨none, 0, rfl, Nat.le_refl _, by simp, .inl ⟨rfl, rfl⟩⟩
  · obtain ⟨cur, h1, h2, h3, h4, h5⟩ := id h
    exact ⟨_, cap, rfl, h3, by omega, .inr ⟨g, rfl, h.lt, fun j x hj => h.get j x hj⟩⟩
theorem GU.slice {W : World} {v : Value} {l : List Value} (h : GU W v l) : ∃ A c, v = .slice A l.length c := by
  obtain ⟨A, c, h1, _⟩ := h
  exact ⟨A, c, h1⟩
theorem gu_reads {k : IntKind} {w : World} {A : Option Addr} {n c : Nat} {ls : List Int} (h : GU w (.slice A n c) (ls.map (Value.int k))) : n = ls.length ∧ ls.length ≤ c ∧ (Kd.int k).C w A ls.length ls := by
  obtain ⟨A', c', h1, h2, h3, h4⟩ := h
  rw [List.length_map] at h1 h2 h3
  simp only [Value.slice.injEq] at h1
  obtain ⟨rfl, rfl, rfl⟩ := h1
  refine ⟨rfl, h2, rfl, by unfold maxLen at h3; omega, fun h0 => ?_⟩
  rcases h4 with ⟨_, h5⟩ | ⟨g, rfl, _, h5⟩
  · have : ls = [] := by simpa using h5
    subst this
    exact absurd h0 (by simp)
  · refine ⟨_, rfl, fun j p hp => ⟨[Value.int k p], rfl, rfl, fun i u hu => ?_⟩⟩
    cases i with
    | zero =>
      simp at hu
      subst hu
      have := h5 j (Value.int k p) (by rw [List.getElem?_map, hp]; rfl)
      show w.cell? ((⟨g, 0, none⟩ : Addr).add (j * 1 + 0)) = _
      rw [Addr.add_lit, Nat.mul_one, Nat.add_zero, Nat.zero_add]
      exact this
    | succ i => simp at hu
structure It where
  v : Value
  u : Value
  l : List Value
def gs (it : List It) : List Value := it.map It.v
def us (it : List It) : List Value := it.map It.u
structure Pn (k : Nat) (Tt Te : TypeId) (W : World) (lo : Own) (vg vw : Value) (it : List It) : Prop where
  tg : GV Tt W vg (gs it)
  tw : GV Tt W vw (us it)
  gT : ∀ b, vg.ownBlock = some b → lo b = some (k, 0)
  wT : ∀ b, vw.ownBlock = some b → lo b = some (k, 1)
  el : ∀ i x, it[i]? = some x → GV Te W x.v x.l ∧ GU W x.u x.l ∧ (∀ b, x.v.ownBlock = some b → lo b = some (k, 2 + 2 * i)) ∧ (∀ b, x.u.ownBlock = some b → lo b = some (k, 3 + 2 * i)) ∧ x.l.length ≤ 200000000000000
theorem Pn.move {k : Nat} {Tt Te : TypeId} {S : Nat → Prop} {W W' : World} {lo lo' : Own} {vg vw : Value} {it : List It} (h : Pn k Tt Te W lo vg vw it) (hu : Upd S W W') (hS : ∀ b t, lo b = some (k, t) → ¬ S b) (hle : ∀ b t, lo b = some (k, t) → lo' b = some (k, t)) : Pn k Tt Te W' lo' vg vw it :=
  ⟨h.tg.upd hu (fun b hb => hS b _ (h.gT b hb)), h.tw.upd hu (fun b hb => hS b _ (h.wT b hb)), fun b hb => hle _ _ (h.gT b hb), fun b hb => hle _ _ (h.wT b hb), fun i x hx => by
    obtain ⟨a1, a2, a3, a4, a5⟩ := h.el i x hx
    exact ⟨a1.upd hu (fun b hb => hS b _ (a3 b hb)), a2.upd hu (fun b hb => hS b _ (a4 b hb)), fun b hb => hle _ _ (a3 b hb), fun b hb => hle _ _ (a4 b hb), a5⟩⟩
theorem Pn.nil (k : Nat) (Tt Te : TypeId) (W : World) (lo : Own) : Pn k Tt Te W lo (.slice none 0 0) (.slice none 0 0) [] :=
  ⟨GV.nil _ _, GV.nil _ _, fun b hb => (by cases hb), fun b hb => (by cases hb), fun i x hx => by simp at hx⟩
theorem gs_snoc (it : List It) (x : It) : gs (it ++ [x]) = gs it ++ [x.v] := by simp [gs]
theorem us_snoc (it : List It) (x : It) : us (it ++ [x]) = us it ++ [x.u] := by simp [us]
theorem gs_len (it : List It) : (gs it).length = it.length := by simp [gs]
theorem us_len (it : List It) : (us it).length = it.length := by simp [us]
theorem gs_get {it : List It} {i : Nat} {x : It} (h : it[i]? = some x) : (gs it)[i]? = some x.v := by simp [gs, h]
theorem us_get {it : List It} {i : Nat} {x : It} (h : it[i]? = some x) : (us it)[i]? = some x.u := by simp [us, h]
theorem Pn.add {k : Nat} {Tt Te : TypeId} {S : Nat → Prop} {W W' : World} {lo lo' : Own} {vg vw vg' vw' : Value} {it : List It} (h : Pn k Tt Te W lo vg vw it) {x : It}
    (hu : Upd S W W') (hS : ∀ b t, lo b = some (k, t) → 2 ≤ t → ¬ S b) (hle : ∀ b t, lo b = some (k, t) → lo' b = some (k, t))
    (h1 : GV Tt W' vg' (gs it ++ [x.v])) (h2 : GV Tt W' vw' (us it ++ [x.u])) (t1 : ∀ b, vg'.ownBlock = some b → lo' b = some (k, 0)) (t2 : ∀ b, vw'.ownBlock = some b → lo' b = some (k, 1))
    (h3 : GV Te W' x.v x.l) (h4 : GU W' x.u x.l) (t3 : ∀ b, x.v.ownBlock = some b → lo' b = some (k, 2 + 2 * it.length)) (t4 : ∀ b, x.u.ownBlock = some b → lo' b = some (k, 3 + 2 * it.length)) (hl : x.l.length ≤ 200000000000000) : Pn k Tt Te W' lo' vg' vw' (it ++ [x]) := by
  refine ⟨by rw [gs_snoc]; exact h1, by rw [us_snoc]; exact h2, t1, t2, fun i y hy => ?_⟩
  by_cases hi : i < it.length
  · rw [List.getElem?_append_left hi] at hy
    obtain ⟨a1, a2, a3, a4, a5⟩ := h.el i y hy
    exact ⟨a1.upd hu (fun b hb => hS b _ (a3 b hb) (by omega)), a2.upd hu (fun b hb => hS b _ (a4 b hb) (by omega)), fun b hb => hle _ _ (a3 b hb), fun b hb => hle _ _ (a4 b hb), a5⟩
  · have hil : i = it.length := by
      have := (List.getElem?_eq_some_iff.1 hy).1
      rw [List.length_append, List.length_singleton] at this
      omega
    subst hil
    rw [List.getElem?_append_right (Nat.le_refl _), Nat.sub_self] at hy
    have hy : x = y := by simpa using hy
    subst hy
    exact ⟨h3, h4, t3, t4, hl⟩
end Go.Proofs.Ytgjcffjicbmkhaa.FreM
end

section
namespace Go.Proofs.Ytgjcffjicbmkhaa.RfB
open Go Go.RowKit Go.Proofs.YtgjcffjicbmkhaaW.PrintWords Go.Proofs.YtgjcffjicbmkhaaW.PrintLast Go.Proofs.YtgjcffjicbmkhaaW.PrintMore Go.Proofs.Ytgjcffjicbmkhaa.RowU Go.Proofs.Ytgjcffjicbmkhaa.ArS Go.Proofs.Ytgjcffjicbmkhaa.ArM Go.Proofs.Ytgjcffjicbmkhaa.ArW Go.Proofs.Ytgjcffjicbmkhaa.ArB Go.Proofs.Ytgjcffjicbmkhaa.GenM Go.Proofs.Ytgjcffjicbmkhaa.GenN Go.Proofs.Ytgjcffjicbmkhaa.GenS Go.Proofs.Ytgjcffjicbmkhaa.BokA Go.Proofs.Ytgjcffjicbmkhaa.ArP Go.Proofs.Ytgjcffjicbmkhaa.RfM Go.Proofs.Ytgjcffjicbmkhaa.RfF Go.Proofs.Ytgjcffjicbmkhaa.RfG Go.Proofs.Ytgjcffjicbmkhaa.RfH Go.Proofs.Ytgjcffjicbmkhaa.RfT Go.Proofs.Ytgjcffjicbmkhaa.PF
set_option linter.unusedVariables false
set_option maxRecDepth 100000
def rl (o : Ob) : List Int := (o.fields.drop o.refs).map Int.ofNat
theorem rl_len (o : Ob) : (rl o).length = o.raws := by simp [rl, Ob.raws]
theorem rl_in {o : Ob} (h : o.ok) : RefU.inW (rl o) := by
  intro c hc
  simp only [rl, List.mem_map] at hc
  obtain ⟨y, hy, rfl⟩ := hc
  have := h.f1 y (List.mem_of_mem_drop hy)
  show 0 ≤ (y : Int) ∧ (y : Int) < _
  omega
theorem rl_byte (o : Ob) (i : Nat) : RefU.byteAt (rl o) i = ((Ob.byte o i : Nat) : Int) := by
  unfold RefU.byteAt Ob.byte NumB.byteAt rl
  rw [List.getD_eq_getElem?_getD, List.getElem?_map, List.getElem?_drop, List.getD_eq_getElem?_getD]
  have e : (256 : Int) ^ (i % 8) = ((2 ^ (8 * (i % 8)) : Nat) : Int) := by
    rw [Int.natCast_pow]
    show (256 : Int) ^ (i % 8) = (2 : Int) ^ (8 * (i % 8))
    rw [Int.pow_mul]; rfl
  rw [e]
  cases hx : o.fields[o.refs + i / 8]? with
  | none => simp
  | some y =>
    simp only [Option.map_some, Option.getD_some]
    show (y : Int) / _ % 256 = _
    rw [Int.natCast_emod, Int.natCast_ediv]; rfl
def byL (o : Ob) (f n : Nat) : List Int := (List.range n).map fun j => ((Ob.byte o (f + j) : Nat) : Int)
theorem unpack_rl (o : Ob) (n : Nat) : RefU.unpack (rl o) n = byL o 0 n := by
  unfold RefU.unpack byL
  apply List.map_congr_left
  intro i _
  rw [rl_byte, Nat.zero_add]
theorem byL_len (o : Ob) (f n : Nat) : (byL o f n).length = n := by simp [byL]
theorem byL_cut (o : Ob) (f n m : Nat) (h : f + n ≤ m) : ((byL o 0 m).drop f).take n = byL o f n := by
  apply List.ext_getElem?
  intro j
  unfold byL
  by_cases hj : j < n
  · rw [List.getElem?_take, if_pos hj, List.getElem?_drop, List.getElem?_map, List.getElem?_map, List.getElem?_range (by omega), List.getElem?_range hj]
    simp
  · rw [List.getElem?_eq_none (by simp; omega), List.getElem?_eq_none (by simp; omega)]
theorem cut_reads {W : World} {Af : Option Addr} {nf cf r : Nat} {l : List Nat} (h : GV 36 W (.slice Af nf cf) (l.map u64)) (hn : nf = l.length) (hc : nf ≤ cf) (hr : r ≤ nf) (hl : l.length ≤ 4000000) :
    (Kd.int .u64).C W (if cf = r then Af else Option.map (fun a => a.add r) Af) ((l.drop r).map Int.ofNat).length ((l.drop r).map Int.ofNat) := by
  refine ⟨rfl, by simp; omega, fun h0 => ?_⟩
  rw [List.length_map, List.length_drop] at h0
  rw [if_neg (by omega)]
  rcases h with ⟨_, hnil⟩ | ⟨gf, cf', ef, hG⟩
  · have := congrArg List.length hnil
    rw [List.length_map, List.length_nil] at this
    omega
  · simp only [Value.slice.injEq] at ef
    obtain ⟨rfl, _, _⟩ := ef
    refine ⟨⟨gf, r, none⟩, by simp [Addr.add_lit], fun j p hp => ⟨[.int .u64 p], rfl, rfl, fun i u hu => ?_⟩⟩
    cases i with
    | zero =>
      simp at hu
      subst hu
      rw [List.getElem?_map, List.getElem?_drop] at hp
      obtain ⟨y, hy, rfl⟩ := Option.map_eq_some_iff.1 hp
      show W.cell? ((⟨gf, r, none⟩ : Addr).add (j * 1 + 0)) = _
      rw [Addr.add_lit, Nat.mul_one, Nat.add_zero]
      exact hG.get (r + j) (u64 y) (by rw [List.getElem?_map, hy]; rfl)
    | succ i => simp at hu
def BytR (W w' : World) (es : List RO) (p f n : Int) (e : Ending) : Prop :=
  (∃ er, bytErr (obs es) p f n = some er ∧ e = .returned (.tuple #[.slice none 0 0, .int .i64 er]) ∧ Below W.heap.size W w') ∨
  (bytErr (obs es) p f n = none ∧ ∃ (i : Nat) (x : RO) (f' n' : Nat) (v : Value), es[i]? = some x ∧ obAt (obs es) p = some (i, x.o) ∧ x.o.gone = none ∧ f = f' ∧ n = n' ∧ f' + n' ≤ 8 * x.o.raws ∧ e = .returned (.tuple #[v, .int .i64 0]) ∧
    GV 5 w' v ((byL x.o f' n').map (Value.int .u8)) ∧ (∀ b, v.ownBlock = some b → W.heap.size ≤ b) ∧ Below W.heap.size W w')
set_option maxHeartbeats 8000000 in
theorem bytes.calls {k : Nat} {W : World} {lo : Own} {g sz : Nat} {vo : Value} {es : List RO} (h : RA k W lo g sz vo es) (p f n : Int) (hf : -9223372036854775808 ≤ f ∧ f < 9223372036854775808) (hn : -9223372036854775808 ≤ n ∧ n < 9223372036854775808) :
    Calls Try.prog 57 #[.pointer (some ⟨g, 0, none⟩), .int .i64 p, .int .i64 f, .int .i64 n] W fun e w' => BytR W w' es p f n e := by
  have H := Aside0.mk h
  obtain ⟨A, c, hv, hcc⟩ := GenS.own_slice h.tb
  subst hv
  clear h
  have HWC := Aside0.mk (whole.calls H.out p)
  go_enter Try.func57, Try.ntmps57
  go_wp2_with fail
  refine HWC.out.mono ?_
  rintro e w1 ⟨rfl, hb⟩
  have H1 := Aside0.mk (H.out.below hb)
  have HB := Aside0.mk hb
  clear hb HWC
  cases hbd : badOf (obs es) p with
  | some e =>
    rw [whR_bad hbd]
    have HR := Aside0.mk (show bytErr (obs es) p f n = some e by unfold bytErr; rw [hbd])
    have hne : (e != 0) = true := by rcases badOf_val hbd with rfl | rfl <;> rfl
    clear hbd
    go_wp2_with fail
    go_ret2
    exact .inl ⟨e, HR.out, rfl, HB.out⟩
  | none =>
    obtain ⟨i, x, hx, hi, h1, h2, h3, h4⟩ := H1.out.at_ hbd
    rw [h3]
    obtain ⟨hok, hfl, hr, hs⟩ := H1.out.okx hx
    have hgr : bytErr (obs es) p f n = if InSpan x.o.raws f n then none else some 25 := by unfold bytErr; rw [hbd, h1]
    obtain ⟨go, cap, cur, e1, e2, e3, e4, e5⟩ := H1.out.ob hx
    simp only [Value.slice.injEq] at e1
    obtain ⟨rfl, _, rfl⟩ := e1
    have hF := ((H1.out.fl i x hx).1)
    obtain ⟨Af, cf, hff⟩ := hF.slice
    rw [List.length_map] at hff
    obtain ⟨nf, hnf⟩ : ∃ nf, nf = x.o.fields.length := ⟨_, rfl⟩
    rw [← hnf] at hff hfl
    have hc3 : w1.cell? ⟨go, i * 6 + 3, none⟩ = some (.slice Af nf cf) := by rw [← hff]; exact e5 3 _ rfl
    have hc2 : w1.cell? ⟨go, i * 6 + 2, none⟩ = some (.int .i64 (x.o.refs : Int)) := e5 2 _ rfl
    have hx2 := H1.out.c2
    have hi' : (i : Int) < es.length := by omega
    have hi0 : (0 : Int) ≤ i := by omega
    have hcf : nf ≤ cf := by
      rcases hF with ⟨e, hnil⟩ | ⟨gf, cf', ef, hG⟩
      · have h5 := congrArg List.length hnil
        rw [List.length_map, List.length_nil] at h5
        omega
      · obtain ⟨cur', _, q1, q2, _⟩ := hG
        rw [hff] at ef
        simp only [Value.slice.injEq] at ef
        rw [List.length_map] at q2
        omega
    have hr9 : (x.o.refs : Int) ≤ nf := by omega
    have hr8 : (x.o.refs : Int) ≤ cf := by omega
    have hr0 : (0 : Int) ≤ x.o.refs := by omega
    have HX := Aside0.mk (And.intro hx (And.intro h1 (And.intro h2 (And.intro hok (And.intro hfl (And.intro hr (And.intro hs (And.intro hff hnf))))))))
    have HF := Aside0.mk hF
    have HG := Aside0.mk hgr
    clear hx h1 h2 h3 h4 hok hfl hr hs hff hnf hF hgr hbd e2 e3 e4 e5
    go_upto_region 4 with fail
    go_quiet (fail)
    obtain ⟨Ar, hAr⟩ : ∃ Ar, Ar = (if cf = x.o.refs then Af else Option.map (fun a => a.add x.o.refs) Af) := ⟨_, rfl⟩
    obtain ⟨nr, hnr⟩ : ∃ nr, nr = nf - x.o.refs := ⟨_, rfl⟩
    obtain ⟨cr, hcr⟩ : ∃ cr, cr = cf - x.o.refs := ⟨_, rfl⟩
    rw [← hAr, ← hnr, ← hcr]
    have hnr2 : nr = x.o.raws := by have := HX.out.2.2.2.2; omega
    have hnc : nr ≤ cr := by omega
    have hraw : nr ≤ 1048576 := by have := HX.out.2.2.2.2.2.2.1; omega
    obtain ⟨m, hm⟩ : ∃ m, m = 8 * nr := ⟨_, rfl⟩
    have hCR : (Kd.int .u64).C w1 Ar nr (rl x.o) := by
      have h5 := cut_reads (r := x.o.refs) (l := x.o.fields) (cf := cf) (nf := nf) (Af := Af) (by rw [← HX.out.2.2.2.2.2.2.2.1]; exact HF.out) HX.out.2.2.2.2.2.2.2.2 hcf (by omega) (by have := HX.out.2.2.2.2; omega)
      rw [← hAr] at h5
      have e : ((x.o.fields.drop x.o.refs).map Int.ofNat).length = nr := by rw [hnr2]; exact rl_len x.o
      rw [e] at h5
      exact h5
    obtain ⟨K, hK⟩ := Ev.rounds (RefU.Unpack_ok (rl x.o) (rl_in HX.out.2.2.2.1) m (by rw [rl_len]; omega) (by omega) (by rw [rl_len]; omega))
    have HU : Aside0 (∀ w, Below w1.heap.size w1 w → Calls Try.prog 84 #[.slice Ar nr cr, .int .i64 (m : Int)] w fun e w' => ∃ v0_ : Value, e = .returned (.tuple #[v0_, .int .i64 0]) ∧ Kd.R (Kd.int .u8) 5 w' w.heap.size (fun _ => True) v0_ (byL x.o 0 m) ∧ Below w.heap.size w w') := ⟨fun w hb => by
      have h5 := larderref1_Unpack.calls K Ar cr (rl x.o) (m : Int) _ _ w (by rw [rl_len, ← hnr2]; exact Kd.C_below hCR hb) (by rw [rl_len]; omega) hK
      rw [unpack_rl, rl_len, ← hnr2] at h5
      exact h5⟩
    have HMM := Aside0.mk (And.intro hm hnr2)
    have hm9 : (m : Int) ≤ 8388608 := by omega
    have HEQ := Aside0.mk (NumB.mul_i 8 (nr : Int) m (by omega) (by omega))
    clear hAr hnr hcr hnr2 hCR hK hm hx2 hc3 hc2
    obtain ⟨e1, f1⟩ := HEQ.out
    go_wp2_with fail
    clear e1 f1
    refine (HU.out _ (pw_below_drewN (Below.refl _ _) _)).mono ?_
    rintro e w3 ⟨v3, rfl, hR, hb⟩
    obtain ⟨Aa, ca, rfl, hca, hCa⟩ := Kd.R_reads hR
    rw [byL_len]
    rw [byL_len] at hca
    have HR3 := Aside0.mk (And.intro hR hCa)
    have HB3 := Aside0.mk (below_next HB.out (below_next (pw_below_drewN (Below.refl w1.heap.size w1) _) hb))
    clear hR hb hCa
    have HNO : Aside0 (∀ w', Below W.heap.size W w' → ¬ InSpan x.o.raws f n → BytR W w' es p f n (.returned (.tuple #[.slice none 0 0, .int .i64 25]))) := ⟨fun w' hb hno => .inl ⟨25, HG.out.trans (if_neg hno), rfl, hb⟩⟩
    by_cases c1 : f < 0
    · have HS := Aside0.mk (show ¬ InSpan x.o.raws f n by unfold InSpan; omega)
      go_wp2_with fail
      go_ret2
      exact HNO.out _ HB3.out HS.out
    obtain ⟨f', rfl⟩ := Int.eq_ofNat_of_zero_le (show 0 ≤ f by omega)
    by_cases c2 : f' > m
    · have HS := Aside0.mk (show ¬ InSpan x.o.raws f' n by unfold InSpan; have := HMM.out; omega)
      have c2' : (f' : Int) > m := by omega
      go_wp2_with fail
      go_ret2
      exact HNO.out _ HB3.out HS.out
    by_cases c3 : n < 0
    · have HS := Aside0.mk (show ¬ InSpan x.o.raws f' n by unfold InSpan; omega)
      have c2' : ¬ (f' : Int) > m := by omega
      go_wp2_with fail
      go_ret2
      exact HNO.out _ HB3.out HS.out
    obtain ⟨n', rfl⟩ := Int.eq_ofNat_of_zero_le (show 0 ≤ n by omega)
    obtain ⟨d, hd⟩ : ∃ d, d = m - f' := ⟨_, rfl⟩
    have HE2 := Aside0.mk (NumB.dif_i (m : Int) f' d (by omega) (by omega))
    have HD := Aside0.mk hd
    have c2' : ¬ (f' : Int) > m := by omega
    by_cases c4 : n' > d
    · have HS := Aside0.mk (show ¬ InSpan x.o.raws f' n' by unfold InSpan; have := HMM.out; omega)
      have c4' : (n' : Int) > d := by omega
      clear hd
      obtain ⟨e1, f1⟩ := HE2.out
      go_wp2_with fail
      go_ret2
      exact HNO.out _ HB3.out HS.out
    have c4' : ¬ (n' : Int) > d := by omega
    obtain ⟨s, hs⟩ : ∃ s, s = f' + n' := ⟨_, rfl⟩
    have HE3 := Aside0.mk (NumB.sum_i (f' : Int) n' s (by omega) (by omega))
    have hsm : s ≤ m := by omega
    have hsc : (s : Int) ≤ ca := by omega
    have hfs : (f' : Int) ≤ s := by omega
    have HS := Aside0.mk (And.intro hs hsm)
    clear hd hs
    have HOK : Aside0 (f' + n' ≤ 8 * x.o.raws ∧ s - f' = n' ∧ InSpan x.o.raws (f' : Int) (n' : Int)) := ⟨by have h5 := HMM.out; have h6 := HS.out; refine ⟨by omega, by omega, by omega, by omega, by omega⟩⟩
    have HLL : Aside0 ((([] : List Int).length + (s - f')) * 1 ≤ 140737488355328) := ⟨by simp only [List.length_nil]; have := HS.out; omega⟩
    have HGV : Aside0 (∀ v w, w.ownsRow w3.heap.size 5 1 v (([] : List Int) ++ byL x.o f' n').length (nums .u8 ([] ++ byL x.o f' n')) → GV 5 w v ((byL x.o f' n').map (Value.int .u8)) ∧ ∀ b, v.ownBlock = some b → W.heap.size ≤ b) := ⟨fun v w ho => by
      rw [List.nil_append] at ho
      obtain ⟨g1, g2⟩ := GV.of_own ho (by simp [nums])
      exact ⟨g1, fun b hb => Nat.le_trans HB3.out.size (g2 b hb)⟩⟩
    have hcell : ∀ j : Nat, j < n' → ∃ ad, Aa = some ad ∧ w3.cell? (ad.add (f' + j)) = some (.int .u8 ((byL x.o f' n').getD j 0)) := fun j hj => by
      have h6 := HS.out
      obtain ⟨ad, c5, e5, _, h7, h8⟩ := Kd.C_get HR3.out.2 0 ((f' + j : Nat) : Int) (by omega) (by rw [byL_len]; omega)
      refine ⟨ad, e5, ?_⟩
      rw [Int.toNat_natCast] at h7 h8
      have e6 : (byL x.o 0 m).getD (f' + j) 0 = (byL x.o f' n').getD j 0 := by
        have h9 := byL_cut x.o f' n' m (by omega)
        rw [List.getD_eq_getElem?_getD, List.getD_eq_getElem?_getD, ← h9, List.getElem?_take, if_pos hj, List.getElem?_drop]
      rw [e6] at h7
      obtain rfl : c5 = [.int .u8 ((byL x.o f' n').getD j 0)] := h7
      have h10 := h8 0 _ rfl
      rw [show (f' + j) * (Kd.int .u8).sz + 0 = f' + j from by show (f' + j) * 1 + 0 = _; omega] at h10
      exact h10
    have HRD1 : Aside0 (ca = f' → ReadsInt w3 .u8 Aa (s - f') (byL x.o f' n')) := ⟨fun hcaf => by rw [HOK.out.2.1]; refine ⟨byL_len _ _ _, by have := HS.out; omega, fun h0 => ?_⟩; have := HS.out; have := HOK.out.2.1; omega⟩
    have HRD2 : Aside0 (ReadsInt w3 .u8 (Option.map (fun x => x.add f') Aa) (s - f') (byL x.o f' n')) := ⟨by
        rw [HOK.out.2.1]
        refine ⟨byL_len _ _ _, by have := HS.out; omega, fun h0 => ?_⟩
        obtain ⟨ad, rfl, _⟩ := hcell 0 h0
        refine ⟨ad.add f', rfl, fun j hj => ?_⟩
        obtain ⟨ad', e5, h7⟩ := hcell j hj
        obtain rfl := Option.some.inj e5
        rw [LoadA.add_add]
        exact h7⟩
    clear hcell
    obtain ⟨Az, hAz⟩ : ∃ Az, (if ca = f' then Aa else Option.map (fun x => x.add f') Aa) = Az := ⟨_, rfl⟩
    have HRZ : Aside0 (ReadsInt w3 .u8 Az (s - f') (byL x.o f' n')) := ⟨by
      rw [← hAz]
      by_cases hc : ca = f'
      · rw [if_pos hc]; exact HRD1.out hc
      · rw [if_neg hc]; exact HRD2.out⟩
    clear HRD1 HRD2
    obtain ⟨⟨e1, f1⟩, e2, f2⟩ := And.intro HE2.out HE3.out
    go_upto_region 10 with ((with_reducible refine gate_builtin (b := .append) (xs := #[.tmp 70, .tmp 76]) rfl ?_); at_builtin; refine print_append_row (w0 := w3) w3.heap.size rfl (.tmp 70) (.tmp 76) 67 5 .u8 1 rfl Try.underlying67 (by kernel_rfl) (by decide) (.slice none 0 0) [] (byL x.o f' n') _ _ _ rfl rfl (World.ownsRow_nil w3 _ _ 1) HRZ.out (Below.refl _ _) (Nat.le_refl _) HLL.out ?_; intro v9 w9 ho hb9 _ _; have HO9 := Aside0.mk ho; have HB9 := Aside0.mk hb9; clear ho hb9)
    clear e1 f1 e2 f2 hAz
    go_wp2_with fail
    go_ret2
    exact .inr ⟨HG.out.trans (if_pos HOK.out.2.2), i, x, f', n', v9, HX.out.1, HX.out.2.1, HX.out.2.2.1, rfl, rfl, HOK.out.1, rfl, (HGV.out v9 w9 HO9.out).1, (HGV.out v9 w9 HO9.out).2, below_next HB3.out HB9.out⟩
end Go.Proofs.Ytgjcffjicbmkhaa.RfB
end

section
namespace Go.Proofs.Ytgjcffjicbmkhaa.Open
open Go Go.RowKit Go.ChangeShapes Go.Proofs.YtgjcffjicbmkhaaW.PrintWords
structure OpensAt {α : Type} (F : Nat) (P : Program) (t : TypeId) (kd : Kd α) (good : α → Prop) : Prop where
  sz : kd.sz = P.cellsOf t
  op : ∀ {H : Type} {enc : TypeId × Value → H} {W : World} {base : Nat} {spare : Nat → Bool} {held : Bool} {fuel : Nat} {cs : List Value} {x : DataW H × List MemPlace},
    fuel ≤ F → DataW.trod enc P W base spare held fuel t cs = some x → (∀ m ∈ x.1.weights P t, m ≤ reachBytes) → ∃ y : α, kd.K W y cs ∧ good y
def Opens {α : Type} (P : Program) (t : TypeId) (kd : Kd α) (good : α → Prop) : Prop := ∀ F, OpensAt F P t kd good
variable {P : Program} {t e : TypeId} {F : Nat}
theorem at_int {k : IntKind} (hu : P.underlying t = some (.int k)) (hc : P.cellsOf t = 1) : OpensAt F P t (Kd.int k) (fun x => (Lit.int k x).wf = true) where
  sz := hc.symm
  op := fun _ h _ => by
    obtain ⟨n, rfl, _, hw⟩ := DataW.trod_int hu h
    exact ⟨n, rfl, hw⟩
theorem at_bool (hu : P.underlying t = some .bool) (hc : P.cellsOf t = 1) : OpensAt F P t Kd.bool (fun _ => True) where
  sz := hc.symm
  op := fun _ h _ => by
    obtain ⟨n, rfl, _⟩ := DataW.trod_bool hu h
    exact ⟨n, rfl, trivial⟩
theorem at_string (hu : P.underlying t = some .string) (hc : P.cellsOf t = 1) : OpensAt F P t Kd.string (fun s => s.size ≤ 140737488351232) where
  sz := hc.symm
  op := fun _ h hw => by
    obtain ⟨s, rfl, hx, _⟩ := DataW.trod_string hu h
    refine ⟨s, rfl, ?_⟩
    have := hw s.data.toList.length (by rw [hx]; simp [DataW.weights])
    simpa [reachBytes] using this
theorem choose_list {β : Type} (n : Nat) (p : Nat → β → Prop) (h : ∀ i, i < n → ∃ y, p i y) : ∃ ys : List β, ys.length = n ∧ ∀ i y, ys[i]? = some y → p i y := by
  induction n with
  | zero => exact ⟨[], rfl, fun i y hy => by simp at hy⟩
  | succ n ih =>
    obtain ⟨ys, hl, hp⟩ := ih (fun i hi => h i (by omega))
    obtain ⟨y, hy⟩ := h n (by omega)
    refine ⟨ys ++ [y], by simp [hl], fun i z hz => ?_⟩
    rcases Nat.lt_or_ge i ys.length with hi | hi
    · rw [List.getElem?_append_left hi] at hz
      exact hp i z hz
    · rw [List.getElem?_append_right hi] at hz
      have : i - ys.length = 0 := by
        rcases Nat.eq_zero_or_pos (i - ys.length) with h0 | h0
        · exact h0
        · rw [List.getElem?_eq_none (by simp; omega)] at hz
          cases hz
      rw [this] at hz
      simp at hz
      subst hz
      have : i = n := by omega
      subst this
      exact hy
theorem weightsAll_mem {H : Type} {e : TypeId} : ∀ {l : List (DataW H)} {d : DataW H}, d ∈ l → ∀ m ∈ d.weights P e, m ∈ DataW.weightsAll P e l
  | [], _, h, _, _ => by simp at h
  | a :: r, d, h, m, hm => by
    simp only [DataW.weightsAll]
    rcases List.mem_cons.1 h with rfl | h
    · exact List.mem_append_left _ hm
    · exact List.mem_append_right _ (weightsAll_mem h m hm)
def GoodL {α : Type} (B : Nat) (g : α → Prop) (ys : List α) : Prop := ys.length * B ≤ 140737488351232 ∧ ∀ y ∈ ys, g y
theorem at_slice {α : Type} {kd : Kd α} {g : α → Prop} {B : Nat} (hu : P.underlying t = some (.slice e)) (hc : P.cellsOf t = 1) (hB : P.bytesOf e = B) (he : OpensAt F P e kd g) :
    OpensAt (F + 1) P t (Kd.slice e kd) (GoodL B g) where
  sz := hc.symm
  op := by
    intro H enc W base spare held fuel cs x hf h hw
    rcases DataW.trod_slice hu h with ⟨rfl, rfl⟩ | ⟨a, len, cap, elems, rest, n, rfl, rfl, rfl, hb, hl, hm, hlen, hel, _⟩
    · exact ⟨[], ⟨none, 0, rfl, Nat.le_refl _, Kd.C_nil kd W⟩, by simp [GoodL]⟩
    · have hwt : ∀ m ∈ (elems.length + rest.length) * P.bytesOf e :: (DataW.weightsAll P e (elems.map (·.1)) ++ DataW.weightsAll P e (rest.map (·.1))), m ≤ reachBytes := by
        intro m hm'
        refine hw m ?_
        show m ∈ DataW.weights P t (DataW.slice (elems.map (·.1)) (rest.map (·.1)))
        simp only [DataW.weights, hu, List.length_map]
        exact hm'
      have each : ∀ i, i < len → ∃ y, g y ∧ ∃ c, c.length = kd.sz ∧ kd.K W y c ∧ ∀ j u, c[j]? = some u → W.cell? (a.add (i * kd.sz + j)) = some u := by
        intro i hi
        have h1 := hel i hi
        obtain ⟨x1, hx1⟩ : ∃ x1, elems[i]? = some x1 := ⟨elems[i]'(by omega), List.getElem?_eq_getElem (by omega)⟩
        rw [hx1, Option.bind_eq_some_iff] at h1
        obtain ⟨c, hcs, htr⟩ := h1
        obtain ⟨y, hy, hg⟩ := he.op (by omega) htr (fun m hm' => hwt m (List.mem_cons_of_mem _ (List.mem_append_left _
          (weightsAll_mem (List.mem_map.2 ⟨x1, List.mem_of_getElem? hx1, rfl⟩) m hm'))))
        refine ⟨y, hg, c, kd.K_len hy, hy, fun j u hj => ?_⟩
        unfold World.cells? at hcs
        split at hcs
        · have hjl : j < c.length := (List.getElem?_eq_some_iff.1 hj).1
          have hcl := kd.K_len hy
          have := mapM_some_get hcs j j (List.getElem?_range (by rw [← he.sz]; omega))
          rw [hj, Addr.add_add, ← he.sz] at this
          exact this
        · cases hcs
      obtain ⟨ys, hyl, hys⟩ := choose_list len _ each
      refine ⟨ys, ⟨some a, cap, by rw [hyl], by omega, ?_⟩, ?_, ?_⟩
      · refine ⟨rfl, by simp only [maxLen] at hm; omega, fun _ => ⟨a, rfl, fun j p hp => ?_⟩⟩
        obtain ⟨_, c, h1, h2, h3⟩ := hys j p hp
        exact ⟨c, h1, h2, h3⟩
      · have := hwt _ (List.mem_cons_self ..)
        rw [hB] at this
        rw [hyl, ← hlen]
        have h2 : elems.length * B ≤ (elems.length + rest.length) * B := Nat.mul_le_mul_right _ (by omega)
        simp only [reachBytes] at this
        omega
      · intro y hy
        obtain ⟨i, hi⟩ := List.getElem?_of_mem hy
        exact (hys i y hi).1
def FieldsAt {α : Type} (F : Nat) (P : Program) (fs : List Field) (o : Nat) (kd : Kd α) (good : α → Prop) : Prop :=
  ∀ {H : Type} {enc : TypeId × Value → H} {W : World} {base : Nat} {spare : Nat → Bool} {held : Bool} {n : Nat} {cs : List Value} {xs : List (DataW H × List MemPlace)},
    n ≤ F → cs.length = o + kd.sz → xs.length = fs.length →
    (∀ (i : Nat) (f : Field), fs[i]? = some f → DataW.trod enc P W base spare held n f.type ((cs.drop f.offset).take (P.cellsOf f.type)) = xs[i]?) →
    (∀ m ∈ DataW.weightsEach P (fs.map (·.type)) (xs.map (·.1)), m ≤ reachBytes) → ∃ y : α, kd.K W y (cs.drop o) ∧ good y
theorem fields_one {α : Type} {f : Field} {o : Nat} {kd : Kd α} {g : α → Prop} (ho : f.offset = o) (h : OpensAt F P f.type kd g) : FieldsAt F P [f] o kd g := by
  intro H enc W base spare held n cs xs hn hl hx hf hw
  have h1 := hf 0 f rfl
  match xs, hx with
  | [x], _ =>
    rw [ho, List.take_of_length_le (by rw [List.length_drop, ← h.sz]; omega)] at h1
    exact h.op hn h1 (fun m hm => hw m (by simp only [List.map, DataW.weightsEach]; exact List.mem_append_left _ hm))
theorem fields_cons {α β : Type} {f : Field} {fs : List Field} {o : Nat} {kd : Kd α} {kd' : Kd β} {g : α → Prop} {g' : β → Prop} (ho : f.offset = o) (h : OpensAt F P f.type kd g)
    (h' : FieldsAt F P fs (o + kd.sz) kd' g') : FieldsAt F P (f :: fs) o (Kd.pair kd kd') (fun y => g y.1 ∧ g' y.2) := by
  intro H enc W base spare held n cs xs hn hl hx hf hw
  match xs, hx with
  | x :: xs, hx =>
    have h1 := hf 0 f rfl
    rw [ho] at h1
    obtain ⟨y, hy, hg⟩ := h.op hn h1 (fun m hm => hw m (by simp only [List.map, DataW.weightsEach]; exact List.mem_append_left _ hm))
    have hsz : (Kd.pair kd kd').sz = kd.sz + kd'.sz := rfl
    obtain ⟨z, hz, hg'⟩ := h' (xs := xs) hn (by rw [hl, hsz]; omega) (by simpa using hx) (fun i f' hf' => by simpa using hf (i + 1) f' (by simpa using hf'))
      (fun m hm => hw m (by simp only [List.map, DataW.weightsEach]; exact List.mem_append_right _ hm))
    refine ⟨(y, z), ⟨_, _, ?_, hy, hz⟩, hg, hg'⟩
    rw [← h.sz, ← List.drop_drop, List.take_append_drop]
theorem at_struct {α : Type} {fs : Array Field} {fl : List Field} {kd : Kd α} {g : α → Prop} (hu : P.underlying t = some (.struct fs)) (hl : fs.toList = fl) (hc : P.cellsOf t = kd.sz) (h : FieldsAt F P fl 0 kd g) : OpensAt (F + 1) P t kd g where
  sz := hc.symm
  op := by
    intro H enc W base spare held fuel cs x hf h0 hw
    obtain ⟨xs, n, rfl, rfl, hcl, hxl, hx⟩ := DataW.trod_struct hu h0
    have := h (xs := xs) (n := n) (by omega) (by rw [hcl, hc]; omega) (by rw [hxl, ← hl]; simp) (fun i f hf => hx i f (by rw [← hl] at hf; simpa using hf)) (fun m hm => hw m (by
      simp only [DataW.weights, hu]
      rw [hl]
      exact hm))
    simpa using this
theorem at_iso {α β : Type} {kd : Kd α} {g : α → Prop} (f : β → α) (inv : α → β) (hi : ∀ x, f (inv x) = x) (h : OpensAt F P t kd g) : OpensAt F P t (Kd.iso kd f) (fun b => g (f b)) where
  sz := h.sz
  op := by
    intro H enc W base spare held fuel cs x hf h0 hw
    obtain ⟨y, hy, hg⟩ := h.op hf h0 hw
    refine ⟨inv y, ?_, ?_⟩
    · show kd.K W (f (inv y)) cs
      rw [hi]
      exact hy
    · show g (f (inv y))
      rw [hi]
      exact hg
theorem OpensAt.good_imp {α : Type} {kd : Kd α} {g g' : α → Prop} (h : OpensAt F P t kd g) (hg : ∀ x, g x → g' x) : OpensAt F P t kd g' where
  sz := h.sz
  op := fun hf h0 hw => by
    obtain ⟨y, hy, hgy⟩ := h.op hf h0 hw
    exact ⟨y, hy, hg y hgy⟩
theorem OpensAt.weaken {α : Type} {kd : Kd α} {g : α → Prop} (h : OpensAt (F + 1) P t kd g) : OpensAt F P t kd g where
  sz := h.sz
  op := fun hf h0 hw => h.op (Nat.le_succ_of_le hf) h0 hw
theorem opens_int {k : IntKind} (hu : P.underlying t = some (.int k)) (hc : P.cellsOf t = 1) : Opens P t (Kd.int k) (fun x => (Lit.int k x).wf = true) := fun _ => at_int hu hc
theorem opens_bool (hu : P.underlying t = some .bool) (hc : P.cellsOf t = 1) : Opens P t Kd.bool (fun _ => True) := fun _ => at_bool hu hc
theorem opens_string (hu : P.underlying t = some .string) (hc : P.cellsOf t = 1) : Opens P t Kd.string (fun s => s.size ≤ 140737488351232) := fun _ => at_string hu hc
theorem opens_slice {α : Type} {kd : Kd α} {g : α → Prop} {B : Nat} (hu : P.underlying t = some (.slice e)) (hc : P.cellsOf t = 1) (hB : P.bytesOf e = B) (he : Opens P e kd g) :
    Opens P t (Kd.slice e kd) (GoodL B g) := fun F => (at_slice hu hc hB (he F)).weaken
def Fields {α : Type} (P : Program) (fs : List Field) (o : Nat) (kd : Kd α) (good : α → Prop) : Prop := ∀ F, FieldsAt F P fs o kd good
theorem fields1 {α : Type} {f : Field} {o : Nat} {kd : Kd α} {g : α → Prop} (ho : f.offset = o) (h : Opens P f.type kd g) : Fields P [f] o kd g := fun F => fields_one ho (h F)
theorem fields2 {α β : Type} {f : Field} {fs : List Field} {o : Nat} {kd : Kd α} {kd' : Kd β} {g : α → Prop} {g' : β → Prop} (ho : f.offset = o) (h : Opens P f.type kd g)
    (h' : Fields P fs (o + kd.sz) kd' g') : Fields P (f :: fs) o (Kd.pair kd kd') (fun y => g y.1 ∧ g' y.2) := fun F => fields_cons ho (h F) (h' F)
theorem opens_struct {α : Type} {fs : Array Field} {fl : List Field} {kd : Kd α} {g : α → Prop} (hu : P.underlying t = some (.struct fs)) (hl : fs.toList = fl) (hc : P.cellsOf t = kd.sz) (h : Fields P fl 0 kd g) : Opens P t kd g :=
  fun F => (at_struct hu hl hc (h F)).weaken
theorem open_arg {α : Type} {kd : Kd α} {g : α → Prop} (h : ∀ F, OpensAt F P t kd g) {H : Type} {enc : TypeId × Value → H} {W : World} {base : Nat} {spare : Nat → Bool} {held : Bool} {v : Value} {d : DataW H} {ps : List MemPlace}
    {ts : List TypeId} {ds : List (DataW H)} {j : Nat} (hsz : (DataW.weightsEach P ts ds).all (· ≤ reachBytes) = true) (ht : ts[j]? = some t) (hd : ds[j]? = some d)
    (hr : DataW.Trod enc P W base spare held t v d ps) : ∃ y : α, kd.K W y v.cells.toList ∧ g y := by
  obtain ⟨fuel, hf⟩ := hr
  exact (h fuel).op (Nat.le_refl _) hf (fun m hm => by
    have := List.all_eq_true.1 hsz m (DataW.weights_mem_each ht hd m hm)
    simpa using this)
end Go.Proofs.Ytgjcffjicbmkhaa.Open
end

section
namespace Go.Proofs.Ytgjcffjicbmkhaa.MemO
open Go Go.RowKit Go.Proofs.YtgjcffjicbmkhaaW.PrintWords Go.Proofs.Ytgjcffjicbmkhaa.Open Go.Proofs.Ytgjcffjicbmkhaa.PF
def gI (x : Int) : Prop := (Lit.int .i64 x).wf = true
def gU (x : Int) : Prop := (Lit.int .u64 x).wf = true
theorem wf_u64 {x : Int} (h : (Lit.int .u64 x).wf = true) : 0 ≤ x ∧ x < 18446744073709551616 := by
  simp [Lit.wf, IntKind.min, IntKind.max, IntKind.signed, IntKind.bits] at h; omega
theorem o_int : Opens Try.prog 3 (Kd.int .i64) gI := opens_int Try.underlying3 (by kernel_rfl)
theorem o_u64 : Opens Try.prog 36 (Kd.int .u64) gU := opens_int Try.underlying36 (by kernel_rfl)
theorem o_shape : Opens Try.prog 28 k28 (fun _ => True) := fun F =>
  (at_iso (fun x : S28 => (x.f0, x.f1, x.f2)) (fun x => ⟨x.1, x.2.1, x.2.2⟩) (fun _ => rfl) ((opens_struct Try.underlying28 rfl (by kernel_rfl) (fields2 rfl o_int (fields2 rfl o_int (fields1 rfl o_int)))) F)).good_imp (fun _ _ => trivial)
def kW : Kd (Int × Int × Int) := Kd.pair (Kd.int .i64) (Kd.pair (Kd.int .i64) (Kd.int .u64))
theorem o_write : Opens Try.prog 38 kW (fun y => gI y.1 ∧ gI y.2.1 ∧ gU y.2.2) :=
  opens_struct Try.underlying38 rfl (by kernel_rfl) (fields2 rfl o_int (fields2 rfl o_int (fields1 rfl o_u64)))
theorem kW_open {w : World} {x : Int × Int × Int} {cs : List Value} (h : kW.K w x cs) : cs = [.int .i64 x.1, .int .i64 x.2.1, .int .u64 x.2.2] := by
  obtain ⟨c1, c2, rfl, h1, c3, c4, rfl, h2, h3⟩ := h
  obtain rfl : c1 = _ := h1
  obtain rfl : c3 = _ := h2
  obtain rfl : c4 = _ := h3
  rfl
def kMem : Kd (List S28 × List (Int × Int × Int)) := Kd.pair (Kd.slice 28 k28) (Kd.slice 38 kW)
def gMem (y : List S28 × List (Int × Int × Int)) : Prop := GoodL 24 (fun _ => True) y.1 ∧ GoodL 24 (fun y => gI y.1 ∧ gI y.2.1 ∧ gU y.2.2) y.2
theorem o_mem : Opens Try.prog 25 kMem gMem :=
  opens_struct Try.underlying25 rfl (by kernel_rfl) (fields2 rfl (opens_slice Try.underlying22 (by kernel_rfl) (by kernel_rfl) o_shape) (fields1 rfl (opens_slice Try.underlying23 (by kernel_rfl) (by kernel_rfl) o_write)))
theorem write_at {W : World} {A : Option Addr} {l : List (Int × Int × Int)} (h : Kd.C kW W A l.length l) (i : Nat) (x : Int × Int × Int) (hx : l[i]? = some x) : ∃ ad, A = some ad ∧ W.cell? (ad.add (i * 3)) = some (.int .i64 x.1) ∧ W.cell? ⟨(ad.add (i * 3)).block, (ad.add (i * 3)).off + 1, none⟩ = some (.int .i64 x.2.1) ∧ W.cell? ⟨(ad.add (i * 3)).block, (ad.add (i * 3)).off + 2, none⟩ = some (.int .u64 x.2.2) := by
  have hi := (List.getElem?_eq_some_iff.1 hx).1
  obtain ⟨ad, c, e, _, hK, hc0⟩ := Kd.C_get h (0, 0, 0) i (by omega) (by omega)
  have hc : ∀ j u, c[j]? = some u → W.cell? (ad.add (i * 3 + j)) = some u := hc0
  have hd : l.getD ((i : Int)).toNat (0, 0, 0) = x := by rw [Int.toNat_natCast, List.getD_eq_getElem?_getD, hx]; rfl
  rw [hd] at hK
  obtain rfl := kW_open hK
  exact ⟨ad, e, hc 0 _ rfl, by rw [← add_field _ _ 1 (by omega)]; exact hc 1 _ rfl, by rw [← add_field _ _ 2 (by omega)]; exact hc 2 _ rfl⟩
end Go.Proofs.Ytgjcffjicbmkhaa.MemO
end

section
namespace Go.Proofs.Ytgjcffjicbmkhaa.FillL
open Go Go.RowKit Go.Proofs.YtgjcffjicbmkhaaW.PrintWords Go.Proofs.YtgjcffjicbmkhaaW.PrintLast Go.Proofs.YtgjcffjicbmkhaaW.PrintMore Go.Proofs.Ytgjcffjicbmkhaa.PF Go.Proofs.Ytgjcffjicbmkhaa.RowU Go.Proofs.Ytgjcffjicbmkhaa.ArS Go.Proofs.Ytgjcffjicbmkhaa.ArM Go.Proofs.Ytgjcffjicbmkhaa.ArX Go.Proofs.Ytgjcffjicbmkhaa.ArY Go.Proofs.Ytgjcffjicbmkhaa.GenM Go.Proofs.Ytgjcffjicbmkhaa.TakS
set_option linter.unusedVariables false
set_option maxRecDepth 100000
theorem used_step {l : List S28} {i : Nat} {k r s : Nat} (h : l[i]? = some ⟨k, r, s⟩) : used (obsOf (l.take (i + 1))) = used (obsOf (l.take i)) + (1 + (r + s)) := by
  rw [used_snoc' l i _ h]; simp
theorem obs_step {l : List S28} {i : Nat} {k r s : Nat} (h : l[i]? = some ⟨k, r, s⟩) : obsOf (l.take (i + 1)) = obsOf (l.take i) ++ [newOb k r s] := by
  rw [obsOf_snoc l i _ h]; simp [obOf]
def placesV (l : List S28) (i : Nat) : List Value := (List.range i).map fun k => .int .i64 (place (obsOf l) k : Int)
theorem placesV_succ (l : List S28) (i : Nat) (hi : i ≤ l.length) : placesV l (i + 1) = placesV l i ++ [.int .i64 (used (obsOf (l.take i)) : Int)] := by
  unfold placesV
  rw [List.range_succ, List.map_append]
  simp [place, obsOf, List.map_take]
theorem wrap3 {a : Int} (h0 : 0 ≤ a) (h1 : a < 9223372036854775808) : wrap64 a = a := ArW.w64_small a h0 h1
structure Filled (W w' : World) (l : List S28) (g gw gf : Nat) (v : Value) : Prop where
  ar : ArAt w' g gw gf (used (obsOf l)) (obsOf l)
  at_ : GV 3 w' v (placesV l l.length)
  g0 : W.heap.size ≤ g
  gw0 : W.heap.size ≤ gw
  gf0 : W.heap.size ≤ gf
  v0 : ∀ k, v.ownBlock = some k → W.heap.size ≤ k
  below : Below W.heap.size W w'
structure Mid (W wr : World) (l : List S28) (N i : Nat) (g gw gf : Nat) (v : Value) : Prop where
  ar : ArAt wr g gw gf N (obsOf (l.take i))
  at_ : GV 3 wr v (placesV l i)
  g0 : W.heap.size ≤ g
  gw0 : W.heap.size ≤ gw
  gf0 : W.heap.size ≤ gf
  v0 : ∀ k, v.ownBlock = some k → W.heap.size ≤ k
  below : Below W.heap.size W wr
theorem gv_not_ar {T : TypeId} {W : World} {v : Value} {lst : List Value} {g gw gf sz : Nat} {l : List Ob} (h : GV T W v lst) (hA : ArAt W g gw gf sz l) (h1 : T ≠ 112) (h2 : T ≠ 36) : ∀ k, v.ownBlock = some k → ¬ three_ g gw gf k := by
  intro k hk
  have ht : ∃ cs, W.heap[k]? = some (.cells cs T (0, 0)) := by
    rcases h with ⟨rfl, _⟩ | ⟨b, cap, hv, hb⟩
    · cases hk
    · rw [hv] at hk
      obtain rfl := Option.some.inj hk
      obtain ⟨cur, h1, _⟩ := hb
      exact ⟨_, h1⟩
  obtain ⟨cs, hcs⟩ := ht
  obtain ⟨cw, cf, fs, hA⟩ := hA
  rintro (rfl | rfl | rfl)
  · have := hA.hd.symm.trans hcs; simp at this; exact h1 this.2.symm
  · obtain ⟨cur, h3, _⟩ := hA.ws; have := h3.symm.trans hcs; simp at this; exact h2 this.2.symm
  · obtain ⟨cur, h3, _⟩ := hA.fb; have := h3.symm.trans hcs; simp at this; exact h2 this.2.symm
theorem three_ge {B g gw gf : Nat} (h1 : B ≤ g) (h2 : B ≤ gw) (h3 : B ≤ gf) : ∀ i, three_ g gw gf i → B ≤ i := by
  rintro i (rfl | rfl | rfl)
  · exact h1
  · exact h2
  · exact h3
def Cells3 (W2 : World) (ad : Addr) (i k r s : Nat) : Prop := W2.cell? (ad.add (i * 3)) = some (.int .i64 (k : Int)) ∧ W2.cell? ⟨(ad.add (i * 3)).block, (ad.add (i * 3)).off + 1, none⟩ = some (.int .i64 (r : Int)) ∧ W2.cell? ⟨(ad.add (i * 3)).block, (ad.add (i * 3)).off + 2, none⟩ = some (.int .i64 (s : Int))
theorem cells3 {W2 : World} {A : Option Addr} {l : List S28} (h : Kd.C k28 W2 A l.length l) {i k r s : Nat} (hi : i < l.length) (hrd : rd_T28 l i = ⟨k, r, s⟩) : ∃ ad, A = some ad ∧ Cells3 W2 ad i k r s := by
  obtain ⟨ad, hA, hx0, hx1, hx2⟩ := at_T28 h i (by omega) (by omega)
  rw [hrd] at hx0 hx1 hx2
  simp only [Int.toNat_natCast] at hx0 hx1 hx2
  exact ⟨ad, hA, hx0, hx1, hx2⟩
theorem cells3' {W2 : World} {ad : Addr} {l : List S28} (h : Kd.C k28 W2 (some ad) l.length l) {i k r s : Nat} (hi : i < l.length) (hrd : rd_T28 l i = ⟨k, r, s⟩) : Cells3 W2 ad i k r s := by
  obtain ⟨ad', hA, hx⟩ := cells3 h hi hrd
  obtain rfl := Option.some.inj hA
  exact hx
set_option maxHeartbeats 4000000 in
theorem fill.calls (l : List S28) (A : Option Addr) (c : Nat) (W : World) (hC : Kd.C k28 W A l.length l) (hc : l.length ≤ c) (hok : ∀ x ∈ l, ShOk x) (hlen : l.length ≤ 2001) :
    Calls Try.prog 11 #[.slice A l.length c] W fun e w' => ∃ g gw gf v, e = .returned (.tuple #[.pointer (some ⟨g, 0, none⟩), v, .bool true]) ∧ Filled W w' l g gw gf v := by
  have HC := Aside0.mk hC
  have HOK : Aside0 (∀ i : Nat, i < l.length → ∃ k r s : Nat, l[i]? = some ⟨k, r, s⟩ ∧ rd_T28 l i = ⟨k, r, s⟩ ∧ 1 ≤ k ∧ k ≤ 255 ∧ r ≤ 24 ∧ s ≤ 24) := ⟨fun i hi => by
    have h1 := rd_get l i hi
    obtain ⟨k, r, s, h2, h3⟩ := sh_nat (hok _ (List.mem_of_getElem? h1))
    exact ⟨k, r, s, by rw [h1, h2], h2, h3⟩⟩
  have HUB : Aside0 (used (obsOf l) ≤ 98050) := ⟨by have := used_bound l hok; omega⟩
  clear hC hok
  go_enter Try.func11, Try.ntmps11
  go_wp2_with fail
  go_loopw [5, 6] (fun n i wr => ∃ k : Nat, k ≤ l.length ∧ i = .int .i64 k ∧ Aside0 (n = .int .i64 (used (obsOf (l.take k)) : Int)) ∧ Aside0 (Below W.heap.size W wr)) (fun _ i _ => l.length - (intOf i).toNat)
  case atStart => exact ⟨0, Nat.zero_le _, rfl, ⟨rfl⟩, ⟨Below.refl _ _⟩⟩
  case round =>
    obtain ⟨i, hi, rfl, HN, HB⟩ := hrel
    rename World => wr
    obtain ⟨u, hu⟩ : ∃ u, u = used (obsOf (l.take i)) := ⟨_, rfl⟩
    have HU := Aside0.mk hu
    have hub : u ≤ 98050 := by have := used_mono l i; have := HUB.out; omega
    have hn := HN.out
    rw [← hu] at hn
    subst hn
    clear HN hu
    by_cases hlt : i < l.length
    · have hlt' : (i : Int) < l.length := by omega
      obtain ⟨k, r, s, hx, hrd, h1, h2, h3, h4⟩ := HOK.out i hlt
      obtain ⟨ad, hA, hx0, hx1, hx2⟩ := at_T28 (Kd.C_below HC.out HB.out) i (by omega) hlt'
      rw [hrd] at hx0 hx1 hx2
      simp only [Int.toNat_natCast] at hx0 hx1 hx2
      subst hA
      have HX := Aside0.mk hx
      obtain ⟨a1, ha1⟩ : ∃ a1, a1 = u + 1 := ⟨_, rfl⟩
      obtain ⟨a2, ha2⟩ : ∃ a2, a2 = a1 + r := ⟨_, rfl⟩
      obtain ⟨a3, ha3⟩ : ∃ a3, a3 = a2 + s := ⟨_, rfl⟩
      have HA3 : Aside0 (a3 = u + (1 + (r + s))) := ⟨by omega⟩
      obtain ⟨⟨e1, f1⟩, ⟨e2, f2⟩, e3, f3⟩ := And.intro (NumB.sum_i (u : Int) 1 a1 (by omega) (by omega)) (And.intro (NumB.sum_i (a1 : Int) r a2 (by omega) (by omega)) (NumB.sum_i (a2 : Int) s a3 (by omega) (by omega)))
      clear hx hrd ha1 ha2 ha3
      go_wp2_with fail
      go_quiet (fail)
      go_wp2_with fail
      go_roundw
      case rel => exact ⟨i + 1, by omega, by go_num, ⟨by rw [used_step HX.out, ← HU.out, HA3.out]⟩, ⟨pw_below_drewN HB.out _⟩⟩
      case measure => simp [intOf]; omega
    · obtain rfl : i = l.length := by omega
      have hU2 : u = used (obsOf l) := by rw [HU.out, List.take_length]
      have hu1 : 1 ≤ u := by rw [hU2]; exact used_pos _
      have HNew := Aside0.mk (fun W2 => new.calls W2 u hu1 (by omega))
      have HU2 := Aside0.mk hU2
      clear hU2 HU hlt
      go_wp2_with fail
      refine (HNew.out _).mono ?_
      rintro e w2 ⟨g, gw, gf, rfl, n1, n2, n3, n4, n5⟩
      have HN := Aside0.mk (And.intro n1 (And.intro n2 (And.intro n3 (And.intro n4 n5))))
      clear n1 n2 n3 n4 n5
      go_wp2_with fail
      refine (num.calls _ _).mono ?_
      rintro e w3 ⟨rfl, rfl⟩
      go_wp2_with fail
      go_loopw [9, 10, 11] (fun v n i wr => ∃ k : Nat, k ≤ l.length ∧ i = .int .i64 k ∧ Aside0 (n = .int .i64 (used (obsOf (l.take k)) : Int)) ∧ ∃ gw gf, Aside0 (Mid W wr l u k g gw gf v)) (fun _ _ i _ => l.length - (intOf i).toNat)
      case atStart =>
        refine ⟨0, Nat.zero_le _, rfl, ⟨rfl⟩, gw, gf, ⟨HN.out.1, GV.nil _ _, ?_, ?_, ?_, fun k hk => (by cases hk), ?_⟩⟩
        · exact Nat.le_trans HB.out.size HN.out.2.1
        · exact Nat.le_trans HB.out.size HN.out.2.2.1
        · exact Nat.le_trans HB.out.size HN.out.2.2.2.1
        · exact below_next HB.out HN.out.2.2.2.2
      case round =>
        obtain ⟨i, hi2, rfl, HNX, gw2, gf2, HM⟩ := hrel
        clear HB HN
        obtain ⟨y, hy⟩ : ∃ y, y = used (obsOf (l.take i)) := ⟨_, rfl⟩
        have hyb : y ≤ u := by rw [HU2.out, hy]; exact used_mono l i
        have hn := HNX.out
        rw [← hy] at hn
        subst hn
        have HY := Aside0.mk hy
        clear HNX hy
        by_cases hlt : i < l.length
        · have hlt' : (i : Int) < l.length := by omega
          obtain ⟨k, r, s, hx, hrd, h1, h2, h3, h4⟩ := HOK.out i hlt
          have hfit : y + (1 + (r + s)) ≤ u := by
            have := used_step hx
            have h6 := used_mono l (i + 1)
            have h7 := HU2.out
            rw [HY.out, ← this]; omega
          have HAl := Aside0.mk (fun W2 (hA : ArAt W2 g gw2 gf2 u (obsOf (l.take i))) => alloc.yes hA k r s ⟨h1, h2⟩ (by omega) (by omega) (by rw [← HY.out]; exact hfit))
          rw [← HY.out] at HAl
          obtain ⟨ad, hA, hx0, hx1, hx2⟩ := cells3 (Kd.C_below HC.out HM.out.below) hlt hrd
          subst hA
          have HX := Aside0.mk hx
          have HX3 : Aside0 (∀ W2, Below W.heap.size W W2 → Cells3 W2 ad i k r s) := ⟨fun W2 hb => cells3' (Kd.C_below HC.out hb) hlt hrd⟩
          obtain ⟨a1, ha1⟩ : ∃ a1, a1 = y + 1 := ⟨_, rfl⟩
          obtain ⟨a2, ha2⟩ : ∃ a2, a2 = a1 + r := ⟨_, rfl⟩
          obtain ⟨a3, ha3⟩ : ∃ a3, a3 = a2 + s := ⟨_, rfl⟩
          have HA3 : Aside0 (a3 = y + (1 + (r + s))) := ⟨by omega⟩
          have HE := Aside0.mk (And.intro (NumB.sum_i (y : Int) 1 a1 (by omega) (by omega)) (And.intro (NumB.sum_i (a1 : Int) r a2 (by omega) (by omega)) (NumB.sum_i (a2 : Int) s a3 (by omega) (by omega))))
          clear hx hrd ha1 ha2 ha3
          have HD := Aside0.mk (HM.out.ar.below (Below.refl wr.heap.size wr).drew)
          go_wp2_with fail
          go_region_held3 (fun w' => w'.cell? (ad.add (i * 3)) = some (.int .i64 (k : Int)) ∧ w'.cell? ⟨(ad.add (i * 3)).block, (ad.add (i * 3)).off + 1, none⟩ = some (.int .i64 (r : Int)) ∧ w'.cell? ⟨(ad.add (i * 3)).block, (ad.add (i * 3)).off + 2, none⟩ = some (.int .i64 (s : Int))) (first | exact ⟨hx0, hx1, hx2⟩ | exact HK5.out) (first | (go_at_call 35; refine (HAl.out _ HD.out).mono ?_; rintro e w5 ⟨rfl, gw5, gf5, r1, r2, r3, r4⟩; have R := Aside0.mk (And.intro r1 (And.intro r2 (And.intro r3 r4))); have HB5 := Aside0.mk (Upd.to_below (HM.out.below.drew) R.out.2.2.2 HM.out.below.size (three_ge HM.out.g0 HM.out.gw0 HM.out.gf0)); have HK5 := Aside0.mk (HX3.out w5 HB5.out); clear r1 r2 r3 r4 HAl))
          clear hx0 hx1 hx2
          go_wp2_with fail
          refine (num.calls _ _).mono ?_
          rintro e w6 ⟨rfl, rfl⟩
          have HU5 := Aside0.mk (((Upd.refl (three_ g gw2 gf2) wr).drew).trans R.out.2.2.2)
          have HV5 := Aside0.mk (HM.out.at_.upd HU5.out (gv_not_ar HM.out.at_ HM.out.ar (by decide) (by decide)))
          go_upto_region 18 with ((with_reducible refine gate_builtin (b := .append) (xs := #[.tmp 82, .tmp 84]) rfl ?_); at_builtin; refine wpList_gen _ rfl (.tmp 82) (.tmp 84) 30 3 rfl Try.underlying30 (.int .i64 0) 8 (by kernel_rfl) rfl (by decide) u9 (placesV l i) rfl ?hv ⟨w6.heap.size, 0, none⟩ (.int .i64 (y : Int)) rfl ?hc rfl ?hb ?_; (case hv => exact HV5.out.upd (S := none_) (Upd.of_below (below_alloc (Below.refl _ _) _)) (fun _ _ h => h)); (case hc => exact cell_one_new _ _ _ 0 _ rfl); (case hb => simp [placesV]; omega); intro v7 w7 hv7 ho7 hu7; have R7 := Aside0.mk (And.intro hv7 (And.intro ho7 hu7)); clear hv7 ho7 hu7)
          have HA7 := Aside0.mk ((R.out.1.below (below_alloc (Below.refl w6.heap.size w6) (.cells #[.int .i64 (y : Int)] 3))).upd R7.out.2.2 (fun hh => gv_not_ar HV5.out R.out.1 (by decide) (by decide) _ hh (.inl rfl)) (fun hh => gv_not_ar HV5.out R.out.1 (by decide) (by decide) _ hh (.inr (.inl rfl))) (fun hh => gv_not_ar HV5.out R.out.1 (by decide) (by decide) _ hh (.inr (.inr rfl))))
          have HB7 := Aside0.mk (Upd.to_below (below_alloc HB5.out (.cells #[.int .i64 (y : Int)] 3)) R7.out.2.2 (Nat.le_trans HB5.out.size (below_alloc (Below.refl w6.heap.size w6) _).size) (fun j hj => HM.out.v0 j hj))
          have HS6 : Aside0 (W.heap.size ≤ w6.heap.size ∧ w6.heap.size ≤ (w6.alloc (.cells #[.int .i64 (y : Int)] 3)).heap.size) := ⟨HB5.out.size, (below_alloc (Below.refl w6.heap.size w6) _).size⟩
          have HC7 := HX3.out w7 HB7.out
          obtain ⟨hx0, hx1, hx2⟩ := HC7
          obtain ⟨⟨e1, f1⟩, ⟨e2, f2⟩, e3, f3⟩ := HE.out
          go_quiet (fail)
          go_wp2_with fail
          go_roundw
          case rel =>
            refine ⟨i + 1, by omega, by go_num, ⟨by rw [used_step HX.out, ← HY.out, HA3.out]⟩, gw5, gf5, ⟨?_, ?_, HM.out.g0, ?_, ?_, ?_, pw_below_drewN HB7.out _⟩⟩
            · rw [obs_step HX.out]; exact HA7.out.below (pw_below_drewN (Below.refl _ _) _)
            · rw [placesV_succ l i hi2, ← HY.out]; exact R7.out.1.upd (S := none_) (Upd.of_below (pw_below_drewN (Below.refl _ _) _)) (fun _ _ h => h)
            · rcases R.out.2.1 with h | h
              · rw [h]; exact HM.out.gw0
              · exact Nat.le_trans HM.out.below.size h
            · rcases R.out.2.2.1 with h | h
              · rw [h]; exact HM.out.gf0
              · exact Nat.le_trans HM.out.below.size h
            · intro j hj
              rcases R7.out.2.1 j hj with h | h
              · exact HM.out.v0 j h
              · exact Nat.le_trans HS6.out.1 (Nat.le_trans HS6.out.2 h)
          case measure => simp [intOf]; omega
        · obtain rfl : i = l.length := by omega
          have HM2 : Aside0 (ArAt wr g gw2 gf2 (used (obsOf l)) (obsOf l)) := ⟨by have := HM.out.ar; rw [List.take_length, HU2.out] at this; exact this⟩
          have HF := Aside0.mk (fun W2 (hA : ArAt W2 g gw2 gf2 (used (obsOf l)) (obsOf l)) => alloc.full hA 1 0 0 (by omega) (by omega) (by omega) (by omega))
          have HUs := Aside0.mk (fun W2 (hA : ArAt W2 g gw2 gf2 (used (obsOf l)) (obsOf l)) => used.calls hA)
          have HSz := Aside0.mk (fun W2 (hA : ArAt W2 g gw2 gf2 (used (obsOf l)) (obsOf l)) => size.calls hA)
          rw [← HU2.out] at HM2 HF HUs HSz
          clear hlt
          go_wp2_with fail
          refine (HF.out _ HM2.out).mono ?_
          rintro e w5 ⟨rfl, hb⟩
          have H5 := Aside0.mk hb
          have HM5 := Aside0.mk (HM2.out.below hb)
          clear hb HF
          go_wp2_with fail
          refine (num.calls _ _).mono ?_
          rintro e w6 ⟨rfl, rfl⟩
          go_wp2_with fail
          refine (HUs.out _ HM5.out).mono ?_
          rintro e w7 ⟨rfl, hb⟩
          have H7 := Aside0.mk (below_next H5.out hb)
          have HM7 := Aside0.mk (HM5.out.below hb)
          clear hb HUs
          go_wp2_with fail
          refine (HSz.out _ HM7.out).mono ?_
          rintro e w8 ⟨rfl, hb⟩
          have H8 := Aside0.mk (below_next H7.out hb)
          have HM8 := Aside0.mk (HM7.out.below hb)
          clear hb HSz
          go_wp2_with fail
          go_ret3
          refine ⟨g, gw2, gf2, u9, by simp, ⟨?_, ?_, HM.out.g0, HM.out.gw0, HM.out.gf0, HM.out.v0, ?_⟩⟩
          · rw [← HU2.out]; exact HM8.out
          · exact HM.out.at_.upd (S := none_) (Upd.of_below H8.out) (fun _ _ h => h)
          · exact below_next HM.out.below H8.out
end Go.Proofs.Ytgjcffjicbmkhaa.FillL
end
