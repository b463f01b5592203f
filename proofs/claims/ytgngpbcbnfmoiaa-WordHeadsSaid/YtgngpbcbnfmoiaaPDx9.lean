-- PRINTED by print.py (a twelfth state) out of the translation. Not trusted: Lean checks it.
import Derived.Test.YtgngpbcbnfmoiaaPDx0
import Derived.Test.YtgngpbcbnfmoiaaPDx8
namespace Go.Proofs.Ytgngpbcbnfmoiaa.PD
open Go.RowKit Go.Proofs.YtgngpbcbnfmoiaaW.PrintWords Go.Proofs.YtgngpbcbnfmoiaaW.PrintLast Go.Proofs.YtgngpbcbnfmoiaaW.PrintMore
attribute [local go_sem] max2_int min2_int max_two min_two max_three min_three max_four min_four   -- for this text's walks alone
open Go.Proofs.Ytgngpbcbnfmoiaa.PA Go.Proofs.Ytgngpbcbnfmoiaa.PB
set_option linter.unusedVariables false
set_option linter.unusedSimpArgs false

/-! ### larderref1_Split: function 87 -/
def larderref1_Split.f (a0 : Int) : Option (Int × Int × Int × Int) := (larderref1_Head.f (wrap64 (Int.tmod a0 256)) (wrap64 (Int.tmod (IntKind.u64.wrap (Int.tdiv a0 256)) 16777216)) (wrap64 (Int.tmod (IntKind.u64.wrap (Int.tdiv a0 4294967296)) 16777216))).bind fun bt119 => (if bt119.2 = 0 then (if bt119.1 = a0 then (some (wrap64 (Int.tmod a0 256), wrap64 (Int.tmod (IntKind.u64.wrap (Int.tdiv a0 256)) 16777216), wrap64 (Int.tmod (IntKind.u64.wrap (Int.tdiv a0 4294967296)) 16777216), 0)) else (some (0, 0, 0, 10))) else (some (0, 0, 0, 10)))
set_option maxHeartbeats 8000000 in
set_option maxRecDepth 100000 in
theorem larderref1_Split.calls (a0 : Int) (r1 : Int) (r2 : Int) (r3 : Int) (r4 : Int) (w : World) (h : larderref1_Split.f a0 = some (r1, r2, r3, r4)) :
    Calls Try.prog 87 #[.int .u64 a0] w fun e w' => e = .returned (.tuple #[.int .i64 r1, .int .i64 r2, .int .i64 r3, .int .i64 r4]) ∧ Drawn0 w w' := by
  have H : ((larderref1_Head.f (wrap64 (Int.tmod a0 256)) (wrap64 (Int.tmod (IntKind.u64.wrap (Int.tdiv a0 256)) 16777216)) (wrap64 (Int.tmod (IntKind.u64.wrap (Int.tdiv a0 4294967296)) 16777216))).bind fun bt119 => (if bt119.2 = 0 then (if bt119.1 = a0 then (some (wrap64 (Int.tmod a0 256), wrap64 (Int.tmod (IntKind.u64.wrap (Int.tdiv a0 256)) 16777216), wrap64 (Int.tmod (IntKind.u64.wrap (Int.tdiv a0 4294967296)) 16777216), 0)) else (some (0, 0, 0, 10))) else (some (0, 0, 0, 10)))) = some (r1, r2, r3, r4) := h
  clear h
  replace H := Option.bind_eq_some_iff.mp H
  obtain ⟨⟨t119, t120⟩, A20, H⟩ := H
  replace H : (if t120 = 0 then (if t119 = a0 then (some (wrap64 (Int.tmod a0 256), wrap64 (Int.tmod (IntKind.u64.wrap (Int.tdiv a0 256)) 16777216), wrap64 (Int.tmod (IntKind.u64.wrap (Int.tdiv a0 4294967296)) 16777216), 0)) else (some (0, 0, 0, 10))) else (some (0, 0, 0, 10))) = some (r1, r2, r3, r4) := H
  have A2 := Aside0.mk A20
  clear A20
  by_cases c3 : t120 = 0
  · rw [if_pos c3] at H
    have c3b0 : (t120 == 0) = true := beq_iff_eq.mpr c3
    have c3b1 : (t120 != 0) = false := bne_eq_false_iff_eq.mpr c3
    clear c3
    by_cases c4 : t119 = a0
    · rw [if_pos c4] at H
      have c4b0 : (t119 == a0) = true := beq_iff_eq.mpr c4
      have c4b1 : (t119 != a0) = false := bne_eq_false_iff_eq.mpr c4
      clear c4
      simp only [Option.some.injEq, Prod.mk.injEq] at H
      obtain ⟨rfl, rfl, rfl, rfl⟩ := H
      go_enter Try.func87, Try.ntmps87
      go_wp2_with (first | ((with_reducible refine gate_callee (f := 86) rfl ?_); refine goesL_ (some 26) rfl rfl Try.func86 (by kernel_rfl) rfl #[.int .i64 (wrap64 (Int.tmod a0 256)), .int .i64 (wrap64 (Int.tmod (IntKind.u64.wrap (Int.tdiv a0 256)) 16777216)), .int .i64 (wrap64 (Int.tmod (IntKind.u64.wrap (Int.tdiv a0 4294967296)) 16777216))] rfl (by (try simp only [List.map_toArray, List.map_cons, List.map_nil]); first | done | rfl | (simp only [List.length_drop, List.length_take]; rfl)) ?_; (with_reducible refine (larderref1_Head.calls (wrap64 (Int.tmod a0 256)) (wrap64 (Int.tmod (IntKind.u64.wrap (Int.tdiv a0 256)) 16777216)) (wrap64 (Int.tmod (IntKind.u64.wrap (Int.tdiv a0 4294967296)) 16777216)) t119 t120 _ A2.out).mono ?_); rintro e w' ⟨rfl, ⟨nd, rfl⟩⟩; refine ⟨_, rfl, ?_⟩))
      refine bodyPost_ret (results_list (rs := [.tmp 2, .tmp 3, .tmp 4, .tmp 5]) rfl (by simp) (.tmp (.tmp (.tmp (.tmp .nil))))) rfl ?_
      exact ⟨by first | rfl | (simp; done) | (simp [*]; done), by repeat (first | exact Drawn0.refl _ | apply Drawn0.step)⟩
    · rw [if_neg c4] at H
      have c4b0 : (t119 == a0) = false := beq_eq_false_iff_ne.mpr c4
      have c4b1 : (t119 != a0) = true := bne_iff_ne.mpr c4
      simp only [Option.some.injEq, Prod.mk.injEq] at H
      obtain ⟨rfl, rfl, rfl, rfl⟩ := H
      go_enter Try.func87, Try.ntmps87
      go_wp2_with (first | ((with_reducible refine gate_callee (f := 86) rfl ?_); refine goesL_ (some 26) rfl rfl Try.func86 (by kernel_rfl) rfl #[.int .i64 (wrap64 (Int.tmod a0 256)), .int .i64 (wrap64 (Int.tmod (IntKind.u64.wrap (Int.tdiv a0 256)) 16777216)), .int .i64 (wrap64 (Int.tmod (IntKind.u64.wrap (Int.tdiv a0 4294967296)) 16777216))] rfl (by (try simp only [List.map_toArray, List.map_cons, List.map_nil]); first | done | rfl | (simp only [List.length_drop, List.length_take]; rfl)) ?_; (with_reducible refine (larderref1_Head.calls (wrap64 (Int.tmod a0 256)) (wrap64 (Int.tmod (IntKind.u64.wrap (Int.tdiv a0 256)) 16777216)) (wrap64 (Int.tmod (IntKind.u64.wrap (Int.tdiv a0 4294967296)) 16777216)) t119 t120 _ A2.out).mono ?_); rintro e w' ⟨rfl, ⟨nd, rfl⟩⟩; refine ⟨_, rfl, ?_⟩))
      refine bodyPost_ret (results_list (rs := [.tmp 2, .tmp 3, .tmp 4, .tmp 5]) rfl (by simp) (.tmp (.tmp (.tmp (.tmp .nil))))) rfl ?_
      exact ⟨by first | rfl | (simp; done) | (simp [*]; done), by repeat (first | exact Drawn0.refl _ | apply Drawn0.step)⟩
  · rw [if_neg c3] at H
    have c3b0 : (t120 == 0) = false := beq_eq_false_iff_ne.mpr c3
    have c3b1 : (t120 != 0) = true := bne_iff_ne.mpr c3
    simp only [Option.some.injEq, Prod.mk.injEq] at H
    obtain ⟨rfl, rfl, rfl, rfl⟩ := H
    go_enter Try.func87, Try.ntmps87
    go_wp2_with (first | ((with_reducible refine gate_callee (f := 86) rfl ?_); refine goesL_ (some 26) rfl rfl Try.func86 (by kernel_rfl) rfl #[.int .i64 (wrap64 (Int.tmod a0 256)), .int .i64 (wrap64 (Int.tmod (IntKind.u64.wrap (Int.tdiv a0 256)) 16777216)), .int .i64 (wrap64 (Int.tmod (IntKind.u64.wrap (Int.tdiv a0 4294967296)) 16777216))] rfl (by (try simp only [List.map_toArray, List.map_cons, List.map_nil]); first | done | rfl | (simp only [List.length_drop, List.length_take]; rfl)) ?_; (with_reducible refine (larderref1_Head.calls (wrap64 (Int.tmod a0 256)) (wrap64 (Int.tmod (IntKind.u64.wrap (Int.tdiv a0 256)) 16777216)) (wrap64 (Int.tmod (IntKind.u64.wrap (Int.tdiv a0 4294967296)) 16777216)) t119 t120 _ A2.out).mono ?_); rintro e w' ⟨rfl, ⟨nd, rfl⟩⟩; refine ⟨_, rfl, ?_⟩))
    refine bodyPost_ret (results_list (rs := [.tmp 2, .tmp 3, .tmp 4, .tmp 5]) rfl (by simp) (.tmp (.tmp (.tmp (.tmp .nil))))) rfl ?_
    exact ⟨by first | rfl | (simp; done) | (simp [*]; done), by repeat (first | exact Drawn0.refl _ | apply Drawn0.step)⟩

end Go.Proofs.Ytgngpbcbnfmoiaa.PD
