-- PRINTED by print.py (a twelfth state) out of the translation. Not trusted: Lean checks it.
import Derived.Test.YtgngpbcbnfmoiaaPPx0
import Derived.Test.YtgngpbcbnfmoiaaPPx1
import Derived.Test.YtgngpbcbnfmoiaaPPx2
import Derived.Test.YtgngpbcbnfmoiaaPPx3
import Derived.Test.YtgngpbcbnfmoiaaPPx4
import Derived.Test.YtgngpbcbnfmoiaaPAx2
import Derived.Test.YtgngpbcbnfmoiaaPAx7
namespace Go.Proofs.Ytgngpbcbnfmoiaa.PP
open Go.RowKit Go.Proofs.YtgngpbcbnfmoiaaW.PrintWords Go.Proofs.YtgngpbcbnfmoiaaW.PrintLast Go.Proofs.YtgngpbcbnfmoiaaW.PrintMore
attribute [local go_sem] max2_int min2_int max_two min_two max_three min_three max_four min_four   -- for this text's walks alone
open Go.Proofs.Ytgngpbcbnfmoiaa.PA Go.Proofs.Ytgngpbcbnfmoiaa.PB Go.Proofs.Ytgngpbcbnfmoiaa.PD Go.Proofs.Ytgngpbcbnfmoiaa.PK
set_option linter.unusedVariables false
set_option linter.unusedSimpArgs false

/-! ### larderlaw1_WordPlace: function 8 -/
mutual
def larderlaw1_WordPlace.l0 : Nat → List (S71) → Int → Option (Bool)
  | 0, _, _ => none
  | k + 1, x0, x3 => if x3 < (x0.length : Int) then (larderlaw1_WordPlace.j1 k x0 x3 (decide (x3 < 400))) else (larderlaw1_WordPlace.j1 k x0 x3 false)
def larderlaw1_WordPlace.j1 : Nat → List (S71) → Int → Bool → Option (Bool)
  | 0, _, _, _ => none
  | k + 1, x0, x3, x15 => if x15 = true then (if 0 ≤ x3 then (if x3 < (x0.length : Int) then ((larderlaw1_Lend.f ((rd_T71 x0 x3).f7)).bind fun t154 => ((larderlaw1_Other.f k ((rd_T71 x0 x3).f7)).bind fun t157 => ((word_Pack.f k t154).bind fun t160 => ((larderlaw1_places.f k ((rd_T71 x0 x3).f0) ((rd_T71 x0 x3).f1) ((rd_T71 x0 x3).f2) ((rd_T71 x0 x3).f3) ((rd_T71 x0 x3).f4) ((rd_T71 x0 x3).f5) ((rd_T71 x0 x3).f6) ((rd_T71 x0 x3).f7) ((rd_T71 x0 x3).f8) t154 ((rd_T71 x0 x3).f7)).bind fun t163 => (if t163 = true then ((larderlaw1_Into.f k t154 t157).bind fun t164 => ((larderlaw1_places.f k ((rd_T71 x0 x3).f0) ((rd_T71 x0 x3).f1) ((rd_T71 x0 x3).f2) ((rd_T71 x0 x3).f3) ((rd_T71 x0 x3).f4) ((rd_T71 x0 x3).f5) ((rd_T71 x0 x3).f6) ((rd_T71 x0 x3).f7) ((rd_T71 x0 x3).f8) t164 t157).bind fun t165 => (if t165 = true then ((larderref1_Pack.f k ((rd_T71 x0 x3).f7)).bind fun t166 => ((larderlaw1_sameWords.f k t160 t166).bind fun t169 => (larderlaw1_WordPlace.j2 k x0 x3 t164 (!t169) ((rd_T71 x0 x3).f0) ((rd_T71 x0 x3).f1) ((rd_T71 x0 x3).f2) ((rd_T71 x0 x3).f3) ((rd_T71 x0 x3).f4) ((rd_T71 x0 x3).f5) ((rd_T71 x0 x3).f6) ((rd_T71 x0 x3).f7) ((rd_T71 x0 x3).f8)))) else (larderlaw1_WordPlace.j2 k x0 x3 t164 true ((rd_T71 x0 x3).f0) ((rd_T71 x0 x3).f1) ((rd_T71 x0 x3).f2) ((rd_T71 x0 x3).f3) ((rd_T71 x0 x3).f4) ((rd_T71 x0 x3).f5) ((rd_T71 x0 x3).f6) ((rd_T71 x0 x3).f7) ((rd_T71 x0 x3).f8))))) else (some false)))))) else (none)) else (none)) else (some true)
def larderlaw1_WordPlace.j2 : Nat → List (S71) → Int → List Int → Bool → Int → Int → Int → Int → Int → Int → Int → List Int → List Int → Option (Bool)
  | 0, _, _, _, _, _, _, _, _, _, _, _, _, _ => none
  | k + 1, x0, x3, x5, x51, x154000, x154001, x154002, x154003, x154004, x154005, x154006, x154007, x154008 => if x51 = true then (some false) else ((larderlaw1_Into.f k x5 x154007).bind fun t170 => ((larderlaw1_places.f k x154000 x154001 x154002 x154003 x154004 x154005 x154006 x154007 x154008 t170 x154007).bind fun t171 => (if t171 = true then (if x154000 = 5 then ((larderlaw1_unpacks.f k x154000 x154001 x154002 x154003 x154004 x154005 x154006 x154007 x154008).bind fun t172 => (if t172 = true then (larderlaw1_WordPlace.l0 k x0 (wrap64 (x3 + 1))) else (some false))) else (larderlaw1_WordPlace.l0 k x0 (wrap64 (x3 + 1)))) else (some false))))
end
def larderlaw1_WordPlace.f (k : Nat) (l0 : List (S71)) : Option (Bool) := larderlaw1_WordPlace.l0 k l0 0
theorem larderlaw1_WordPlace.mono_l : ∀ k, (∀ y0 y1, LeO (larderlaw1_WordPlace.l0 k y0 y1) (larderlaw1_WordPlace.l0 (k + 1) y0 y1)) ∧ (∀ y0 y1 y2, LeO (larderlaw1_WordPlace.j1 k y0 y1 y2) (larderlaw1_WordPlace.j1 (k + 1) y0 y1 y2)) ∧ (∀ y0 y1 y2 y3 y4 y5 y6 y7 y8 y9 y10 y11 y12, LeO (larderlaw1_WordPlace.j2 k y0 y1 y2 y3 y4 y5 y6 y7 y8 y9 y10 y11 y12) (larderlaw1_WordPlace.j2 (k + 1) y0 y1 y2 y3 y4 y5 y6 y7 y8 y9 y10 y11 y12))
  | 0 => ⟨fun _ _ r h => by simp [larderlaw1_WordPlace.l0] at h, fun _ _ _ r h => by simp [larderlaw1_WordPlace.j1] at h, fun _ _ _ _ _ _ _ _ _ _ _ _ _ r h => by simp [larderlaw1_WordPlace.j2] at h⟩
  | k + 1 => by
    obtain ⟨ih0, ih1, ih2⟩ := larderlaw1_WordPlace.mono_l k
    refine ⟨?_, ?_, ?_⟩
    · intro y0 y1
      unfold larderlaw1_WordPlace.l0
      repeat' first
      | (with_reducible exact ih0 _ _)
      | (with_reducible exact ih1 _ _ _)
      | (with_reducible exact ih2 _ _ _ _ _ _ _ _ _ _ _ _ _)
      | (with_reducible exact larderlaw1_Into.mono _ _ _)
      | (with_reducible exact larderlaw1_Other.mono _ _)
      | (with_reducible exact larderlaw1_places.mono _ _ _ _ _ _ _ _ _ _ _ _)
      | (with_reducible exact larderlaw1_sameWords.mono _ _ _)
      | (with_reducible exact larderlaw1_unpacks.mono _ _ _ _ _ _ _ _ _ _)
      | (with_reducible exact larderref1_Pack.mono _ _)
      | (with_reducible exact word_Pack.mono _ _)
      | (with_reducible exact LeO.refl _)
      | (with_reducible exact LeO.none _)
      | (with_reducible refine LeO.ite ?_ ?_)
      | (with_reducible refine LeO.bind ?_ (fun _ => ?_))
      | exact ih0 _ _
      | exact ih1 _ _ _
      | exact ih2 _ _ _ _ _ _ _ _ _ _ _ _ _
      | exact larderlaw1_Into.mono _ _ _
      | exact larderlaw1_Other.mono _ _
      | exact larderlaw1_places.mono _ _ _ _ _ _ _ _ _ _ _ _
      | exact larderlaw1_sameWords.mono _ _ _
      | exact larderlaw1_unpacks.mono _ _ _ _ _ _ _ _ _ _
      | exact larderref1_Pack.mono _ _
      | exact word_Pack.mono _ _
      | exact LeO.none _
      | refine LeO.ite ?_ ?_
      | refine LeO.bind ?_ (fun _ => ?_)
    · intro y0 y1 y2
      unfold larderlaw1_WordPlace.j1
      repeat' first
      | (with_reducible exact ih0 _ _)
      | (with_reducible exact ih1 _ _ _)
      | (with_reducible exact ih2 _ _ _ _ _ _ _ _ _ _ _ _ _)
      | (with_reducible exact larderlaw1_Into.mono _ _ _)
      | (with_reducible exact larderlaw1_Other.mono _ _)
      | (with_reducible exact larderlaw1_places.mono _ _ _ _ _ _ _ _ _ _ _ _)
      | (with_reducible exact larderlaw1_sameWords.mono _ _ _)
      | (with_reducible exact larderlaw1_unpacks.mono _ _ _ _ _ _ _ _ _ _)
      | (with_reducible exact larderref1_Pack.mono _ _)
      | (with_reducible exact word_Pack.mono _ _)
      | (with_reducible exact LeO.refl _)
      | (with_reducible exact LeO.none _)
      | (with_reducible refine LeO.ite ?_ ?_)
      | (with_reducible refine LeO.bind ?_ (fun _ => ?_))
      | exact ih0 _ _
      | exact ih1 _ _ _
      | exact ih2 _ _ _ _ _ _ _ _ _ _ _ _ _
      | exact larderlaw1_Into.mono _ _ _
      | exact larderlaw1_Other.mono _ _
      | exact larderlaw1_places.mono _ _ _ _ _ _ _ _ _ _ _ _
      | exact larderlaw1_sameWords.mono _ _ _
      | exact larderlaw1_unpacks.mono _ _ _ _ _ _ _ _ _ _
      | exact larderref1_Pack.mono _ _
      | exact word_Pack.mono _ _
      | exact LeO.none _
      | refine LeO.ite ?_ ?_
      | refine LeO.bind ?_ (fun _ => ?_)
    · intro y0 y1 y2 y3 y4 y5 y6 y7 y8 y9 y10 y11 y12
      unfold larderlaw1_WordPlace.j2
      repeat' first
      | (with_reducible exact ih0 _ _)
      | (with_reducible exact ih1 _ _ _)
      | (with_reducible exact ih2 _ _ _ _ _ _ _ _ _ _ _ _ _)
      | (with_reducible exact larderlaw1_Into.mono _ _ _)
      | (with_reducible exact larderlaw1_Other.mono _ _)
      | (with_reducible exact larderlaw1_places.mono _ _ _ _ _ _ _ _ _ _ _ _)
      | (with_reducible exact larderlaw1_sameWords.mono _ _ _)
      | (with_reducible exact larderlaw1_unpacks.mono _ _ _ _ _ _ _ _ _ _)
      | (with_reducible exact larderref1_Pack.mono _ _)
      | (with_reducible exact word_Pack.mono _ _)
      | (with_reducible exact LeO.refl _)
      | (with_reducible exact LeO.none _)
      | (with_reducible refine LeO.ite ?_ ?_)
      | (with_reducible refine LeO.bind ?_ (fun _ => ?_))
      | exact ih0 _ _
      | exact ih1 _ _ _
      | exact ih2 _ _ _ _ _ _ _ _ _ _ _ _ _
      | exact larderlaw1_Into.mono _ _ _
      | exact larderlaw1_Other.mono _ _
      | exact larderlaw1_places.mono _ _ _ _ _ _ _ _ _ _ _ _
      | exact larderlaw1_sameWords.mono _ _ _
      | exact larderlaw1_unpacks.mono _ _ _ _ _ _ _ _ _ _
      | exact larderref1_Pack.mono _ _
      | exact word_Pack.mono _ _
      | exact LeO.none _
      | refine LeO.ite ?_ ?_
      | refine LeO.bind ?_ (fun _ => ?_)
theorem larderlaw1_WordPlace.mono : ∀ a0 k, LeO (larderlaw1_WordPlace.f k a0) (larderlaw1_WordPlace.f (k + 1) a0) := by
  intro a0 k
  obtain ⟨ih0, ih1, ih2⟩ := larderlaw1_WordPlace.mono_l k
  unfold larderlaw1_WordPlace.f
  repeat' first
      | (with_reducible exact ih0 _ _)
      | (with_reducible exact ih1 _ _ _)
      | (with_reducible exact ih2 _ _ _ _ _ _ _ _ _ _ _ _ _)
      | (with_reducible exact larderlaw1_Into.mono _ _ _)
      | (with_reducible exact larderlaw1_Other.mono _ _)
      | (with_reducible exact larderlaw1_places.mono _ _ _ _ _ _ _ _ _ _ _ _)
      | (with_reducible exact larderlaw1_sameWords.mono _ _ _)
      | (with_reducible exact larderlaw1_unpacks.mono _ _ _ _ _ _ _ _ _ _)
      | (with_reducible exact larderref1_Pack.mono _ _)
      | (with_reducible exact word_Pack.mono _ _)
      | (with_reducible exact LeO.refl _)
      | (with_reducible exact LeO.none _)
      | (with_reducible refine LeO.ite ?_ ?_)
      | (with_reducible refine LeO.bind ?_ (fun _ => ?_))
      | exact ih0 _ _
      | exact ih1 _ _ _
      | exact ih2 _ _ _ _ _ _ _ _ _ _ _ _ _
      | exact larderlaw1_Into.mono _ _ _
      | exact larderlaw1_Other.mono _ _
      | exact larderlaw1_places.mono _ _ _ _ _ _ _ _ _ _ _ _
      | exact larderlaw1_sameWords.mono _ _ _
      | exact larderlaw1_unpacks.mono _ _ _ _ _ _ _ _ _ _
      | exact larderref1_Pack.mono _ _
      | exact word_Pack.mono _ _
      | exact LeO.none _
      | refine LeO.ite ?_ ?_
      | refine LeO.bind ?_ (fun _ => ?_)
set_option maxHeartbeats 8000000 in
set_option maxRecDepth 100000 in
theorem larderlaw1_WordPlace.calls (k : Nat) (A0 : Option Addr) (c0 : Nat) (l0 : List (S71)) (r : Bool) (w : World) (hr0 : Kd.C k71 w A0 l0.length l0) (hc0 : l0.length ≤ c0) (h : larderlaw1_WordPlace.f k l0 = some r) :
    Calls Try.prog 8 #[.slice A0 l0.length c0] w fun e w' => e = .returned (.bool r) ∧ Below w.heap.size w w' := by
  have hu71 := Try.underlying71
  have HR0 := Aside0.mk hr0
  have HC0 := Aside0.mk hc0
  clear hr0 hc0
  have HB := Aside0.mk (Below.refl w.heap.size w)
  have H : (larderlaw1_WordPlace.l0 k l0 0) = some r := h
  clear h
  have H' := Aside0.mk H
  clear H
  go_enter Try.func8, Try.ntmps8
  go_wp2
  go_loopg [3] k (fun kq v3 w' => ∃ (x3_1 : Int), v3 = .int .i64 x3_1 ∧ Aside0 (larderlaw1_WordPlace.l0 kq l0 x3_1 = some r) ∧ Aside0 (kq ≤ k) ∧ Aside0 (Below w.heap.size w w'))
  case atStart => exact ⟨(0), (by first | rfl | (simp; done) | (simp [*]; done)), H', ⟨Nat.le_refl _⟩, ⟨by repeat (first | (with_reducible first | exact HB.out | apply below_alloc | apply pw_below_drewN | apply below_drew1) | exact HB.out)⟩⟩
  case round =>
    clear H'
    obtain ⟨x3_1, rfl, HA, HK1, HB⟩ := hrel
    cases gk with
    | zero => exact absurd HA.out (by simp [larderlaw1_WordPlace.l0])
    | succ k1 =>
      have H := HA.out
      clear HA
      simp only [larderlaw1_WordPlace.l0] at H
      have HC2 := Aside0.mk H
      clear H
      go_upto_region 2 with (fail)
      go_cut [15] (fun v15 wc => ∃ (kq : Nat) (x15_1 : Bool), v15 = .bool x15_1 ∧ Aside0 (larderlaw1_WordPlace.j1 kq l0 x3_1 x15_1 = some r) ∧ Aside0 (kq ≤ k1) ∧ Aside0 (Below w.heap.size w wc))
      case first =>
        have H := HC2.out
        clear HC2
        by_cases c3 : x3_1 < (l0.length : Int)
        · rw [if_pos c3] at H
          have c3b0 : decide (x3_1 < (l0.length : Int)) = true := decide_eq_true c3
          clear c3
          (first | rw [c3b0] | (simp only [i64_w, i32_w]; rw [c3b0]) | skip)
          have H' := Aside0.mk H
          clear H
          go_wp2
          go_meet
          case rel => exact ⟨_, (decide (x3_1 < 400)), (by first | rfl | (simp; done) | (simp [*]; done)), H', ⟨by have := HK1.out; first | omega | exact Nat.le_refl _⟩, ⟨by repeat (first | (with_reducible first | exact HB.out | apply below_alloc | apply pw_below_drewN | apply below_drew1) | exact HB.out)⟩⟩
        · rw [if_neg c3] at H
          have c3b0 : decide (x3_1 < (l0.length : Int)) = false := decide_eq_false c3
          clear c3
          (first | rw [c3b0] | (simp only [i64_w, i32_w]; rw [c3b0]) | skip)
          have H' := Aside0.mk H
          clear H
          go_wp2
          go_meet
          case rel => exact ⟨_, (false), (by first | rfl | (simp; done) | (simp [*]; done)), H', ⟨by have := HK1.out; first | omega | exact Nat.le_refl _⟩, ⟨by repeat (first | (with_reducible first | exact HB.out | apply below_alloc | apply pw_below_drewN | apply below_drew1) | exact HB.out)⟩⟩
      case rest =>
        clear HC2
        try clear p2
        try clear c3
        try clear c3b0
        obtain ⟨kq, x15_1, rfl, HA, HJ1, HB⟩ := hcut
        cases kq with
        | zero => exact absurd HA.out (by simp [larderlaw1_WordPlace.j1])
        | succ kj1 =>
          have H := HA.out
          clear HA
          simp only [larderlaw1_WordPlace.j1] at H
          by_cases c4 : x15_1 = true
          · subst c4
            have H1 : (if 0 ≤ x3_1 then (if x3_1 < (l0.length : Int) then ((larderlaw1_Lend.f ((rd_T71 l0 x3_1).f7)).bind fun t154 => ((larderlaw1_Other.f kj1 ((rd_T71 l0 x3_1).f7)).bind fun t157 => ((word_Pack.f kj1 t154).bind fun t160 => ((larderlaw1_places.f kj1 ((rd_T71 l0 x3_1).f0) ((rd_T71 l0 x3_1).f1) ((rd_T71 l0 x3_1).f2) ((rd_T71 l0 x3_1).f3) ((rd_T71 l0 x3_1).f4) ((rd_T71 l0 x3_1).f5) ((rd_T71 l0 x3_1).f6) ((rd_T71 l0 x3_1).f7) ((rd_T71 l0 x3_1).f8) t154 ((rd_T71 l0 x3_1).f7)).bind fun t163 => (if t163 = true then ((larderlaw1_Into.f kj1 t154 t157).bind fun t164 => ((larderlaw1_places.f kj1 ((rd_T71 l0 x3_1).f0) ((rd_T71 l0 x3_1).f1) ((rd_T71 l0 x3_1).f2) ((rd_T71 l0 x3_1).f3) ((rd_T71 l0 x3_1).f4) ((rd_T71 l0 x3_1).f5) ((rd_T71 l0 x3_1).f6) ((rd_T71 l0 x3_1).f7) ((rd_T71 l0 x3_1).f8) t164 t157).bind fun t165 => (if t165 = true then ((larderref1_Pack.f kj1 ((rd_T71 l0 x3_1).f7)).bind fun t166 => ((larderlaw1_sameWords.f kj1 t160 t166).bind fun t169 => (larderlaw1_WordPlace.j2 kj1 l0 x3_1 t164 (!t169) ((rd_T71 l0 x3_1).f0) ((rd_T71 l0 x3_1).f1) ((rd_T71 l0 x3_1).f2) ((rd_T71 l0 x3_1).f3) ((rd_T71 l0 x3_1).f4) ((rd_T71 l0 x3_1).f5) ((rd_T71 l0 x3_1).f6) ((rd_T71 l0 x3_1).f7) ((rd_T71 l0 x3_1).f8)))) else (larderlaw1_WordPlace.j2 kj1 l0 x3_1 t164 true ((rd_T71 l0 x3_1).f0) ((rd_T71 l0 x3_1).f1) ((rd_T71 l0 x3_1).f2) ((rd_T71 l0 x3_1).f3) ((rd_T71 l0 x3_1).f4) ((rd_T71 l0 x3_1).f5) ((rd_T71 l0 x3_1).f6) ((rd_T71 l0 x3_1).f7) ((rd_T71 l0 x3_1).f8))))) else (some false)))))) else (none)) else (none)) = some r := by rw [if_pos rfl] at H; exact H
            clear H
            have H := H1
            clear H1
            by_cases c5 : 0 ≤ x3_1
            · rw [if_pos c5] at H
              have c5b0 : decide (0 ≤ x3_1) = true := decide_eq_true c5
              clear c5
              by_cases c6 : x3_1 < (l0.length : Int)
              · rw [if_pos c6] at H
                have c6b0 : decide (x3_1 < (l0.length : Int)) = true := decide_eq_true c6
                clear c6
                replace H := Option.bind_eq_some_iff.mp H
                obtain ⟨t154, A70, H⟩ := H
                replace H : ((larderlaw1_Other.f kj1 ((rd_T71 l0 x3_1).f7)).bind fun t157 => ((word_Pack.f kj1 t154).bind fun t160 => ((larderlaw1_places.f kj1 ((rd_T71 l0 x3_1).f0) ((rd_T71 l0 x3_1).f1) ((rd_T71 l0 x3_1).f2) ((rd_T71 l0 x3_1).f3) ((rd_T71 l0 x3_1).f4) ((rd_T71 l0 x3_1).f5) ((rd_T71 l0 x3_1).f6) ((rd_T71 l0 x3_1).f7) ((rd_T71 l0 x3_1).f8) t154 ((rd_T71 l0 x3_1).f7)).bind fun t163 => (if t163 = true then ((larderlaw1_Into.f kj1 t154 t157).bind fun t164 => ((larderlaw1_places.f kj1 ((rd_T71 l0 x3_1).f0) ((rd_T71 l0 x3_1).f1) ((rd_T71 l0 x3_1).f2) ((rd_T71 l0 x3_1).f3) ((rd_T71 l0 x3_1).f4) ((rd_T71 l0 x3_1).f5) ((rd_T71 l0 x3_1).f6) ((rd_T71 l0 x3_1).f7) ((rd_T71 l0 x3_1).f8) t164 t157).bind fun t165 => (if t165 = true then ((larderref1_Pack.f kj1 ((rd_T71 l0 x3_1).f7)).bind fun t166 => ((larderlaw1_sameWords.f kj1 t160 t166).bind fun t169 => (larderlaw1_WordPlace.j2 kj1 l0 x3_1 t164 (!t169) ((rd_T71 l0 x3_1).f0) ((rd_T71 l0 x3_1).f1) ((rd_T71 l0 x3_1).f2) ((rd_T71 l0 x3_1).f3) ((rd_T71 l0 x3_1).f4) ((rd_T71 l0 x3_1).f5) ((rd_T71 l0 x3_1).f6) ((rd_T71 l0 x3_1).f7) ((rd_T71 l0 x3_1).f8)))) else (larderlaw1_WordPlace.j2 kj1 l0 x3_1 t164 true ((rd_T71 l0 x3_1).f0) ((rd_T71 l0 x3_1).f1) ((rd_T71 l0 x3_1).f2) ((rd_T71 l0 x3_1).f3) ((rd_T71 l0 x3_1).f4) ((rd_T71 l0 x3_1).f5) ((rd_T71 l0 x3_1).f6) ((rd_T71 l0 x3_1).f7) ((rd_T71 l0 x3_1).f8))))) else (some false))))) = some r := H
                have A7 := Aside0.mk A70
                clear A70
                replace H := Option.bind_eq_some_iff.mp H
                obtain ⟨t157, A80, H⟩ := H
                replace H : ((word_Pack.f kj1 t154).bind fun t160 => ((larderlaw1_places.f kj1 ((rd_T71 l0 x3_1).f0) ((rd_T71 l0 x3_1).f1) ((rd_T71 l0 x3_1).f2) ((rd_T71 l0 x3_1).f3) ((rd_T71 l0 x3_1).f4) ((rd_T71 l0 x3_1).f5) ((rd_T71 l0 x3_1).f6) ((rd_T71 l0 x3_1).f7) ((rd_T71 l0 x3_1).f8) t154 ((rd_T71 l0 x3_1).f7)).bind fun t163 => (if t163 = true then ((larderlaw1_Into.f kj1 t154 t157).bind fun t164 => ((larderlaw1_places.f kj1 ((rd_T71 l0 x3_1).f0) ((rd_T71 l0 x3_1).f1) ((rd_T71 l0 x3_1).f2) ((rd_T71 l0 x3_1).f3) ((rd_T71 l0 x3_1).f4) ((rd_T71 l0 x3_1).f5) ((rd_T71 l0 x3_1).f6) ((rd_T71 l0 x3_1).f7) ((rd_T71 l0 x3_1).f8) t164 t157).bind fun t165 => (if t165 = true then ((larderref1_Pack.f kj1 ((rd_T71 l0 x3_1).f7)).bind fun t166 => ((larderlaw1_sameWords.f kj1 t160 t166).bind fun t169 => (larderlaw1_WordPlace.j2 kj1 l0 x3_1 t164 (!t169) ((rd_T71 l0 x3_1).f0) ((rd_T71 l0 x3_1).f1) ((rd_T71 l0 x3_1).f2) ((rd_T71 l0 x3_1).f3) ((rd_T71 l0 x3_1).f4) ((rd_T71 l0 x3_1).f5) ((rd_T71 l0 x3_1).f6) ((rd_T71 l0 x3_1).f7) ((rd_T71 l0 x3_1).f8)))) else (larderlaw1_WordPlace.j2 kj1 l0 x3_1 t164 true ((rd_T71 l0 x3_1).f0) ((rd_T71 l0 x3_1).f1) ((rd_T71 l0 x3_1).f2) ((rd_T71 l0 x3_1).f3) ((rd_T71 l0 x3_1).f4) ((rd_T71 l0 x3_1).f5) ((rd_T71 l0 x3_1).f6) ((rd_T71 l0 x3_1).f7) ((rd_T71 l0 x3_1).f8))))) else (some false)))) = some r := H
                have A8 := Aside0.mk A80
                clear A80
                replace H := Option.bind_eq_some_iff.mp H
                obtain ⟨t160, A90, H⟩ := H
                replace H : ((larderlaw1_places.f kj1 ((rd_T71 l0 x3_1).f0) ((rd_T71 l0 x3_1).f1) ((rd_T71 l0 x3_1).f2) ((rd_T71 l0 x3_1).f3) ((rd_T71 l0 x3_1).f4) ((rd_T71 l0 x3_1).f5) ((rd_T71 l0 x3_1).f6) ((rd_T71 l0 x3_1).f7) ((rd_T71 l0 x3_1).f8) t154 ((rd_T71 l0 x3_1).f7)).bind fun t163 => (if t163 = true then ((larderlaw1_Into.f kj1 t154 t157).bind fun t164 => ((larderlaw1_places.f kj1 ((rd_T71 l0 x3_1).f0) ((rd_T71 l0 x3_1).f1) ((rd_T71 l0 x3_1).f2) ((rd_T71 l0 x3_1).f3) ((rd_T71 l0 x3_1).f4) ((rd_T71 l0 x3_1).f5) ((rd_T71 l0 x3_1).f6) ((rd_T71 l0 x3_1).f7) ((rd_T71 l0 x3_1).f8) t164 t157).bind fun t165 => (if t165 = true then ((larderref1_Pack.f kj1 ((rd_T71 l0 x3_1).f7)).bind fun t166 => ((larderlaw1_sameWords.f kj1 t160 t166).bind fun t169 => (larderlaw1_WordPlace.j2 kj1 l0 x3_1 t164 (!t169) ((rd_T71 l0 x3_1).f0) ((rd_T71 l0 x3_1).f1) ((rd_T71 l0 x3_1).f2) ((rd_T71 l0 x3_1).f3) ((rd_T71 l0 x3_1).f4) ((rd_T71 l0 x3_1).f5) ((rd_T71 l0 x3_1).f6) ((rd_T71 l0 x3_1).f7) ((rd_T71 l0 x3_1).f8)))) else (larderlaw1_WordPlace.j2 kj1 l0 x3_1 t164 true ((rd_T71 l0 x3_1).f0) ((rd_T71 l0 x3_1).f1) ((rd_T71 l0 x3_1).f2) ((rd_T71 l0 x3_1).f3) ((rd_T71 l0 x3_1).f4) ((rd_T71 l0 x3_1).f5) ((rd_T71 l0 x3_1).f6) ((rd_T71 l0 x3_1).f7) ((rd_T71 l0 x3_1).f8))))) else (some false))) = some r := H
                have A9 := Aside0.mk A90
                clear A90
                replace H := Option.bind_eq_some_iff.mp H
                obtain ⟨t163, A100, H⟩ := H
                replace H : (if t163 = true then ((larderlaw1_Into.f kj1 t154 t157).bind fun t164 => ((larderlaw1_places.f kj1 ((rd_T71 l0 x3_1).f0) ((rd_T71 l0 x3_1).f1) ((rd_T71 l0 x3_1).f2) ((rd_T71 l0 x3_1).f3) ((rd_T71 l0 x3_1).f4) ((rd_T71 l0 x3_1).f5) ((rd_T71 l0 x3_1).f6) ((rd_T71 l0 x3_1).f7) ((rd_T71 l0 x3_1).f8) t164 t157).bind fun t165 => (if t165 = true then ((larderref1_Pack.f kj1 ((rd_T71 l0 x3_1).f7)).bind fun t166 => ((larderlaw1_sameWords.f kj1 t160 t166).bind fun t169 => (larderlaw1_WordPlace.j2 kj1 l0 x3_1 t164 (!t169) ((rd_T71 l0 x3_1).f0) ((rd_T71 l0 x3_1).f1) ((rd_T71 l0 x3_1).f2) ((rd_T71 l0 x3_1).f3) ((rd_T71 l0 x3_1).f4) ((rd_T71 l0 x3_1).f5) ((rd_T71 l0 x3_1).f6) ((rd_T71 l0 x3_1).f7) ((rd_T71 l0 x3_1).f8)))) else (larderlaw1_WordPlace.j2 kj1 l0 x3_1 t164 true ((rd_T71 l0 x3_1).f0) ((rd_T71 l0 x3_1).f1) ((rd_T71 l0 x3_1).f2) ((rd_T71 l0 x3_1).f3) ((rd_T71 l0 x3_1).f4) ((rd_T71 l0 x3_1).f5) ((rd_T71 l0 x3_1).f6) ((rd_T71 l0 x3_1).f7) ((rd_T71 l0 x3_1).f8))))) else (some false)) = some r := H
                have A10 := Aside0.mk A100
                clear A100
                by_cases c11 : t163 = true
                · subst c11
                  have H1 : ((larderlaw1_Into.f kj1 t154 t157).bind fun t164 => ((larderlaw1_places.f kj1 ((rd_T71 l0 x3_1).f0) ((rd_T71 l0 x3_1).f1) ((rd_T71 l0 x3_1).f2) ((rd_T71 l0 x3_1).f3) ((rd_T71 l0 x3_1).f4) ((rd_T71 l0 x3_1).f5) ((rd_T71 l0 x3_1).f6) ((rd_T71 l0 x3_1).f7) ((rd_T71 l0 x3_1).f8) t164 t157).bind fun t165 => (if t165 = true then ((larderref1_Pack.f kj1 ((rd_T71 l0 x3_1).f7)).bind fun t166 => ((larderlaw1_sameWords.f kj1 t160 t166).bind fun t169 => (larderlaw1_WordPlace.j2 kj1 l0 x3_1 t164 (!t169) ((rd_T71 l0 x3_1).f0) ((rd_T71 l0 x3_1).f1) ((rd_T71 l0 x3_1).f2) ((rd_T71 l0 x3_1).f3) ((rd_T71 l0 x3_1).f4) ((rd_T71 l0 x3_1).f5) ((rd_T71 l0 x3_1).f6) ((rd_T71 l0 x3_1).f7) ((rd_T71 l0 x3_1).f8)))) else (larderlaw1_WordPlace.j2 kj1 l0 x3_1 t164 true ((rd_T71 l0 x3_1).f0) ((rd_T71 l0 x3_1).f1) ((rd_T71 l0 x3_1).f2) ((rd_T71 l0 x3_1).f3) ((rd_T71 l0 x3_1).f4) ((rd_T71 l0 x3_1).f5) ((rd_T71 l0 x3_1).f6) ((rd_T71 l0 x3_1).f7) ((rd_T71 l0 x3_1).f8))))) = some r := by rw [if_pos rfl] at H; exact H
                  clear H
                  have H := H1
                  clear H1
                  replace H := Option.bind_eq_some_iff.mp H
                  obtain ⟨t164, A120, H⟩ := H
                  replace H : ((larderlaw1_places.f kj1 ((rd_T71 l0 x3_1).f0) ((rd_T71 l0 x3_1).f1) ((rd_T71 l0 x3_1).f2) ((rd_T71 l0 x3_1).f3) ((rd_T71 l0 x3_1).f4) ((rd_T71 l0 x3_1).f5) ((rd_T71 l0 x3_1).f6) ((rd_T71 l0 x3_1).f7) ((rd_T71 l0 x3_1).f8) t164 t157).bind fun t165 => (if t165 = true then ((larderref1_Pack.f kj1 ((rd_T71 l0 x3_1).f7)).bind fun t166 => ((larderlaw1_sameWords.f kj1 t160 t166).bind fun t169 => (larderlaw1_WordPlace.j2 kj1 l0 x3_1 t164 (!t169) ((rd_T71 l0 x3_1).f0) ((rd_T71 l0 x3_1).f1) ((rd_T71 l0 x3_1).f2) ((rd_T71 l0 x3_1).f3) ((rd_T71 l0 x3_1).f4) ((rd_T71 l0 x3_1).f5) ((rd_T71 l0 x3_1).f6) ((rd_T71 l0 x3_1).f7) ((rd_T71 l0 x3_1).f8)))) else (larderlaw1_WordPlace.j2 kj1 l0 x3_1 t164 true ((rd_T71 l0 x3_1).f0) ((rd_T71 l0 x3_1).f1) ((rd_T71 l0 x3_1).f2) ((rd_T71 l0 x3_1).f3) ((rd_T71 l0 x3_1).f4) ((rd_T71 l0 x3_1).f5) ((rd_T71 l0 x3_1).f6) ((rd_T71 l0 x3_1).f7) ((rd_T71 l0 x3_1).f8)))) = some r := H
                  have A12 := Aside0.mk A120
                  clear A120
                  have HC13 := Aside0.mk H
                  clear H
                  have p152 : 0 ≤ (x3_1 : Int) := of_decide_eq_true (by first | (with_reducible assumption) | assumption)
                  have q152 : x3_1 < (l0.length : Int) := of_decide_eq_true (by first | (with_reducible assumption) | assumption)
                  obtain ⟨ad152, A152_7, c152_7, A152_8, c152_8, e152, hx152_0, hx152_1, hx152_2, hx152_3, hx152_4, hx152_5, hx152_6, hx152_7, hx152_8, hl152_7, hi152_7, hl152_8, hi152_8⟩ := at_T71 HR0.out x3_1 p152 q152
                  cases e152
                  replace hx152_0 := (HB.out.cell (World.block_lt_of_cell? w _ hx152_0)).trans hx152_0
                  replace hx152_1 := (HB.out.cell (World.block_lt_of_cell? w _ hx152_1)).trans hx152_1
                  replace hx152_2 := (HB.out.cell (World.block_lt_of_cell? w _ hx152_2)).trans hx152_2
                  replace hx152_3 := (HB.out.cell (World.block_lt_of_cell? w _ hx152_3)).trans hx152_3
                  replace hx152_4 := (HB.out.cell (World.block_lt_of_cell? w _ hx152_4)).trans hx152_4
                  replace hx152_5 := (HB.out.cell (World.block_lt_of_cell? w _ hx152_5)).trans hx152_5
                  replace hx152_6 := (HB.out.cell (World.block_lt_of_cell? w _ hx152_6)).trans hx152_6
                  replace hx152_7 := (HB.out.cell (World.block_lt_of_cell? w _ hx152_7)).trans hx152_7
                  replace hx152_8 := (HB.out.cell (World.block_lt_of_cell? w _ hx152_8)).trans hx152_8
                  have HR152_7 := Aside0.mk hi152_7
                  have HC152_7 := Aside0.mk hl152_7
                  clear hi152_7 hl152_7
                  have HR152_8 := Aside0.mk hi152_8
                  have HC152_8 := Aside0.mk hl152_8
                  clear hi152_8 hl152_8
                  replace p152 := eq_true p152
                  replace q152 := eq_true q152
                  go_upto_region 11 with (first | ((with_reducible refine gate_dst (N := 4) rfl ?_); refine box_event ?hg (N := 4) ?hd (cs := #[.int .i64 0, .int .i64 0, .int .i64 0, .int .i64 0, .int .i64 0, .int .i64 0, .int .u64 0, .slice none 0 0, .slice none 0 0]) (t := 71) ?hr ?_; (case hd => rfl); (case hg => rfl); (case hr => first | (go_simp; done) | (go_simp; rfl)); intro gb153 hg w14 hbox hb; have n0_ := Aside0.mk (below_step (by repeat (first | (with_reducible first | exact HB.out | apply below_alloc | apply pw_below_drewN | apply below_drew1) | exact HB.out)) hb); have n1_ := Aside0.mk (hbox); have n2_ := Aside0.mk ((by rw [hg]; exact (below_size (by repeat (first | (with_reducible first | exact HB.out | apply below_alloc | apply pw_below_drewN | apply below_drew1) | exact HB.out))) : w.heap.size ≤ gb153)); have n3_ := Aside0.mk ((by rw [hg]; exact (below_size (by repeat (first | (with_reducible first | exact HB.out | apply below_alloc | apply pw_below_drewN | apply below_drew1) | exact HB.out))) : w.heap.size ≤ gb153)); clear HB; have HB := n0_; have BK153 := n1_; have GW153 := n2_; have GE153 := n3_; clear n0_ n1_ n2_ n3_; clear hb hbox hg; have hcz15_0 : w14.cell? ⟨gb153, 0, none⟩ = some (.int .i64 0) := (blk_cell BK153.out 0).trans rfl; have hcz15_1 : w14.cell? ⟨gb153, 1, none⟩ = some (.int .i64 0) := (blk_cell BK153.out 1).trans rfl; have hcz15_2 : w14.cell? ⟨gb153, 2, none⟩ = some (.int .i64 0) := (blk_cell BK153.out 2).trans rfl; have hcz15_3 : w14.cell? ⟨gb153, 3, none⟩ = some (.int .i64 0) := (blk_cell BK153.out 3).trans rfl; have hcz15_4 : w14.cell? ⟨gb153, 4, none⟩ = some (.int .i64 0) := (blk_cell BK153.out 4).trans rfl; have hcz15_5 : w14.cell? ⟨gb153, 5, none⟩ = some (.int .i64 0) := (blk_cell BK153.out 5).trans rfl; have hcz15_6 : w14.cell? ⟨gb153, 6, none⟩ = some (.int .u64 0) := (blk_cell BK153.out 6).trans rfl; have hcz15_7 : w14.cell? ⟨gb153, 7, none⟩ = some (.slice none 0 0) := (blk_cell BK153.out 7).trans rfl; have hcz15_8 : w14.cell? ⟨gb153, 8, none⟩ = some (.slice none 0 0) := (blk_cell BK153.out 8).trans rfl; have hfz15_0 := blk_frozen BK153.out 0; have hfz15_1 := blk_frozen BK153.out 1; have hfz15_2 := blk_frozen BK153.out 2; have hfz15_3 := blk_frozen BK153.out 3; have hfz15_4 := blk_frozen BK153.out 4; have hfz15_5 := blk_frozen BK153.out 5; have hfz15_6 := blk_frozen BK153.out 6; have hfz15_7 := blk_frozen BK153.out 7; have hfz15_8 := blk_frozen BK153.out 8) | ((with_reducible refine gate_callee (f := 37) rfl ?_); refine goesL_ (some 24) rfl rfl Try.func37 (by kernel_rfl) rfl #[.slice A152_7 ((rd_T71 l0 x3_1).f7).length c152_7] rfl (by (try simp only [List.map_toArray, List.map_cons, List.map_nil]); first | done | rfl | (simp only [List.length_drop, List.length_take]; rfl)) ?_; (with_reducible refine (larderlaw1_Lend.calls _ _ ((rd_T71 l0 x3_1).f7) t154 _ ?side1 ?side2 A7.out).mono ?_); (case side1 => exact Kd.C_below HR152_7.out (by repeat (first | (with_reducible first | exact HB.out | apply below_alloc | apply pw_below_drewN | apply below_drew1 | refine below_set ?_ GE153.out) | exact HB.out))); (case side2 => exact HC152_7.out); rintro e w16 ⟨v155, rfl, ho0, hb⟩; refine ⟨_, rfl, ?_⟩; have n0_ := Aside0.mk (Kd.R_lower ho0 (below_size (by repeat (first | (with_reducible first | exact HB.out | apply below_alloc | apply pw_below_drewN | apply below_drew1 | refine below_set ?_ GE153.out) | exact HB.out)))); have n1_ := Aside0.mk (blk_below (g := gb153) (o := .cells #[.int .i64 ((rd_T71 l0 x3_1).f0), .int .i64 ((rd_T71 l0 x3_1).f1), .int .i64 ((rd_T71 l0 x3_1).f2), .int .i64 ((rd_T71 l0 x3_1).f3), .int .i64 ((rd_T71 l0 x3_1).f4), .int .i64 ((rd_T71 l0 x3_1).f5), .int .u64 ((rd_T71 l0 x3_1).f6), .slice A152_7 ((rd_T71 l0 x3_1).f7).length c152_7, .slice A152_8 ((rd_T71 l0 x3_1).f8).length c152_8] 71 (0, 0)) (by (with_reducible repeat (first | refine blk_drewN ?_ _ | refine blk_drew ?_ | refine blk_alloc ?_ _)); refine blk_put (cs := #[.int .i64 ((rd_T71 l0 x3_1).f0), .int .i64 ((rd_T71 l0 x3_1).f1), .int .i64 ((rd_T71 l0 x3_1).f2), .int .i64 ((rd_T71 l0 x3_1).f3), .int .i64 ((rd_T71 l0 x3_1).f4), .int .i64 ((rd_T71 l0 x3_1).f5), .int .u64 ((rd_T71 l0 x3_1).f6), .slice A152_7 ((rd_T71 l0 x3_1).f7).length c152_7, .slice none 0 0]) ?_ 8 _ rfl; (with_reducible repeat (first | refine blk_drewN ?_ _ | refine blk_drew ?_ | refine blk_alloc ?_ _)); refine blk_put (cs := #[.int .i64 ((rd_T71 l0 x3_1).f0), .int .i64 ((rd_T71 l0 x3_1).f1), .int .i64 ((rd_T71 l0 x3_1).f2), .int .i64 ((rd_T71 l0 x3_1).f3), .int .i64 ((rd_T71 l0 x3_1).f4), .int .i64 ((rd_T71 l0 x3_1).f5), .int .u64 ((rd_T71 l0 x3_1).f6), .slice none 0 0, .slice none 0 0]) ?_ 7 _ rfl; (with_reducible repeat (first | refine blk_drewN ?_ _ | refine blk_drew ?_ | refine blk_alloc ?_ _)); refine blk_put (cs := #[.int .i64 ((rd_T71 l0 x3_1).f0), .int .i64 ((rd_T71 l0 x3_1).f1), .int .i64 ((rd_T71 l0 x3_1).f2), .int .i64 ((rd_T71 l0 x3_1).f3), .int .i64 ((rd_T71 l0 x3_1).f4), .int .i64 ((rd_T71 l0 x3_1).f5), .int .u64 0, .slice none 0 0, .slice none 0 0]) ?_ 6 _ rfl; (with_reducible repeat (first | refine blk_drewN ?_ _ | refine blk_drew ?_ | refine blk_alloc ?_ _)); refine blk_put (cs := #[.int .i64 ((rd_T71 l0 x3_1).f0), .int .i64 ((rd_T71 l0 x3_1).f1), .int .i64 ((rd_T71 l0 x3_1).f2), .int .i64 ((rd_T71 l0 x3_1).f3), .int .i64 ((rd_T71 l0 x3_1).f4), .int .i64 0, .int .u64 0, .slice none 0 0, .slice none 0 0]) ?_ 5 _ rfl; (with_reducible repeat (first | refine blk_drewN ?_ _ | refine blk_drew ?_ | refine blk_alloc ?_ _)); refine blk_put (cs := #[.int .i64 ((rd_T71 l0 x3_1).f0), .int .i64 ((rd_T71 l0 x3_1).f1), .int .i64 ((rd_T71 l0 x3_1).f2), .int .i64 ((rd_T71 l0 x3_1).f3), .int .i64 0, .int .i64 0, .int .u64 0, .slice none 0 0, .slice none 0 0]) ?_ 4 _ rfl; (with_reducible repeat (first | refine blk_drewN ?_ _ | refine blk_drew ?_ | refine blk_alloc ?_ _)); refine blk_put (cs := #[.int .i64 ((rd_T71 l0 x3_1).f0), .int .i64 ((rd_T71 l0 x3_1).f1), .int .i64 ((rd_T71 l0 x3_1).f2), .int .i64 0, .int .i64 0, .int .i64 0, .int .u64 0, .slice none 0 0, .slice none 0 0]) ?_ 3 _ rfl; (with_reducible repeat (first | refine blk_drewN ?_ _ | refine blk_drew ?_ | refine blk_alloc ?_ _)); refine blk_put (cs := #[.int .i64 ((rd_T71 l0 x3_1).f0), .int .i64 ((rd_T71 l0 x3_1).f1), .int .i64 0, .int .i64 0, .int .i64 0, .int .i64 0, .int .u64 0, .slice none 0 0, .slice none 0 0]) ?_ 2 _ rfl; (with_reducible repeat (first | refine blk_drewN ?_ _ | refine blk_drew ?_ | refine blk_alloc ?_ _)); refine blk_put (cs := #[.int .i64 ((rd_T71 l0 x3_1).f0), .int .i64 0, .int .i64 0, .int .i64 0, .int .i64 0, .int .i64 0, .int .u64 0, .slice none 0 0, .slice none 0 0]) ?_ 1 _ rfl; (with_reducible repeat (first | refine blk_drewN ?_ _ | refine blk_drew ?_ | refine blk_alloc ?_ _)); refine blk_put (cs := #[.int .i64 0, .int .i64 0, .int .i64 0, .int .i64 0, .int .i64 0, .int .i64 0, .int .u64 0, .slice none 0 0, .slice none 0 0]) ?_ 0 _ rfl; (with_reducible repeat (first | refine blk_drewN ?_ _ | refine blk_drew ?_ | refine blk_alloc ?_ _)); exact BK153.out) hb); have n2_ := Aside0.mk (below_step (by repeat (first | (with_reducible first | exact HB.out | apply below_alloc | apply pw_below_drewN | apply below_drew1 | refine below_set ?_ GE153.out) | exact HB.out)) hb); clear BK153; clear HB; have HO156 := n0_; have BK153 := n1_; have HB := n2_; clear n0_ n1_ n2_; (try clear hb); (try clear hb2); (try clear hk); (try clear hi); (try clear ho0); have hcz17_0 : w16.cell? ⟨gb153, 0, none⟩ = some (.int .i64 ((rd_T71 l0 x3_1).f0)) := (blk_cell BK153.out 0).trans rfl; have hcz17_1 : w16.cell? ⟨gb153, 1, none⟩ = some (.int .i64 ((rd_T71 l0 x3_1).f1)) := (blk_cell BK153.out 1).trans rfl; have hcz17_2 : w16.cell? ⟨gb153, 2, none⟩ = some (.int .i64 ((rd_T71 l0 x3_1).f2)) := (blk_cell BK153.out 2).trans rfl; have hcz17_3 : w16.cell? ⟨gb153, 3, none⟩ = some (.int .i64 ((rd_T71 l0 x3_1).f3)) := (blk_cell BK153.out 3).trans rfl; have hcz17_4 : w16.cell? ⟨gb153, 4, none⟩ = some (.int .i64 ((rd_T71 l0 x3_1).f4)) := (blk_cell BK153.out 4).trans rfl; have hcz17_5 : w16.cell? ⟨gb153, 5, none⟩ = some (.int .i64 ((rd_T71 l0 x3_1).f5)) := (blk_cell BK153.out 5).trans rfl; have hcz17_6 : w16.cell? ⟨gb153, 6, none⟩ = some (.int .u64 ((rd_T71 l0 x3_1).f6)) := (blk_cell BK153.out 6).trans rfl; have hcz17_7 : w16.cell? ⟨gb153, 7, none⟩ = some (.slice A152_7 ((rd_T71 l0 x3_1).f7).length c152_7) := (blk_cell BK153.out 7).trans rfl; have hcz17_8 : w16.cell? ⟨gb153, 8, none⟩ = some (.slice A152_8 ((rd_T71 l0 x3_1).f8).length c152_8) := (blk_cell BK153.out 8).trans rfl; have hfz17_0 := blk_frozen BK153.out 0; have hfz17_1 := blk_frozen BK153.out 1; have hfz17_2 := blk_frozen BK153.out 2; have hfz17_3 := blk_frozen BK153.out 3; have hfz17_4 := blk_frozen BK153.out 4; have hfz17_5 := blk_frozen BK153.out 5; have hfz17_6 := blk_frozen BK153.out 6; have hfz17_7 := blk_frozen BK153.out 7; have hfz17_8 := blk_frozen BK153.out 8) | ((with_reducible refine gate_callee (f := 38) rfl ?_); refine goesL_ (some 27) rfl rfl Try.func38 (by kernel_rfl) rfl #[.slice A152_7 ((rd_T71 l0 x3_1).f7).length c152_7] rfl (by (try simp only [List.map_toArray, List.map_cons, List.map_nil]); first | done | rfl | (simp only [List.length_drop, List.length_take]; rfl)) ?_; (with_reducible refine (larderlaw1_Other.calls kj1 _ _ ((rd_T71 l0 x3_1).f7) t157 _ ?side1 ?side2 A8.out).mono ?_); (case side1 => repeat (first | exact (Kd.C_below HR152_7.out HB.out) | (with_reducible refine Kd.C_alloc ?_ _) | (with_reducible refine Kd.C_drewN ?_ _) | (with_reducible refine Kd.C_drew ?_))); (case side2 => exact HC152_7.out); rintro e w18 ⟨v158, rfl, ho0, hb⟩; refine ⟨_, rfl, ?_⟩; have n0_ := Aside0.mk (Kd.R_elder' (by (with_reducible repeat (first | apply Kd.R_alloc | apply Kd.R_drewN | apply Kd.R_drew)); exact HO156.out) (Kd.R_base ho0) hb); have n1_ := Aside0.mk (Kd.R_lower (Kd.R_new' ho0 (Kd.R_lt (by (with_reducible repeat (first | apply Kd.R_alloc | apply Kd.R_drewN | apply Kd.R_drew)); exact HO156.out))) (below_size (by repeat (first | (with_reducible first | exact HB.out | apply below_alloc | apply pw_below_drewN | apply below_drew1 | refine below_set ?_ GE153.out) | exact HB.out)))); have n2_ := Aside0.mk (blk_below (g := gb153) (o := .cells #[.int .i64 ((rd_T71 l0 x3_1).f0), .int .i64 ((rd_T71 l0 x3_1).f1), .int .i64 ((rd_T71 l0 x3_1).f2), .int .i64 ((rd_T71 l0 x3_1).f3), .int .i64 ((rd_T71 l0 x3_1).f4), .int .i64 ((rd_T71 l0 x3_1).f5), .int .u64 ((rd_T71 l0 x3_1).f6), .slice A152_7 ((rd_T71 l0 x3_1).f7).length c152_7, .slice A152_8 ((rd_T71 l0 x3_1).f8).length c152_8] 71 (0, 0)) (by (with_reducible repeat (first | refine blk_drewN ?_ _ | refine blk_drew ?_ | refine blk_alloc ?_ _)); exact BK153.out) hb); have n3_ := Aside0.mk (below_step (by repeat (first | (with_reducible first | exact HB.out | apply below_alloc | apply pw_below_drewN | apply below_drew1 | refine below_set ?_ GE153.out) | exact HB.out)) hb); clear HO156; clear BK153; clear HB; have HO156 := n0_; have HO159 := n1_; have BK153 := n2_; have HB := n3_; clear n0_ n1_ n2_ n3_; (try clear hb); (try clear hb2); (try clear hk); (try clear hi); (try clear ho0); obtain ⟨Ao19, co19, eo19⟩ := Kd.R_slice HO156.out; subst eo19) | ((with_reducible refine gate_callee (f := 23) rfl ?_); refine goesL_ (some 29) rfl rfl Try.func23 (by kernel_rfl) rfl #[.slice Ao19 t154.length co19] rfl (by (try simp only [List.map_toArray, List.map_cons, List.map_nil]); first | done | rfl | (simp only [List.length_drop, List.length_take]; rfl)) ?_; (with_reducible refine (word_Pack.calls kj1 _ _ t154 t160 _ ?side1 ?side2 A9.out).mono ?_); (case side1 => repeat (first | exact (Kd.R_reads' HO156.out).2.2 | (with_reducible refine Kd.C_alloc ?_ _) | (with_reducible refine Kd.C_drewN ?_ _) | (with_reducible refine Kd.C_drew ?_))); (case side2 => exact (Kd.R_reads' HO156.out).2.1); rintro e w20 ⟨v161, rfl, ho0, hb⟩; refine ⟨_, rfl, ?_⟩; have n0_ := Aside0.mk (Kd.R_below (by (with_reducible repeat (first | apply Kd.R_alloc | apply Kd.R_drewN | apply Kd.R_drew)); exact HO156.out) hb); have n1_ := Aside0.mk (Kd.R_below (by (with_reducible repeat (first | apply Kd.R_alloc | apply Kd.R_drewN | apply Kd.R_drew)); exact HO159.out) hb); have n2_ := Aside0.mk (Kd.R_lower ho0 (below_size (by repeat (first | (with_reducible first | exact HB.out | apply below_alloc | apply pw_below_drewN | apply below_drew1 | refine below_set ?_ GE153.out) | exact HB.out)))); have n3_ := Aside0.mk (blk_below (g := gb153) (o := .cells #[.int .i64 ((rd_T71 l0 x3_1).f0), .int .i64 ((rd_T71 l0 x3_1).f1), .int .i64 ((rd_T71 l0 x3_1).f2), .int .i64 ((rd_T71 l0 x3_1).f3), .int .i64 ((rd_T71 l0 x3_1).f4), .int .i64 ((rd_T71 l0 x3_1).f5), .int .u64 ((rd_T71 l0 x3_1).f6), .slice A152_7 ((rd_T71 l0 x3_1).f7).length c152_7, .slice A152_8 ((rd_T71 l0 x3_1).f8).length c152_8] 71 (0, 0)) (by (with_reducible repeat (first | refine blk_drewN ?_ _ | refine blk_drew ?_ | refine blk_alloc ?_ _)); exact BK153.out) hb); have n4_ := Aside0.mk (below_step (by repeat (first | (with_reducible first | exact HB.out | apply below_alloc | apply pw_below_drewN | apply below_drew1 | refine below_set ?_ GE153.out) | exact HB.out)) hb); clear HO156; clear HO159; clear BK153; clear HB; have HO156 := n0_; have HO159 := n1_; have HO162 := n2_; have BK153 := n3_; have HB := n4_; clear n0_ n1_ n2_ n3_ n4_; (try clear hb); (try clear hb2); (try clear hk); (try clear hi); (try clear ho0); have hcz21_0 : w20.cell? ⟨gb153, 0, none⟩ = some (.int .i64 ((rd_T71 l0 x3_1).f0)) := (blk_cell BK153.out 0).trans rfl; have hcz21_1 : w20.cell? ⟨gb153, 1, none⟩ = some (.int .i64 ((rd_T71 l0 x3_1).f1)) := (blk_cell BK153.out 1).trans rfl; have hcz21_2 : w20.cell? ⟨gb153, 2, none⟩ = some (.int .i64 ((rd_T71 l0 x3_1).f2)) := (blk_cell BK153.out 2).trans rfl; have hcz21_3 : w20.cell? ⟨gb153, 3, none⟩ = some (.int .i64 ((rd_T71 l0 x3_1).f3)) := (blk_cell BK153.out 3).trans rfl; have hcz21_4 : w20.cell? ⟨gb153, 4, none⟩ = some (.int .i64 ((rd_T71 l0 x3_1).f4)) := (blk_cell BK153.out 4).trans rfl; have hcz21_5 : w20.cell? ⟨gb153, 5, none⟩ = some (.int .i64 ((rd_T71 l0 x3_1).f5)) := (blk_cell BK153.out 5).trans rfl; have hcz21_6 : w20.cell? ⟨gb153, 6, none⟩ = some (.int .u64 ((rd_T71 l0 x3_1).f6)) := (blk_cell BK153.out 6).trans rfl; have hcz21_7 : w20.cell? ⟨gb153, 7, none⟩ = some (.slice A152_7 ((rd_T71 l0 x3_1).f7).length c152_7) := (blk_cell BK153.out 7).trans rfl; have hcz21_8 : w20.cell? ⟨gb153, 8, none⟩ = some (.slice A152_8 ((rd_T71 l0 x3_1).f8).length c152_8) := (blk_cell BK153.out 8).trans rfl; have hfz21_0 := blk_frozen BK153.out 0; have hfz21_1 := blk_frozen BK153.out 1; have hfz21_2 := blk_frozen BK153.out 2; have hfz21_3 := blk_frozen BK153.out 3; have hfz21_4 := blk_frozen BK153.out 4; have hfz21_5 := blk_frozen BK153.out 5; have hfz21_6 := blk_frozen BK153.out 6; have hfz21_7 := blk_frozen BK153.out 7; have hfz21_8 := blk_frozen BK153.out 8) | ((with_reducible refine gate_callee (f := 39) rfl ?_); refine goesL_ (some 34) rfl rfl Try.func39 (by kernel_rfl) rfl #[.agg #[.int .i64 ((rd_T71 l0 x3_1).f0), .int .i64 ((rd_T71 l0 x3_1).f1), .int .i64 ((rd_T71 l0 x3_1).f2), .int .i64 ((rd_T71 l0 x3_1).f3), .int .i64 ((rd_T71 l0 x3_1).f4), .int .i64 ((rd_T71 l0 x3_1).f5), .int .u64 ((rd_T71 l0 x3_1).f6), .slice A152_7 ((rd_T71 l0 x3_1).f7).length c152_7, .slice A152_8 ((rd_T71 l0 x3_1).f8).length c152_8], .slice Ao19 t154.length co19, .slice A152_7 ((rd_T71 l0 x3_1).f7).length c152_7] rfl (by (try simp only [List.map_toArray, List.map_cons, List.map_nil]); first | done | rfl | (simp only [List.length_drop, List.length_take]; rfl)) ?_; (with_reducible refine (larderlaw1_places.calls kj1 ((rd_T71 l0 x3_1).f0) ((rd_T71 l0 x3_1).f1) ((rd_T71 l0 x3_1).f2) ((rd_T71 l0 x3_1).f3) ((rd_T71 l0 x3_1).f4) ((rd_T71 l0 x3_1).f5) ((rd_T71 l0 x3_1).f6) _ _ ((rd_T71 l0 x3_1).f7) _ _ ((rd_T71 l0 x3_1).f8) _ _ t154 _ _ ((rd_T71 l0 x3_1).f7) true _ ?side1 ?side2 ?side3 ?side4 ?side5 ?side6 ?side7 ?side8 A10.out).mono ?_); (case side1 => repeat (first | exact (Kd.C_below HR152_7.out HB.out) | (with_reducible refine Kd.C_alloc ?_ _) | (with_reducible refine Kd.C_drewN ?_ _) | (with_reducible refine Kd.C_drew ?_))); (case side2 => exact HC152_7.out); (case side3 => repeat (first | exact (Kd.C_below HR152_8.out HB.out) | (with_reducible refine Kd.C_alloc ?_ _) | (with_reducible refine Kd.C_drewN ?_ _) | (with_reducible refine Kd.C_drew ?_))); (case side4 => exact HC152_8.out); (case side5 => repeat (first | exact (Kd.R_reads' HO156.out).2.2 | (with_reducible refine Kd.C_alloc ?_ _) | (with_reducible refine Kd.C_drewN ?_ _) | (with_reducible refine Kd.C_drew ?_))); (case side6 => exact (Kd.R_reads' HO156.out).2.1); (case side7 => repeat (first | exact (Kd.C_below HR152_7.out HB.out) | (with_reducible refine Kd.C_alloc ?_ _) | (with_reducible refine Kd.C_drewN ?_ _) | (with_reducible refine Kd.C_drew ?_))); (case side8 => exact HC152_7.out); rintro e w22 ⟨rfl, hb⟩; refine ⟨_, rfl, ?_⟩; have n0_ := Aside0.mk (Kd.R_below (by (with_reducible repeat (first | apply Kd.R_alloc | apply Kd.R_drewN | apply Kd.R_drew)); exact HO156.out) hb); have n1_ := Aside0.mk (Kd.R_below (by (with_reducible repeat (first | apply Kd.R_alloc | apply Kd.R_drewN | apply Kd.R_drew)); exact HO159.out) hb); have n2_ := Aside0.mk (Kd.R_below (by (with_reducible repeat (first | apply Kd.R_alloc | apply Kd.R_drewN | apply Kd.R_drew)); exact HO162.out) hb); have n3_ := Aside0.mk (blk_below (g := gb153) (o := .cells #[.int .i64 ((rd_T71 l0 x3_1).f0), .int .i64 ((rd_T71 l0 x3_1).f1), .int .i64 ((rd_T71 l0 x3_1).f2), .int .i64 ((rd_T71 l0 x3_1).f3), .int .i64 ((rd_T71 l0 x3_1).f4), .int .i64 ((rd_T71 l0 x3_1).f5), .int .u64 ((rd_T71 l0 x3_1).f6), .slice A152_7 ((rd_T71 l0 x3_1).f7).length c152_7, .slice A152_8 ((rd_T71 l0 x3_1).f8).length c152_8] 71 (0, 0)) (by (with_reducible repeat (first | refine blk_drewN ?_ _ | refine blk_drew ?_ | refine blk_alloc ?_ _)); exact BK153.out) hb); have n4_ := Aside0.mk (below_step (by repeat (first | (with_reducible first | exact HB.out | apply below_alloc | apply pw_below_drewN | apply below_drew1 | refine below_set ?_ GE153.out) | exact HB.out)) hb); clear HO156; clear HO159; clear HO162; clear BK153; clear HB; have HO156 := n0_; have HO159 := n1_; have HO162 := n2_; have BK153 := n3_; have HB := n4_; clear n0_ n1_ n2_ n3_ n4_; (try clear hb); (try clear hb2); (try clear hk); (try clear hi); obtain ⟨Ao23, co23, eo23⟩ := Kd.R_slice HO159.out; subst eo23) | ((with_reducible refine gate_callee (f := 40) rfl ?_); refine goesL_ (some 38) rfl rfl Try.func40 (by kernel_rfl) rfl #[.slice Ao19 t154.length co19, .slice Ao23 t157.length co23] rfl (by (try simp only [List.map_toArray, List.map_cons, List.map_nil]); first | done | rfl | (simp only [List.length_drop, List.length_take]; rfl)) ?_; (with_reducible refine (larderlaw1_Into.calls kj1 (fun k_ => some k_ = (.slice Ao19 t154.length co19 : Value).ownBlock) (.slice Ao19 t154.length co19) t154 _ _ t157 t164 w _ ?side1 ?side2 ?side3 ?side4 A12.out).mono ?_); (case side1 => repeat (first | (with_reducible first | exact HB.out | apply below_alloc | apply pw_below_drewN | apply below_drew1 | refine below_set ?_ GE153.out) | exact HB.out)); (case side2 => exact Kd.R_tight rfl HO156.out); (case side3 => exact Kd.C_kept_own (HO159.out) (fun k_ hk_ hs_ => (hk_.2) hs_)); (case side4 => exact (Kd.R_reads' HO159.out).2.1); rintro e w24 ⟨rfl, hy0, hb, hkp⟩; refine ⟨_, rfl, ?_⟩; have n0_ := Aside0.mk (blk_kept (by (with_reducible repeat (first | refine blk_drewN ?_ _ | refine blk_drew ?_ | refine blk_alloc ?_ _)); exact BK153.out) hkp (fun hs_ => (fun e_ => (Kd.R_ne HO156.out BK153.out (by decide)) e_) hs_)); have n1_ := Aside0.mk (Kd.R_reok rfl hy0 (fun k_ e_ => HO156.out.1 k_ e_)); have n2_ := Aside0.mk (Kd.R_mono (ok' := fun k_ => some k_ ≠ (.slice Ao19 t154.length co19 : Value).ownBlock) (Kd.R_keptB (HO159.out) hkp (fun k_ hk_ hs_ => (hk_.2) hs_)) (fun k_ hk_ => hk_.1.2)); have n3_ := Aside0.mk (Kd.R_mono (ok' := fun k_ => True) (Kd.R_keptB ((Kd.R_apart' HO162.out (Kd.R_typed HO156.out) (by decide))) hkp (fun k_ hk_ hs_ => (hk_.2) hs_)) (fun k_ hk_ => trivial)); have n4_ := Aside0.mk (hb); clear BK153; clear HO156; clear HO159; clear HO162; clear HB; have BK153 := n0_; have HO156 := n1_; have HO159 := n2_; have HO162 := n3_; have HB := n4_; clear n0_ n1_ n2_ n3_ n4_; (try clear hb); (try clear hkp); (try clear hy0)))
                  (try simp only [Act.put, List.setIfInBounds_toArray, List.set_cons_zero, List.set_cons_succ])
                  go_cut [51] (fun v51 wc => ∃ (kq : Nat) (x51_12 : Bool), v51 = .bool x51_12 ∧ Aside0 (larderlaw1_WordPlace.j2 kq l0 x3_1 t164 x51_12 ((rd_T71 l0 x3_1).f0) ((rd_T71 l0 x3_1).f1) ((rd_T71 l0 x3_1).f2) ((rd_T71 l0 x3_1).f3) ((rd_T71 l0 x3_1).f4) ((rd_T71 l0 x3_1).f5) ((rd_T71 l0 x3_1).f6) ((rd_T71 l0 x3_1).f7) ((rd_T71 l0 x3_1).f8) = some r) ∧ Aside0 (kq ≤ kj1) ∧ Aside0 (Kd.R (Kd.int .u8) 5 wc w.heap.size (fun _ => True) (.slice Ao19 t154.length co19) t164) ∧ Aside0 (wc.heap[gb153]? = some (.cells #[.int .i64 ((rd_T71 l0 x3_1).f0), .int .i64 ((rd_T71 l0 x3_1).f1), .int .i64 ((rd_T71 l0 x3_1).f2), .int .i64 ((rd_T71 l0 x3_1).f3), .int .i64 ((rd_T71 l0 x3_1).f4), .int .i64 ((rd_T71 l0 x3_1).f5), .int .u64 ((rd_T71 l0 x3_1).f6), (.slice A152_7 ((rd_T71 l0 x3_1).f7).length c152_7), (.slice A152_8 ((rd_T71 l0 x3_1).f8).length c152_8)] 71 (0, 0))) ∧ Aside0 (Below w.heap.size w wc))
                  case first =>
                    have H := HC13.out
                    clear HC13
                    replace H := Option.bind_eq_some_iff.mp H
                    obtain ⟨t165, A250, H⟩ := H
                    replace H : (if t165 = true then ((larderref1_Pack.f kj1 ((rd_T71 l0 x3_1).f7)).bind fun t166 => ((larderlaw1_sameWords.f kj1 t160 t166).bind fun t169 => (larderlaw1_WordPlace.j2 kj1 l0 x3_1 t164 (!t169) ((rd_T71 l0 x3_1).f0) ((rd_T71 l0 x3_1).f1) ((rd_T71 l0 x3_1).f2) ((rd_T71 l0 x3_1).f3) ((rd_T71 l0 x3_1).f4) ((rd_T71 l0 x3_1).f5) ((rd_T71 l0 x3_1).f6) ((rd_T71 l0 x3_1).f7) ((rd_T71 l0 x3_1).f8)))) else (larderlaw1_WordPlace.j2 kj1 l0 x3_1 t164 true ((rd_T71 l0 x3_1).f0) ((rd_T71 l0 x3_1).f1) ((rd_T71 l0 x3_1).f2) ((rd_T71 l0 x3_1).f3) ((rd_T71 l0 x3_1).f4) ((rd_T71 l0 x3_1).f5) ((rd_T71 l0 x3_1).f6) ((rd_T71 l0 x3_1).f7) ((rd_T71 l0 x3_1).f8))) = some r := H
                    have A25 := Aside0.mk A250
                    clear A250
                    by_cases c26 : t165 = true
                    · subst c26
                      have H1 : ((larderref1_Pack.f kj1 ((rd_T71 l0 x3_1).f7)).bind fun t166 => ((larderlaw1_sameWords.f kj1 t160 t166).bind fun t169 => (larderlaw1_WordPlace.j2 kj1 l0 x3_1 t164 (!t169) ((rd_T71 l0 x3_1).f0) ((rd_T71 l0 x3_1).f1) ((rd_T71 l0 x3_1).f2) ((rd_T71 l0 x3_1).f3) ((rd_T71 l0 x3_1).f4) ((rd_T71 l0 x3_1).f5) ((rd_T71 l0 x3_1).f6) ((rd_T71 l0 x3_1).f7) ((rd_T71 l0 x3_1).f8)))) = some r := by rw [if_pos rfl] at H; exact H
                      clear H
                      have H := H1
                      clear H1
                      replace H := Option.bind_eq_some_iff.mp H
                      obtain ⟨t166, A270, H⟩ := H
                      replace H : ((larderlaw1_sameWords.f kj1 t160 t166).bind fun t169 => (larderlaw1_WordPlace.j2 kj1 l0 x3_1 t164 (!t169) ((rd_T71 l0 x3_1).f0) ((rd_T71 l0 x3_1).f1) ((rd_T71 l0 x3_1).f2) ((rd_T71 l0 x3_1).f3) ((rd_T71 l0 x3_1).f4) ((rd_T71 l0 x3_1).f5) ((rd_T71 l0 x3_1).f6) ((rd_T71 l0 x3_1).f7) ((rd_T71 l0 x3_1).f8))) = some r := H
                      have A27 := Aside0.mk A270
                      clear A270
                      replace H := Option.bind_eq_some_iff.mp H
                      obtain ⟨t169, A280, H⟩ := H
                      replace H : (larderlaw1_WordPlace.j2 kj1 l0 x3_1 t164 (!t169) ((rd_T71 l0 x3_1).f0) ((rd_T71 l0 x3_1).f1) ((rd_T71 l0 x3_1).f2) ((rd_T71 l0 x3_1).f3) ((rd_T71 l0 x3_1).f4) ((rd_T71 l0 x3_1).f5) ((rd_T71 l0 x3_1).f6) ((rd_T71 l0 x3_1).f7) ((rd_T71 l0 x3_1).f8)) = some r := H
                      have A28 := Aside0.mk A280
                      clear A280
                      have H' := Aside0.mk H
                      clear H
                      have hcz29_0 : w24.cell? ⟨gb153, 0, none⟩ = some (.int .i64 ((rd_T71 l0 x3_1).f0)) := (blk_cell BK153.out 0).trans rfl
                      have hcz29_1 : w24.cell? ⟨gb153, 1, none⟩ = some (.int .i64 ((rd_T71 l0 x3_1).f1)) := (blk_cell BK153.out 1).trans rfl
                      have hcz29_2 : w24.cell? ⟨gb153, 2, none⟩ = some (.int .i64 ((rd_T71 l0 x3_1).f2)) := (blk_cell BK153.out 2).trans rfl
                      have hcz29_3 : w24.cell? ⟨gb153, 3, none⟩ = some (.int .i64 ((rd_T71 l0 x3_1).f3)) := (blk_cell BK153.out 3).trans rfl
                      have hcz29_4 : w24.cell? ⟨gb153, 4, none⟩ = some (.int .i64 ((rd_T71 l0 x3_1).f4)) := (blk_cell BK153.out 4).trans rfl
                      have hcz29_5 : w24.cell? ⟨gb153, 5, none⟩ = some (.int .i64 ((rd_T71 l0 x3_1).f5)) := (blk_cell BK153.out 5).trans rfl
                      have hcz29_6 : w24.cell? ⟨gb153, 6, none⟩ = some (.int .u64 ((rd_T71 l0 x3_1).f6)) := (blk_cell BK153.out 6).trans rfl
                      have hcz29_7 : w24.cell? ⟨gb153, 7, none⟩ = some (.slice A152_7 ((rd_T71 l0 x3_1).f7).length c152_7) := (blk_cell BK153.out 7).trans rfl
                      have hcz29_8 : w24.cell? ⟨gb153, 8, none⟩ = some (.slice A152_8 ((rd_T71 l0 x3_1).f8).length c152_8) := (blk_cell BK153.out 8).trans rfl
                      have hfz29_0 := blk_frozen BK153.out 0
                      have hfz29_1 := blk_frozen BK153.out 1
                      have hfz29_2 := blk_frozen BK153.out 2
                      have hfz29_3 := blk_frozen BK153.out 3
                      have hfz29_4 := blk_frozen BK153.out 4
                      have hfz29_5 := blk_frozen BK153.out 5
                      have hfz29_6 := blk_frozen BK153.out 6
                      have hfz29_7 := blk_frozen BK153.out 7
                      have hfz29_8 := blk_frozen BK153.out 8
                      go_wp2_with (first | ((with_reducible refine gate_callee (f := 39) rfl ?_); refine goesL_ (some 42) rfl rfl Try.func39 (by kernel_rfl) rfl #[.agg #[.int .i64 ((rd_T71 l0 x3_1).f0), .int .i64 ((rd_T71 l0 x3_1).f1), .int .i64 ((rd_T71 l0 x3_1).f2), .int .i64 ((rd_T71 l0 x3_1).f3), .int .i64 ((rd_T71 l0 x3_1).f4), .int .i64 ((rd_T71 l0 x3_1).f5), .int .u64 ((rd_T71 l0 x3_1).f6), .slice A152_7 ((rd_T71 l0 x3_1).f7).length c152_7, .slice A152_8 ((rd_T71 l0 x3_1).f8).length c152_8], .slice Ao19 t164.length co19, .slice Ao23 t157.length co23] rfl (by (try simp only [List.map_toArray, List.map_cons, List.map_nil]); first | done | (rw [show t164.length = t154.length from (Kd.R_reads' HO156.out).1.symm] <;> rfl) | rfl | (simp only [List.length_drop, List.length_take]; rfl)) ?_; (with_reducible refine (larderlaw1_places.calls kj1 ((rd_T71 l0 x3_1).f0) ((rd_T71 l0 x3_1).f1) ((rd_T71 l0 x3_1).f2) ((rd_T71 l0 x3_1).f3) ((rd_T71 l0 x3_1).f4) ((rd_T71 l0 x3_1).f5) ((rd_T71 l0 x3_1).f6) _ _ ((rd_T71 l0 x3_1).f7) _ _ ((rd_T71 l0 x3_1).f8) _ _ t164 _ _ t157 true _ ?side1 ?side2 ?side3 ?side4 ?side5 ?side6 ?side7 ?side8 A25.out).mono ?_); (case side1 => repeat (first | exact (Kd.C_below HR152_7.out HB.out) | (with_reducible refine Kd.C_alloc ?_ _) | (with_reducible refine Kd.C_drewN ?_ _) | (with_reducible refine Kd.C_drew ?_))); (case side2 => exact HC152_7.out); (case side3 => repeat (first | exact (Kd.C_below HR152_8.out HB.out) | (with_reducible refine Kd.C_alloc ?_ _) | (with_reducible refine Kd.C_drewN ?_ _) | (with_reducible refine Kd.C_drew ?_))); (case side4 => exact HC152_8.out); (case side5 => repeat (first | exact (Kd.R_reads' HO156.out).2.2 | (with_reducible refine Kd.C_alloc ?_ _) | (with_reducible refine Kd.C_drewN ?_ _) | (with_reducible refine Kd.C_drew ?_))); (case side6 => rw [show t164.length = t154.length from (Kd.R_reads' HO156.out).1.symm]; exact (Kd.R_reads' HO156.out).2.1); (case side7 => repeat (first | exact (Kd.R_reads' HO159.out).2.2 | (with_reducible refine Kd.C_alloc ?_ _) | (with_reducible refine Kd.C_drewN ?_ _) | (with_reducible refine Kd.C_drew ?_))); (case side8 => exact (Kd.R_reads' HO159.out).2.1); rintro e w30 ⟨rfl, hb⟩; refine ⟨_, rfl, ?_⟩; have n0_ := Aside0.mk (Kd.R_below (by (with_reducible repeat (first | apply Kd.R_alloc | apply Kd.R_drewN | apply Kd.R_drew)); exact HO156.out) hb); have n1_ := Aside0.mk (Kd.R_below (by (with_reducible repeat (first | apply Kd.R_alloc | apply Kd.R_drewN | apply Kd.R_drew)); exact HO159.out) hb); have n2_ := Aside0.mk (Kd.R_below (by (with_reducible repeat (first | apply Kd.R_alloc | apply Kd.R_drewN | apply Kd.R_drew)); exact HO162.out) hb); have n3_ := Aside0.mk (blk_below (g := gb153) (o := .cells #[.int .i64 ((rd_T71 l0 x3_1).f0), .int .i64 ((rd_T71 l0 x3_1).f1), .int .i64 ((rd_T71 l0 x3_1).f2), .int .i64 ((rd_T71 l0 x3_1).f3), .int .i64 ((rd_T71 l0 x3_1).f4), .int .i64 ((rd_T71 l0 x3_1).f5), .int .u64 ((rd_T71 l0 x3_1).f6), .slice A152_7 ((rd_T71 l0 x3_1).f7).length c152_7, .slice A152_8 ((rd_T71 l0 x3_1).f8).length c152_8] 71 (0, 0)) (by (with_reducible repeat (first | refine blk_drewN ?_ _ | refine blk_drew ?_ | refine blk_alloc ?_ _)); exact BK153.out) hb); have n4_ := Aside0.mk (below_step (by repeat (first | (with_reducible first | exact HB.out | apply below_alloc | apply pw_below_drewN | apply below_drew1 | refine below_set ?_ GE153.out) | exact HB.out)) hb); clear HO156; clear HO159; clear HO162; clear BK153; clear HB; have HO156 := n0_; have HO159 := n1_; have HO162 := n2_; have BK153 := n3_; have HB := n4_; clear n0_ n1_ n2_ n3_ n4_; (try clear hb); (try clear hb2); (try clear hk); (try clear hi); have hcz31_0 : w30.cell? ⟨gb153, 0, none⟩ = some (.int .i64 ((rd_T71 l0 x3_1).f0)) := (blk_cell BK153.out 0).trans rfl; have hcz31_1 : w30.cell? ⟨gb153, 1, none⟩ = some (.int .i64 ((rd_T71 l0 x3_1).f1)) := (blk_cell BK153.out 1).trans rfl; have hcz31_2 : w30.cell? ⟨gb153, 2, none⟩ = some (.int .i64 ((rd_T71 l0 x3_1).f2)) := (blk_cell BK153.out 2).trans rfl; have hcz31_3 : w30.cell? ⟨gb153, 3, none⟩ = some (.int .i64 ((rd_T71 l0 x3_1).f3)) := (blk_cell BK153.out 3).trans rfl; have hcz31_4 : w30.cell? ⟨gb153, 4, none⟩ = some (.int .i64 ((rd_T71 l0 x3_1).f4)) := (blk_cell BK153.out 4).trans rfl; have hcz31_5 : w30.cell? ⟨gb153, 5, none⟩ = some (.int .i64 ((rd_T71 l0 x3_1).f5)) := (blk_cell BK153.out 5).trans rfl; have hcz31_6 : w30.cell? ⟨gb153, 6, none⟩ = some (.int .u64 ((rd_T71 l0 x3_1).f6)) := (blk_cell BK153.out 6).trans rfl; have hcz31_7 : w30.cell? ⟨gb153, 7, none⟩ = some (.slice A152_7 ((rd_T71 l0 x3_1).f7).length c152_7) := (blk_cell BK153.out 7).trans rfl; have hcz31_8 : w30.cell? ⟨gb153, 8, none⟩ = some (.slice A152_8 ((rd_T71 l0 x3_1).f8).length c152_8) := (blk_cell BK153.out 8).trans rfl; have hfz31_0 := blk_frozen BK153.out 0; have hfz31_1 := blk_frozen BK153.out 1; have hfz31_2 := blk_frozen BK153.out 2; have hfz31_3 := blk_frozen BK153.out 3; have hfz31_4 := blk_frozen BK153.out 4; have hfz31_5 := blk_frozen BK153.out 5; have hfz31_6 := blk_frozen BK153.out 6; have hfz31_7 := blk_frozen BK153.out 7; have hfz31_8 := blk_frozen BK153.out 8) | (go_at_call 26; (with_reducible refine (larderref1_Pack.calls kj1 _ _ ((rd_T71 l0 x3_1).f7) t166 _ ?side1 ?side2 A27.out).mono ?_); (case side1 => repeat (first | exact (Kd.C_below HR152_7.out HB.out) | (with_reducible refine Kd.C_alloc ?_ _) | (with_reducible refine Kd.C_drewN ?_ _) | (with_reducible refine Kd.C_drew ?_))); (case side2 => exact HC152_7.out); rintro e w32 ⟨v167, rfl, ho0, hb⟩; have n0_ := Aside0.mk (Kd.R_below (by (with_reducible repeat (first | apply Kd.R_alloc | apply Kd.R_drewN | apply Kd.R_drew)); exact HO156.out) hb); have n1_ := Aside0.mk (Kd.R_below (by (with_reducible repeat (first | apply Kd.R_alloc | apply Kd.R_drewN | apply Kd.R_drew)); exact HO159.out) hb); have n2_ := Aside0.mk (Kd.R_elder' (by (with_reducible repeat (first | apply Kd.R_alloc | apply Kd.R_drewN | apply Kd.R_drew)); exact HO162.out) (Kd.R_base ho0) hb); have n3_ := Aside0.mk (Kd.R_lower (Kd.R_new' ho0 (Kd.R_lt (by (with_reducible repeat (first | apply Kd.R_alloc | apply Kd.R_drewN | apply Kd.R_drew)); exact HO162.out))) (below_size (by repeat (first | (with_reducible first | exact HB.out | apply below_alloc | apply pw_below_drewN | apply below_drew1 | refine below_set ?_ GE153.out) | exact HB.out)))); have n4_ := Aside0.mk (blk_below (g := gb153) (o := .cells #[.int .i64 ((rd_T71 l0 x3_1).f0), .int .i64 ((rd_T71 l0 x3_1).f1), .int .i64 ((rd_T71 l0 x3_1).f2), .int .i64 ((rd_T71 l0 x3_1).f3), .int .i64 ((rd_T71 l0 x3_1).f4), .int .i64 ((rd_T71 l0 x3_1).f5), .int .u64 ((rd_T71 l0 x3_1).f6), .slice A152_7 ((rd_T71 l0 x3_1).f7).length c152_7, .slice A152_8 ((rd_T71 l0 x3_1).f8).length c152_8] 71 (0, 0)) (by (with_reducible repeat (first | refine blk_drewN ?_ _ | refine blk_drew ?_ | refine blk_alloc ?_ _)); exact BK153.out) hb); have n5_ := Aside0.mk (below_step (by repeat (first | (with_reducible first | exact HB.out | apply below_alloc | apply pw_below_drewN | apply below_drew1 | refine below_set ?_ GE153.out) | exact HB.out)) hb); clear HO156; clear HO159; clear HO162; clear BK153; clear HB; have HO156 := n0_; have HO159 := n1_; have HO162 := n2_; have HO168 := n3_; have BK153 := n4_; have HB := n5_; clear n0_ n1_ n2_ n3_ n4_ n5_; (try clear hb); (try clear hb2); (try clear hk); (try clear hi); (try clear ho0); obtain ⟨Ao33, co33, eo33⟩ := Kd.R_slice HO162.out; subst eo33; obtain ⟨Ao34, co34, eo34⟩ := Kd.R_slice HO168.out; subst eo34) | (go_at_call 27; (with_reducible refine (larderlaw1_sameWords.calls kj1 _ _ t160 _ _ t166 t169 _ ?side1 ?side2 ?side3 ?side4 A28.out).mono ?_); (case side1 => repeat (first | exact (Kd.R_reads' HO162.out).2.2 | (with_reducible refine Kd.C_alloc ?_ _) | (with_reducible refine Kd.C_drewN ?_ _) | (with_reducible refine Kd.C_drew ?_))); (case side2 => exact (Kd.R_reads' HO162.out).2.1); (case side3 => repeat (first | exact (Kd.R_reads' HO168.out).2.2 | (with_reducible refine Kd.C_alloc ?_ _) | (with_reducible refine Kd.C_drewN ?_ _) | (with_reducible refine Kd.C_drew ?_))); (case side4 => exact (Kd.R_reads' HO168.out).2.1); rintro e w' ⟨rfl, ⟨nd, rfl⟩⟩))
                      go_meet
                      case rel => exact ⟨_, (!t169), (by first | rfl | (simp; done) | (simp [*]; done)), H', ⟨by have := HK1.out; have := HJ1.out; first | omega | exact Nat.le_refl _⟩, ⟨by (with_reducible repeat (first | apply Kd.R_alloc | apply Kd.R_drewN | apply Kd.R_drew)); exact Kd.R_mono HO156.out (fun _ hk => trivial)⟩, ⟨by (with_reducible repeat (first | refine blk_drewN ?_ _ | refine blk_drew ?_ | refine blk_alloc ?_ _)); exact BK153.out⟩, ⟨by repeat (first | (with_reducible first | exact HB.out | apply below_alloc | apply pw_below_drewN | apply below_drew1 | refine below_set ?_ GE153.out) | exact HB.out)⟩⟩
                    · replace c26 := Bool.eq_false_iff.mpr c26
                      subst c26
                      have H1 : (larderlaw1_WordPlace.j2 kj1 l0 x3_1 t164 true ((rd_T71 l0 x3_1).f0) ((rd_T71 l0 x3_1).f1) ((rd_T71 l0 x3_1).f2) ((rd_T71 l0 x3_1).f3) ((rd_T71 l0 x3_1).f4) ((rd_T71 l0 x3_1).f5) ((rd_T71 l0 x3_1).f6) ((rd_T71 l0 x3_1).f7) ((rd_T71 l0 x3_1).f8)) = some r := by rw [if_neg (show ¬ (false = true) by decide)] at H; exact H
                      clear H
                      have H := H1
                      clear H1
                      have H' := Aside0.mk H
                      clear H
                      have hcz35_0 : w24.cell? ⟨gb153, 0, none⟩ = some (.int .i64 ((rd_T71 l0 x3_1).f0)) := (blk_cell BK153.out 0).trans rfl
                      have hcz35_1 : w24.cell? ⟨gb153, 1, none⟩ = some (.int .i64 ((rd_T71 l0 x3_1).f1)) := (blk_cell BK153.out 1).trans rfl
                      have hcz35_2 : w24.cell? ⟨gb153, 2, none⟩ = some (.int .i64 ((rd_T71 l0 x3_1).f2)) := (blk_cell BK153.out 2).trans rfl
                      have hcz35_3 : w24.cell? ⟨gb153, 3, none⟩ = some (.int .i64 ((rd_T71 l0 x3_1).f3)) := (blk_cell BK153.out 3).trans rfl
                      have hcz35_4 : w24.cell? ⟨gb153, 4, none⟩ = some (.int .i64 ((rd_T71 l0 x3_1).f4)) := (blk_cell BK153.out 4).trans rfl
                      have hcz35_5 : w24.cell? ⟨gb153, 5, none⟩ = some (.int .i64 ((rd_T71 l0 x3_1).f5)) := (blk_cell BK153.out 5).trans rfl
                      have hcz35_6 : w24.cell? ⟨gb153, 6, none⟩ = some (.int .u64 ((rd_T71 l0 x3_1).f6)) := (blk_cell BK153.out 6).trans rfl
                      have hcz35_7 : w24.cell? ⟨gb153, 7, none⟩ = some (.slice A152_7 ((rd_T71 l0 x3_1).f7).length c152_7) := (blk_cell BK153.out 7).trans rfl
                      have hcz35_8 : w24.cell? ⟨gb153, 8, none⟩ = some (.slice A152_8 ((rd_T71 l0 x3_1).f8).length c152_8) := (blk_cell BK153.out 8).trans rfl
                      have hfz35_0 := blk_frozen BK153.out 0
                      have hfz35_1 := blk_frozen BK153.out 1
                      have hfz35_2 := blk_frozen BK153.out 2
                      have hfz35_3 := blk_frozen BK153.out 3
                      have hfz35_4 := blk_frozen BK153.out 4
                      have hfz35_5 := blk_frozen BK153.out 5
                      have hfz35_6 := blk_frozen BK153.out 6
                      have hfz35_7 := blk_frozen BK153.out 7
                      have hfz35_8 := blk_frozen BK153.out 8
                      go_wp2_with (first | ((with_reducible refine gate_callee (f := 39) rfl ?_); refine goesL_ (some 42) rfl rfl Try.func39 (by kernel_rfl) rfl #[.agg #[.int .i64 ((rd_T71 l0 x3_1).f0), .int .i64 ((rd_T71 l0 x3_1).f1), .int .i64 ((rd_T71 l0 x3_1).f2), .int .i64 ((rd_T71 l0 x3_1).f3), .int .i64 ((rd_T71 l0 x3_1).f4), .int .i64 ((rd_T71 l0 x3_1).f5), .int .u64 ((rd_T71 l0 x3_1).f6), .slice A152_7 ((rd_T71 l0 x3_1).f7).length c152_7, .slice A152_8 ((rd_T71 l0 x3_1).f8).length c152_8], .slice Ao19 t164.length co19, .slice Ao23 t157.length co23] rfl (by (try simp only [List.map_toArray, List.map_cons, List.map_nil]); first | done | (rw [show t164.length = t154.length from (Kd.R_reads' HO156.out).1.symm] <;> rfl) | rfl | (simp only [List.length_drop, List.length_take]; rfl)) ?_; (with_reducible refine (larderlaw1_places.calls kj1 ((rd_T71 l0 x3_1).f0) ((rd_T71 l0 x3_1).f1) ((rd_T71 l0 x3_1).f2) ((rd_T71 l0 x3_1).f3) ((rd_T71 l0 x3_1).f4) ((rd_T71 l0 x3_1).f5) ((rd_T71 l0 x3_1).f6) _ _ ((rd_T71 l0 x3_1).f7) _ _ ((rd_T71 l0 x3_1).f8) _ _ t164 _ _ t157 false _ ?side1 ?side2 ?side3 ?side4 ?side5 ?side6 ?side7 ?side8 A25.out).mono ?_); (case side1 => repeat (first | exact (Kd.C_below HR152_7.out HB.out) | (with_reducible refine Kd.C_alloc ?_ _) | (with_reducible refine Kd.C_drewN ?_ _) | (with_reducible refine Kd.C_drew ?_))); (case side2 => exact HC152_7.out); (case side3 => repeat (first | exact (Kd.C_below HR152_8.out HB.out) | (with_reducible refine Kd.C_alloc ?_ _) | (with_reducible refine Kd.C_drewN ?_ _) | (with_reducible refine Kd.C_drew ?_))); (case side4 => exact HC152_8.out); (case side5 => repeat (first | exact (Kd.R_reads' HO156.out).2.2 | (with_reducible refine Kd.C_alloc ?_ _) | (with_reducible refine Kd.C_drewN ?_ _) | (with_reducible refine Kd.C_drew ?_))); (case side6 => rw [show t164.length = t154.length from (Kd.R_reads' HO156.out).1.symm]; exact (Kd.R_reads' HO156.out).2.1); (case side7 => repeat (first | exact (Kd.R_reads' HO159.out).2.2 | (with_reducible refine Kd.C_alloc ?_ _) | (with_reducible refine Kd.C_drewN ?_ _) | (with_reducible refine Kd.C_drew ?_))); (case side8 => exact (Kd.R_reads' HO159.out).2.1); rintro e w36 ⟨rfl, hb⟩; refine ⟨_, rfl, ?_⟩; have n0_ := Aside0.mk (Kd.R_below (by (with_reducible repeat (first | apply Kd.R_alloc | apply Kd.R_drewN | apply Kd.R_drew)); exact HO156.out) hb); have n1_ := Aside0.mk (Kd.R_below (by (with_reducible repeat (first | apply Kd.R_alloc | apply Kd.R_drewN | apply Kd.R_drew)); exact HO159.out) hb); have n2_ := Aside0.mk (Kd.R_below (by (with_reducible repeat (first | apply Kd.R_alloc | apply Kd.R_drewN | apply Kd.R_drew)); exact HO162.out) hb); have n3_ := Aside0.mk (blk_below (g := gb153) (o := .cells #[.int .i64 ((rd_T71 l0 x3_1).f0), .int .i64 ((rd_T71 l0 x3_1).f1), .int .i64 ((rd_T71 l0 x3_1).f2), .int .i64 ((rd_T71 l0 x3_1).f3), .int .i64 ((rd_T71 l0 x3_1).f4), .int .i64 ((rd_T71 l0 x3_1).f5), .int .u64 ((rd_T71 l0 x3_1).f6), .slice A152_7 ((rd_T71 l0 x3_1).f7).length c152_7, .slice A152_8 ((rd_T71 l0 x3_1).f8).length c152_8] 71 (0, 0)) (by (with_reducible repeat (first | refine blk_drewN ?_ _ | refine blk_drew ?_ | refine blk_alloc ?_ _)); exact BK153.out) hb); have n4_ := Aside0.mk (below_step (by repeat (first | (with_reducible first | exact HB.out | apply below_alloc | apply pw_below_drewN | apply below_drew1 | refine below_set ?_ GE153.out) | exact HB.out)) hb); clear HO156; clear HO159; clear HO162; clear BK153; clear HB; have HO156 := n0_; have HO159 := n1_; have HO162 := n2_; have BK153 := n3_; have HB := n4_; clear n0_ n1_ n2_ n3_ n4_; (try clear hb); (try clear hb2); (try clear hk); (try clear hi)))
                      go_meet
                      case rel => exact ⟨_, (true), (by first | rfl | (simp; done) | (simp [*]; done)), H', ⟨by have := HK1.out; have := HJ1.out; first | omega | exact Nat.le_refl _⟩, ⟨by (with_reducible repeat (first | apply Kd.R_alloc | apply Kd.R_drewN | apply Kd.R_drew)); exact Kd.R_mono HO156.out (fun _ hk => trivial)⟩, ⟨by (with_reducible repeat (first | refine blk_drewN ?_ _ | refine blk_drew ?_ | refine blk_alloc ?_ _)); exact BK153.out⟩, ⟨by repeat (first | (with_reducible first | exact HB.out | apply below_alloc | apply pw_below_drewN | apply below_drew1 | refine below_set ?_ GE153.out) | exact HB.out)⟩⟩
                  case rest =>
                    clear HC13
                    try clear c1
                    try clear p1
                    try clear q1
                    try clear hx1
                    try clear c2
                    try clear p2
                    try clear c3
                    try clear c3b0
                    try clear c4
                    try clear c5
                    try clear c5b0
                    try clear c6
                    try clear c6b0
                    try clear c8
                    try clear c11
                    try clear c15
                    try clear p15
                    try clear q15
                    try clear hx15
                    try clear c23
                    try clear c26
                    try clear hcz15_0
                    try clear hcz15_1
                    try clear hcz15_2
                    try clear hcz15_3
                    try clear hcz15_4
                    try clear hcz15_5
                    try clear hcz15_6
                    try clear hcz15_7
                    try clear hcz15_8
                    try clear hcz17_0
                    try clear hcz17_1
                    try clear hcz17_2
                    try clear hcz17_3
                    try clear hcz17_4
                    try clear hcz17_5
                    try clear hcz17_6
                    try clear hcz17_7
                    try clear hcz17_8
                    try clear hcz21_0
                    try clear hcz21_1
                    try clear hcz21_2
                    try clear hcz21_3
                    try clear hcz21_4
                    try clear hcz21_5
                    try clear hcz21_6
                    try clear hcz21_7
                    try clear hcz21_8
                    try clear hcz29_0
                    try clear hcz29_1
                    try clear hcz29_2
                    try clear hcz29_3
                    try clear hcz29_4
                    try clear hcz29_5
                    try clear hcz29_6
                    try clear hcz29_7
                    try clear hcz29_8
                    try clear hcz31_0
                    try clear hcz31_1
                    try clear hcz31_2
                    try clear hcz31_3
                    try clear hcz31_4
                    try clear hcz31_5
                    try clear hcz31_6
                    try clear hcz31_7
                    try clear hcz31_8
                    try clear hcz35_0
                    try clear hcz35_1
                    try clear hcz35_2
                    try clear hcz35_3
                    try clear hcz35_4
                    try clear hcz35_5
                    try clear hcz35_6
                    try clear hcz35_7
                    try clear hcz35_8
                    try clear hfz15_0
                    try clear hfz15_1
                    try clear hfz15_2
                    try clear hfz15_3
                    try clear hfz15_4
                    try clear hfz15_5
                    try clear hfz15_6
                    try clear hfz15_7
                    try clear hfz15_8
                    try clear hfz17_0
                    try clear hfz17_1
                    try clear hfz17_2
                    try clear hfz17_3
                    try clear hfz17_4
                    try clear hfz17_5
                    try clear hfz17_6
                    try clear hfz17_7
                    try clear hfz17_8
                    try clear hfz21_0
                    try clear hfz21_1
                    try clear hfz21_2
                    try clear hfz21_3
                    try clear hfz21_4
                    try clear hfz21_5
                    try clear hfz21_6
                    try clear hfz21_7
                    try clear hfz21_8
                    try clear hfz29_0
                    try clear hfz29_1
                    try clear hfz29_2
                    try clear hfz29_3
                    try clear hfz29_4
                    try clear hfz29_5
                    try clear hfz29_6
                    try clear hfz29_7
                    try clear hfz29_8
                    try clear hfz31_0
                    try clear hfz31_1
                    try clear hfz31_2
                    try clear hfz31_3
                    try clear hfz31_4
                    try clear hfz31_5
                    try clear hfz31_6
                    try clear hfz31_7
                    try clear hfz31_8
                    try clear hfz35_0
                    try clear hfz35_1
                    try clear hfz35_2
                    try clear hfz35_3
                    try clear hfz35_4
                    try clear hfz35_5
                    try clear hfz35_6
                    try clear hfz35_7
                    try clear hfz35_8
                    try clear hx152_0
                    try clear hx152_1
                    try clear hx152_2
                    try clear hx152_3
                    try clear hx152_4
                    try clear hx152_5
                    try clear hx152_6
                    try clear hx152_7
                    try clear hx152_8
                    try clear p152
                    try clear p2
                    try clear q152
                    obtain ⟨kq, x51_12, rfl, HA, HJ12, HO_5, BK153, HB⟩ := hcut
                    have hl5_12 := (Kd.R_reads' HO_5.out).1
                    rw [hl5_12] at HO_5
                    (try simp only [hl5_12])
                    (try simp only [hl5_12] at BK153)
                    cases kq with
                    | zero => exact absurd HA.out (by simp [larderlaw1_WordPlace.j2])
                    | succ kj12 =>
                      have H := HA.out
                      clear HA
                      simp only [larderlaw1_WordPlace.j2] at H
                      by_cases c37 : x51_12 = true
                      · subst c37
                        have H1 : (some false) = some r := by rw [if_pos rfl] at H; exact H
                        clear H
                        have H := H1
                        clear H1
                        obtain rfl := Option.some.inj H
                        go_wp2
                        go_ret
                        exact ⟨by first | rfl | (simp [errW_none, errW_some] <;> rfl) | (simp [*, errW_none, errW_some] <;> rfl), by repeat (first | (with_reducible first | exact HB.out | apply below_alloc | apply pw_below_drewN | apply below_drew1 | refine below_set ?_ GE153.out) | exact HB.out)⟩
                      · replace c37 := Bool.eq_false_iff.mpr c37
                        subst c37
                        have H1 : ((larderlaw1_Into.f kj12 t164 ((rd_T71 l0 x3_1).f7)).bind fun t170 => ((larderlaw1_places.f kj12 ((rd_T71 l0 x3_1).f0) ((rd_T71 l0 x3_1).f1) ((rd_T71 l0 x3_1).f2) ((rd_T71 l0 x3_1).f3) ((rd_T71 l0 x3_1).f4) ((rd_T71 l0 x3_1).f5) ((rd_T71 l0 x3_1).f6) ((rd_T71 l0 x3_1).f7) ((rd_T71 l0 x3_1).f8) t170 ((rd_T71 l0 x3_1).f7)).bind fun t171 => (if t171 = true then (if ((rd_T71 l0 x3_1).f0) = 5 then ((larderlaw1_unpacks.f kj12 ((rd_T71 l0 x3_1).f0) ((rd_T71 l0 x3_1).f1) ((rd_T71 l0 x3_1).f2) ((rd_T71 l0 x3_1).f3) ((rd_T71 l0 x3_1).f4) ((rd_T71 l0 x3_1).f5) ((rd_T71 l0 x3_1).f6) ((rd_T71 l0 x3_1).f7) ((rd_T71 l0 x3_1).f8)).bind fun t172 => (if t172 = true then (larderlaw1_WordPlace.l0 kj12 l0 (wrap64 (x3_1 + 1))) else (some false))) else (larderlaw1_WordPlace.l0 kj12 l0 (wrap64 (x3_1 + 1)))) else (some false)))) = some r := by rw [if_neg (show ¬ (false = true) by decide)] at H; exact H
                        clear H
                        have H := H1
                        clear H1
                        replace H := Option.bind_eq_some_iff.mp H
                        obtain ⟨t170, A380, H⟩ := H
                        replace H : ((larderlaw1_places.f kj12 ((rd_T71 l0 x3_1).f0) ((rd_T71 l0 x3_1).f1) ((rd_T71 l0 x3_1).f2) ((rd_T71 l0 x3_1).f3) ((rd_T71 l0 x3_1).f4) ((rd_T71 l0 x3_1).f5) ((rd_T71 l0 x3_1).f6) ((rd_T71 l0 x3_1).f7) ((rd_T71 l0 x3_1).f8) t170 ((rd_T71 l0 x3_1).f7)).bind fun t171 => (if t171 = true then (if ((rd_T71 l0 x3_1).f0) = 5 then ((larderlaw1_unpacks.f kj12 ((rd_T71 l0 x3_1).f0) ((rd_T71 l0 x3_1).f1) ((rd_T71 l0 x3_1).f2) ((rd_T71 l0 x3_1).f3) ((rd_T71 l0 x3_1).f4) ((rd_T71 l0 x3_1).f5) ((rd_T71 l0 x3_1).f6) ((rd_T71 l0 x3_1).f7) ((rd_T71 l0 x3_1).f8)).bind fun t172 => (if t172 = true then (larderlaw1_WordPlace.l0 kj12 l0 (wrap64 (x3_1 + 1))) else (some false))) else (larderlaw1_WordPlace.l0 kj12 l0 (wrap64 (x3_1 + 1)))) else (some false))) = some r := H
                        have A38 := Aside0.mk A380
                        clear A380
                        replace H := Option.bind_eq_some_iff.mp H
                        obtain ⟨t171, A390, H⟩ := H
                        replace H : (if t171 = true then (if ((rd_T71 l0 x3_1).f0) = 5 then ((larderlaw1_unpacks.f kj12 ((rd_T71 l0 x3_1).f0) ((rd_T71 l0 x3_1).f1) ((rd_T71 l0 x3_1).f2) ((rd_T71 l0 x3_1).f3) ((rd_T71 l0 x3_1).f4) ((rd_T71 l0 x3_1).f5) ((rd_T71 l0 x3_1).f6) ((rd_T71 l0 x3_1).f7) ((rd_T71 l0 x3_1).f8)).bind fun t172 => (if t172 = true then (larderlaw1_WordPlace.l0 kj12 l0 (wrap64 (x3_1 + 1))) else (some false))) else (larderlaw1_WordPlace.l0 kj12 l0 (wrap64 (x3_1 + 1)))) else (some false)) = some r := H
                        have A39 := Aside0.mk A390
                        clear A390
                        by_cases c40 : t171 = true
                        · subst c40
                          have H1 : (if ((rd_T71 l0 x3_1).f0) = 5 then ((larderlaw1_unpacks.f kj12 ((rd_T71 l0 x3_1).f0) ((rd_T71 l0 x3_1).f1) ((rd_T71 l0 x3_1).f2) ((rd_T71 l0 x3_1).f3) ((rd_T71 l0 x3_1).f4) ((rd_T71 l0 x3_1).f5) ((rd_T71 l0 x3_1).f6) ((rd_T71 l0 x3_1).f7) ((rd_T71 l0 x3_1).f8)).bind fun t172 => (if t172 = true then (larderlaw1_WordPlace.l0 kj12 l0 (wrap64 (x3_1 + 1))) else (some false))) else (larderlaw1_WordPlace.l0 kj12 l0 (wrap64 (x3_1 + 1)))) = some r := by rw [if_pos rfl] at H; exact H
                          clear H
                          have H := H1
                          clear H1
                          by_cases c41 : ((rd_T71 l0 x3_1).f0) = 5
                          · rw [if_pos c41] at H
                            have c41b0 : (((rd_T71 l0 x3_1).f0) == 5) = true := beq_iff_eq.mpr c41
                            have c41b1 : (((rd_T71 l0 x3_1).f0) != 5) = false := bne_eq_false_iff_eq.mpr c41
                            clear c41
                            replace H := Option.bind_eq_some_iff.mp H
                            obtain ⟨t172, A420, H⟩ := H
                            replace H : (if t172 = true then (larderlaw1_WordPlace.l0 kj12 l0 (wrap64 (x3_1 + 1))) else (some false)) = some r := H
                            have A42 := Aside0.mk A420
                            clear A420
                            by_cases c43 : t172 = true
                            · subst c43
                              have H1 : (larderlaw1_WordPlace.l0 kj12 l0 (wrap64 (x3_1 + 1))) = some r := by rw [if_pos rfl] at H; exact H
                              clear H
                              have H := H1
                              clear H1
                              have H' := Aside0.mk H
                              clear H
                              have hcz44_0 : wc.cell? ⟨gb153, 0, none⟩ = some (.int .i64 ((rd_T71 l0 x3_1).f0)) := (blk_cell BK153.out 0).trans rfl
                              have hcz44_1 : wc.cell? ⟨gb153, 1, none⟩ = some (.int .i64 ((rd_T71 l0 x3_1).f1)) := (blk_cell BK153.out 1).trans rfl
                              have hcz44_2 : wc.cell? ⟨gb153, 2, none⟩ = some (.int .i64 ((rd_T71 l0 x3_1).f2)) := (blk_cell BK153.out 2).trans rfl
                              have hcz44_3 : wc.cell? ⟨gb153, 3, none⟩ = some (.int .i64 ((rd_T71 l0 x3_1).f3)) := (blk_cell BK153.out 3).trans rfl
                              have hcz44_4 : wc.cell? ⟨gb153, 4, none⟩ = some (.int .i64 ((rd_T71 l0 x3_1).f4)) := (blk_cell BK153.out 4).trans rfl
                              have hcz44_5 : wc.cell? ⟨gb153, 5, none⟩ = some (.int .i64 ((rd_T71 l0 x3_1).f5)) := (blk_cell BK153.out 5).trans rfl
                              have hcz44_6 : wc.cell? ⟨gb153, 6, none⟩ = some (.int .u64 ((rd_T71 l0 x3_1).f6)) := (blk_cell BK153.out 6).trans rfl
                              have hcz44_7 : wc.cell? ⟨gb153, 7, none⟩ = some (.slice A152_7 ((rd_T71 l0 x3_1).f7).length c152_7) := (blk_cell BK153.out 7).trans rfl
                              have hcz44_8 : wc.cell? ⟨gb153, 8, none⟩ = some (.slice A152_8 ((rd_T71 l0 x3_1).f8).length c152_8) := (blk_cell BK153.out 8).trans rfl
                              have hfz44_0 := blk_frozen BK153.out 0
                              have hfz44_1 := blk_frozen BK153.out 1
                              have hfz44_2 := blk_frozen BK153.out 2
                              have hfz44_3 := blk_frozen BK153.out 3
                              have hfz44_4 := blk_frozen BK153.out 4
                              have hfz44_5 := blk_frozen BK153.out 5
                              have hfz44_6 := blk_frozen BK153.out 6
                              have hfz44_7 := blk_frozen BK153.out 7
                              have hfz44_8 := blk_frozen BK153.out 8
                              go_wp2_with (first | ((with_reducible refine gate_callee (f := 40) rfl ?_); refine goesL_ (some 55) rfl rfl Try.func40 (by kernel_rfl) rfl #[.slice Ao19 t164.length co19, .slice A152_7 ((rd_T71 l0 x3_1).f7).length c152_7] rfl (by (try simp only [List.map_toArray, List.map_cons, List.map_nil]); first | done | rfl | (simp only [List.length_drop, List.length_take]; rfl)) ?_; (with_reducible refine (larderlaw1_Into.calls kj12 (fun k_ => some k_ = (.slice Ao19 t164.length co19 : Value).ownBlock) (.slice Ao19 t164.length co19) t164 _ _ ((rd_T71 l0 x3_1).f7) t170 w _ ?side1 ?side2 ?side3 ?side4 A38.out).mono ?_); (case side1 => repeat (first | (with_reducible first | exact HB.out | apply below_alloc | apply pw_below_drewN | apply below_drew1 | refine below_set ?_ GE153.out) | exact HB.out)); (case side2 => exact Kd.R_tight rfl HO_5.out); (case side3 => exact Kd.C_kept_came (Kd.heap_int .u8) HR152_7.out (by repeat (first | (with_reducible first | exact HB.out | apply below_alloc | apply pw_below_drewN | apply below_drew1 | refine below_set ?_ GE153.out) | exact HB.out)) (fun k_ hs_ => (fun e_ => Kd.R_base HO_5.out k_ e_.symm) hs_)); (case side4 => exact HC152_7.out); rintro e w45 ⟨rfl, hy0, hb, hkp⟩; refine ⟨_, rfl, ?_⟩; have n0_ := Aside0.mk (Kd.R_reok rfl hy0 (fun k_ e_ => HO_5.out.1 k_ e_)); have n1_ := Aside0.mk (blk_kept (by (with_reducible repeat (first | refine blk_drewN ?_ _ | refine blk_drew ?_ | refine blk_alloc ?_ _)); exact BK153.out) hkp (fun hs_ => (fun e_ => (Kd.R_ne HO_5.out BK153.out (by decide)) e_) hs_)); have n2_ := Aside0.mk (hb); clear HO_5; clear BK153; clear HB; have HO_5 := n0_; have BK153 := n1_; have HB := n2_; clear n0_ n1_ n2_; (try clear hb); (try clear hkp); (try clear hy0); have hcz46_0 : w45.cell? ⟨gb153, 0, none⟩ = some (.int .i64 ((rd_T71 l0 x3_1).f0)) := (blk_cell BK153.out 0).trans rfl; have hcz46_1 : w45.cell? ⟨gb153, 1, none⟩ = some (.int .i64 ((rd_T71 l0 x3_1).f1)) := (blk_cell BK153.out 1).trans rfl; have hcz46_2 : w45.cell? ⟨gb153, 2, none⟩ = some (.int .i64 ((rd_T71 l0 x3_1).f2)) := (blk_cell BK153.out 2).trans rfl; have hcz46_3 : w45.cell? ⟨gb153, 3, none⟩ = some (.int .i64 ((rd_T71 l0 x3_1).f3)) := (blk_cell BK153.out 3).trans rfl; have hcz46_4 : w45.cell? ⟨gb153, 4, none⟩ = some (.int .i64 ((rd_T71 l0 x3_1).f4)) := (blk_cell BK153.out 4).trans rfl; have hcz46_5 : w45.cell? ⟨gb153, 5, none⟩ = some (.int .i64 ((rd_T71 l0 x3_1).f5)) := (blk_cell BK153.out 5).trans rfl; have hcz46_6 : w45.cell? ⟨gb153, 6, none⟩ = some (.int .u64 ((rd_T71 l0 x3_1).f6)) := (blk_cell BK153.out 6).trans rfl; have hcz46_7 : w45.cell? ⟨gb153, 7, none⟩ = some (.slice A152_7 ((rd_T71 l0 x3_1).f7).length c152_7) := (blk_cell BK153.out 7).trans rfl; have hcz46_8 : w45.cell? ⟨gb153, 8, none⟩ = some (.slice A152_8 ((rd_T71 l0 x3_1).f8).length c152_8) := (blk_cell BK153.out 8).trans rfl; have hfz46_0 := blk_frozen BK153.out 0; have hfz46_1 := blk_frozen BK153.out 1; have hfz46_2 := blk_frozen BK153.out 2; have hfz46_3 := blk_frozen BK153.out 3; have hfz46_4 := blk_frozen BK153.out 4; have hfz46_5 := blk_frozen BK153.out 5; have hfz46_6 := blk_frozen BK153.out 6; have hfz46_7 := blk_frozen BK153.out 7; have hfz46_8 := blk_frozen BK153.out 8) | ((with_reducible refine gate_callee (f := 39) rfl ?_); refine goesL_ (some 60) rfl rfl Try.func39 (by kernel_rfl) rfl #[.agg #[.int .i64 ((rd_T71 l0 x3_1).f0), .int .i64 ((rd_T71 l0 x3_1).f1), .int .i64 ((rd_T71 l0 x3_1).f2), .int .i64 ((rd_T71 l0 x3_1).f3), .int .i64 ((rd_T71 l0 x3_1).f4), .int .i64 ((rd_T71 l0 x3_1).f5), .int .u64 ((rd_T71 l0 x3_1).f6), .slice A152_7 ((rd_T71 l0 x3_1).f7).length c152_7, .slice A152_8 ((rd_T71 l0 x3_1).f8).length c152_8], .slice Ao19 t170.length co19, .slice A152_7 ((rd_T71 l0 x3_1).f7).length c152_7] rfl (by (try simp only [List.map_toArray, List.map_cons, List.map_nil]); first | done | (rw [show t170.length = t164.length from (Kd.R_reads' HO_5.out).1.symm] <;> rfl) | rfl | (simp only [List.length_drop, List.length_take]; rfl)) ?_; (with_reducible refine (larderlaw1_places.calls kj12 ((rd_T71 l0 x3_1).f0) ((rd_T71 l0 x3_1).f1) ((rd_T71 l0 x3_1).f2) ((rd_T71 l0 x3_1).f3) ((rd_T71 l0 x3_1).f4) ((rd_T71 l0 x3_1).f5) ((rd_T71 l0 x3_1).f6) _ _ ((rd_T71 l0 x3_1).f7) _ _ ((rd_T71 l0 x3_1).f8) _ _ t170 _ _ ((rd_T71 l0 x3_1).f7) true _ ?side1 ?side2 ?side3 ?side4 ?side5 ?side6 ?side7 ?side8 A39.out).mono ?_); (case side1 => repeat (first | exact (Kd.C_below HR152_7.out HB.out) | (with_reducible refine Kd.C_alloc ?_ _) | (with_reducible refine Kd.C_drewN ?_ _) | (with_reducible refine Kd.C_drew ?_))); (case side2 => exact HC152_7.out); (case side3 => repeat (first | exact (Kd.C_below HR152_8.out HB.out) | (with_reducible refine Kd.C_alloc ?_ _) | (with_reducible refine Kd.C_drewN ?_ _) | (with_reducible refine Kd.C_drew ?_))); (case side4 => exact HC152_8.out); (case side5 => repeat (first | exact (Kd.R_reads' HO_5.out).2.2 | (with_reducible refine Kd.C_alloc ?_ _) | (with_reducible refine Kd.C_drewN ?_ _) | (with_reducible refine Kd.C_drew ?_))); (case side6 => rw [show t170.length = t164.length from (Kd.R_reads' HO_5.out).1.symm]; exact (Kd.R_reads' HO_5.out).2.1); (case side7 => repeat (first | exact (Kd.C_below HR152_7.out HB.out) | (with_reducible refine Kd.C_alloc ?_ _) | (with_reducible refine Kd.C_drewN ?_ _) | (with_reducible refine Kd.C_drew ?_))); (case side8 => exact HC152_7.out); rintro e w47 ⟨rfl, hb⟩; refine ⟨_, rfl, ?_⟩; have n0_ := Aside0.mk (Kd.R_below (by (with_reducible repeat (first | apply Kd.R_alloc | apply Kd.R_drewN | apply Kd.R_drew)); exact HO_5.out) hb); have n1_ := Aside0.mk (blk_below (g := gb153) (o := .cells #[.int .i64 ((rd_T71 l0 x3_1).f0), .int .i64 ((rd_T71 l0 x3_1).f1), .int .i64 ((rd_T71 l0 x3_1).f2), .int .i64 ((rd_T71 l0 x3_1).f3), .int .i64 ((rd_T71 l0 x3_1).f4), .int .i64 ((rd_T71 l0 x3_1).f5), .int .u64 ((rd_T71 l0 x3_1).f6), .slice A152_7 ((rd_T71 l0 x3_1).f7).length c152_7, .slice A152_8 ((rd_T71 l0 x3_1).f8).length c152_8] 71 (0, 0)) (by (with_reducible repeat (first | refine blk_drewN ?_ _ | refine blk_drew ?_ | refine blk_alloc ?_ _)); exact BK153.out) hb); have n2_ := Aside0.mk (below_step (by repeat (first | (with_reducible first | exact HB.out | apply below_alloc | apply pw_below_drewN | apply below_drew1 | refine below_set ?_ GE153.out) | exact HB.out)) hb); clear HO_5; clear BK153; clear HB; have HO_5 := n0_; have BK153 := n1_; have HB := n2_; clear n0_ n1_ n2_; (try clear hb); (try clear hb2); (try clear hk); (try clear hi); have hcz48_0 : w47.cell? ⟨gb153, 0, none⟩ = some (.int .i64 ((rd_T71 l0 x3_1).f0)) := (blk_cell BK153.out 0).trans rfl; have hcz48_1 : w47.cell? ⟨gb153, 1, none⟩ = some (.int .i64 ((rd_T71 l0 x3_1).f1)) := (blk_cell BK153.out 1).trans rfl; have hcz48_2 : w47.cell? ⟨gb153, 2, none⟩ = some (.int .i64 ((rd_T71 l0 x3_1).f2)) := (blk_cell BK153.out 2).trans rfl; have hcz48_3 : w47.cell? ⟨gb153, 3, none⟩ = some (.int .i64 ((rd_T71 l0 x3_1).f3)) := (blk_cell BK153.out 3).trans rfl; have hcz48_4 : w47.cell? ⟨gb153, 4, none⟩ = some (.int .i64 ((rd_T71 l0 x3_1).f4)) := (blk_cell BK153.out 4).trans rfl; have hcz48_5 : w47.cell? ⟨gb153, 5, none⟩ = some (.int .i64 ((rd_T71 l0 x3_1).f5)) := (blk_cell BK153.out 5).trans rfl; have hcz48_6 : w47.cell? ⟨gb153, 6, none⟩ = some (.int .u64 ((rd_T71 l0 x3_1).f6)) := (blk_cell BK153.out 6).trans rfl; have hcz48_7 : w47.cell? ⟨gb153, 7, none⟩ = some (.slice A152_7 ((rd_T71 l0 x3_1).f7).length c152_7) := (blk_cell BK153.out 7).trans rfl; have hcz48_8 : w47.cell? ⟨gb153, 8, none⟩ = some (.slice A152_8 ((rd_T71 l0 x3_1).f8).length c152_8) := (blk_cell BK153.out 8).trans rfl; have hfz48_0 := blk_frozen BK153.out 0; have hfz48_1 := blk_frozen BK153.out 1; have hfz48_2 := blk_frozen BK153.out 2; have hfz48_3 := blk_frozen BK153.out 3; have hfz48_4 := blk_frozen BK153.out 4; have hfz48_5 := blk_frozen BK153.out 5; have hfz48_6 := blk_frozen BK153.out 6; have hfz48_7 := blk_frozen BK153.out 7; have hfz48_8 := blk_frozen BK153.out 8) | (go_at_call 41; (with_reducible refine (larderlaw1_unpacks.calls kj12 ((rd_T71 l0 x3_1).f0) ((rd_T71 l0 x3_1).f1) ((rd_T71 l0 x3_1).f2) ((rd_T71 l0 x3_1).f3) ((rd_T71 l0 x3_1).f4) ((rd_T71 l0 x3_1).f5) ((rd_T71 l0 x3_1).f6) _ _ ((rd_T71 l0 x3_1).f7) _ _ ((rd_T71 l0 x3_1).f8) true _ ?side1 ?side2 ?side3 ?side4 A42.out).mono ?_); (case side1 => repeat (first | exact (Kd.C_below HR152_7.out HB.out) | (with_reducible refine Kd.C_alloc ?_ _) | (with_reducible refine Kd.C_drewN ?_ _) | (with_reducible refine Kd.C_drew ?_))); (case side2 => exact HC152_7.out); (case side3 => repeat (first | exact (Kd.C_below HR152_8.out HB.out) | (with_reducible refine Kd.C_alloc ?_ _) | (with_reducible refine Kd.C_drewN ?_ _) | (with_reducible refine Kd.C_drew ?_))); (case side4 => exact HC152_8.out); rintro e w49 ⟨rfl, hb⟩; have n0_ := Aside0.mk (Kd.R_below (by (with_reducible repeat (first | apply Kd.R_alloc | apply Kd.R_drewN | apply Kd.R_drew)); exact HO_5.out) hb); have n1_ := Aside0.mk (blk_below (g := gb153) (o := .cells #[.int .i64 ((rd_T71 l0 x3_1).f0), .int .i64 ((rd_T71 l0 x3_1).f1), .int .i64 ((rd_T71 l0 x3_1).f2), .int .i64 ((rd_T71 l0 x3_1).f3), .int .i64 ((rd_T71 l0 x3_1).f4), .int .i64 ((rd_T71 l0 x3_1).f5), .int .u64 ((rd_T71 l0 x3_1).f6), .slice A152_7 ((rd_T71 l0 x3_1).f7).length c152_7, .slice A152_8 ((rd_T71 l0 x3_1).f8).length c152_8] 71 (0, 0)) (by (with_reducible repeat (first | refine blk_drewN ?_ _ | refine blk_drew ?_ | refine blk_alloc ?_ _)); exact BK153.out) hb); have n2_ := Aside0.mk (below_step (by repeat (first | (with_reducible first | exact HB.out | apply below_alloc | apply pw_below_drewN | apply below_drew1 | refine below_set ?_ GE153.out) | exact HB.out)) hb); clear HO_5; clear BK153; clear HB; have HO_5 := n0_; have BK153 := n1_; have HB := n2_; clear n0_ n1_ n2_; (try clear hb); (try clear hb2); (try clear hk); (try clear hi)))
                              (try simp only [← hl5_12])
                              go_roundg kj12
                              case measure => have := HK1.out; have := HJ1.out; have := HJ12.out; omega
                              case rel => exact ⟨(wrap64 (x3_1 + 1)), (by first | rfl | (simp; done) | (simp [*]; done)), H', ⟨by have := HK1.out; have := HJ1.out; have := HJ12.out; omega⟩, ⟨by repeat (first | (with_reducible first | exact HB.out | apply below_alloc | apply pw_below_drewN | apply below_drew1 | refine below_set ?_ GE153.out) | exact HB.out)⟩⟩
                            · replace c43 := Bool.eq_false_iff.mpr c43
                              subst c43
                              have H1 : (some false) = some r := by rw [if_neg (show ¬ (false = true) by decide)] at H; exact H
                              clear H
                              have H := H1
                              clear H1
                              obtain rfl := Option.some.inj H
                              have hcz50_0 : wc.cell? ⟨gb153, 0, none⟩ = some (.int .i64 ((rd_T71 l0 x3_1).f0)) := (blk_cell BK153.out 0).trans rfl
                              have hcz50_1 : wc.cell? ⟨gb153, 1, none⟩ = some (.int .i64 ((rd_T71 l0 x3_1).f1)) := (blk_cell BK153.out 1).trans rfl
                              have hcz50_2 : wc.cell? ⟨gb153, 2, none⟩ = some (.int .i64 ((rd_T71 l0 x3_1).f2)) := (blk_cell BK153.out 2).trans rfl
                              have hcz50_3 : wc.cell? ⟨gb153, 3, none⟩ = some (.int .i64 ((rd_T71 l0 x3_1).f3)) := (blk_cell BK153.out 3).trans rfl
                              have hcz50_4 : wc.cell? ⟨gb153, 4, none⟩ = some (.int .i64 ((rd_T71 l0 x3_1).f4)) := (blk_cell BK153.out 4).trans rfl
                              have hcz50_5 : wc.cell? ⟨gb153, 5, none⟩ = some (.int .i64 ((rd_T71 l0 x3_1).f5)) := (blk_cell BK153.out 5).trans rfl
                              have hcz50_6 : wc.cell? ⟨gb153, 6, none⟩ = some (.int .u64 ((rd_T71 l0 x3_1).f6)) := (blk_cell BK153.out 6).trans rfl
                              have hcz50_7 : wc.cell? ⟨gb153, 7, none⟩ = some (.slice A152_7 ((rd_T71 l0 x3_1).f7).length c152_7) := (blk_cell BK153.out 7).trans rfl
                              have hcz50_8 : wc.cell? ⟨gb153, 8, none⟩ = some (.slice A152_8 ((rd_T71 l0 x3_1).f8).length c152_8) := (blk_cell BK153.out 8).trans rfl
                              have hfz50_0 := blk_frozen BK153.out 0
                              have hfz50_1 := blk_frozen BK153.out 1
                              have hfz50_2 := blk_frozen BK153.out 2
                              have hfz50_3 := blk_frozen BK153.out 3
                              have hfz50_4 := blk_frozen BK153.out 4
                              have hfz50_5 := blk_frozen BK153.out 5
                              have hfz50_6 := blk_frozen BK153.out 6
                              have hfz50_7 := blk_frozen BK153.out 7
                              have hfz50_8 := blk_frozen BK153.out 8
                              go_wp2_with (first | ((with_reducible refine gate_callee (f := 40) rfl ?_); refine goesL_ (some 55) rfl rfl Try.func40 (by kernel_rfl) rfl #[.slice Ao19 t164.length co19, .slice A152_7 ((rd_T71 l0 x3_1).f7).length c152_7] rfl (by (try simp only [List.map_toArray, List.map_cons, List.map_nil]); first | done | rfl | (simp only [List.length_drop, List.length_take]; rfl)) ?_; (with_reducible refine (larderlaw1_Into.calls kj12 (fun k_ => some k_ = (.slice Ao19 t164.length co19 : Value).ownBlock) (.slice Ao19 t164.length co19) t164 _ _ ((rd_T71 l0 x3_1).f7) t170 w _ ?side1 ?side2 ?side3 ?side4 A38.out).mono ?_); (case side1 => repeat (first | (with_reducible first | exact HB.out | apply below_alloc | apply pw_below_drewN | apply below_drew1 | refine below_set ?_ GE153.out) | exact HB.out)); (case side2 => exact Kd.R_tight rfl HO_5.out); (case side3 => exact Kd.C_kept_came (Kd.heap_int .u8) HR152_7.out (by repeat (first | (with_reducible first | exact HB.out | apply below_alloc | apply pw_below_drewN | apply below_drew1 | refine below_set ?_ GE153.out) | exact HB.out)) (fun k_ hs_ => (fun e_ => Kd.R_base HO_5.out k_ e_.symm) hs_)); (case side4 => exact HC152_7.out); rintro e w51 ⟨rfl, hy0, hb, hkp⟩; refine ⟨_, rfl, ?_⟩; have n0_ := Aside0.mk (Kd.R_reok rfl hy0 (fun k_ e_ => HO_5.out.1 k_ e_)); have n1_ := Aside0.mk (blk_kept (by (with_reducible repeat (first | refine blk_drewN ?_ _ | refine blk_drew ?_ | refine blk_alloc ?_ _)); exact BK153.out) hkp (fun hs_ => (fun e_ => (Kd.R_ne HO_5.out BK153.out (by decide)) e_) hs_)); have n2_ := Aside0.mk (hb); clear HO_5; clear BK153; clear HB; have HO_5 := n0_; have BK153 := n1_; have HB := n2_; clear n0_ n1_ n2_; (try clear hb); (try clear hkp); (try clear hy0); have hcz52_0 : w51.cell? ⟨gb153, 0, none⟩ = some (.int .i64 ((rd_T71 l0 x3_1).f0)) := (blk_cell BK153.out 0).trans rfl; have hcz52_1 : w51.cell? ⟨gb153, 1, none⟩ = some (.int .i64 ((rd_T71 l0 x3_1).f1)) := (blk_cell BK153.out 1).trans rfl; have hcz52_2 : w51.cell? ⟨gb153, 2, none⟩ = some (.int .i64 ((rd_T71 l0 x3_1).f2)) := (blk_cell BK153.out 2).trans rfl; have hcz52_3 : w51.cell? ⟨gb153, 3, none⟩ = some (.int .i64 ((rd_T71 l0 x3_1).f3)) := (blk_cell BK153.out 3).trans rfl; have hcz52_4 : w51.cell? ⟨gb153, 4, none⟩ = some (.int .i64 ((rd_T71 l0 x3_1).f4)) := (blk_cell BK153.out 4).trans rfl; have hcz52_5 : w51.cell? ⟨gb153, 5, none⟩ = some (.int .i64 ((rd_T71 l0 x3_1).f5)) := (blk_cell BK153.out 5).trans rfl; have hcz52_6 : w51.cell? ⟨gb153, 6, none⟩ = some (.int .u64 ((rd_T71 l0 x3_1).f6)) := (blk_cell BK153.out 6).trans rfl; have hcz52_7 : w51.cell? ⟨gb153, 7, none⟩ = some (.slice A152_7 ((rd_T71 l0 x3_1).f7).length c152_7) := (blk_cell BK153.out 7).trans rfl; have hcz52_8 : w51.cell? ⟨gb153, 8, none⟩ = some (.slice A152_8 ((rd_T71 l0 x3_1).f8).length c152_8) := (blk_cell BK153.out 8).trans rfl; have hfz52_0 := blk_frozen BK153.out 0; have hfz52_1 := blk_frozen BK153.out 1; have hfz52_2 := blk_frozen BK153.out 2; have hfz52_3 := blk_frozen BK153.out 3; have hfz52_4 := blk_frozen BK153.out 4; have hfz52_5 := blk_frozen BK153.out 5; have hfz52_6 := blk_frozen BK153.out 6; have hfz52_7 := blk_frozen BK153.out 7; have hfz52_8 := blk_frozen BK153.out 8) | ((with_reducible refine gate_callee (f := 39) rfl ?_); refine goesL_ (some 60) rfl rfl Try.func39 (by kernel_rfl) rfl #[.agg #[.int .i64 ((rd_T71 l0 x3_1).f0), .int .i64 ((rd_T71 l0 x3_1).f1), .int .i64 ((rd_T71 l0 x3_1).f2), .int .i64 ((rd_T71 l0 x3_1).f3), .int .i64 ((rd_T71 l0 x3_1).f4), .int .i64 ((rd_T71 l0 x3_1).f5), .int .u64 ((rd_T71 l0 x3_1).f6), .slice A152_7 ((rd_T71 l0 x3_1).f7).length c152_7, .slice A152_8 ((rd_T71 l0 x3_1).f8).length c152_8], .slice Ao19 t170.length co19, .slice A152_7 ((rd_T71 l0 x3_1).f7).length c152_7] rfl (by (try simp only [List.map_toArray, List.map_cons, List.map_nil]); first | done | (rw [show t170.length = t164.length from (Kd.R_reads' HO_5.out).1.symm] <;> rfl) | rfl | (simp only [List.length_drop, List.length_take]; rfl)) ?_; (with_reducible refine (larderlaw1_places.calls kj12 ((rd_T71 l0 x3_1).f0) ((rd_T71 l0 x3_1).f1) ((rd_T71 l0 x3_1).f2) ((rd_T71 l0 x3_1).f3) ((rd_T71 l0 x3_1).f4) ((rd_T71 l0 x3_1).f5) ((rd_T71 l0 x3_1).f6) _ _ ((rd_T71 l0 x3_1).f7) _ _ ((rd_T71 l0 x3_1).f8) _ _ t170 _ _ ((rd_T71 l0 x3_1).f7) true _ ?side1 ?side2 ?side3 ?side4 ?side5 ?side6 ?side7 ?side8 A39.out).mono ?_); (case side1 => repeat (first | exact (Kd.C_below HR152_7.out HB.out) | (with_reducible refine Kd.C_alloc ?_ _) | (with_reducible refine Kd.C_drewN ?_ _) | (with_reducible refine Kd.C_drew ?_))); (case side2 => exact HC152_7.out); (case side3 => repeat (first | exact (Kd.C_below HR152_8.out HB.out) | (with_reducible refine Kd.C_alloc ?_ _) | (with_reducible refine Kd.C_drewN ?_ _) | (with_reducible refine Kd.C_drew ?_))); (case side4 => exact HC152_8.out); (case side5 => repeat (first | exact (Kd.R_reads' HO_5.out).2.2 | (with_reducible refine Kd.C_alloc ?_ _) | (with_reducible refine Kd.C_drewN ?_ _) | (with_reducible refine Kd.C_drew ?_))); (case side6 => rw [show t170.length = t164.length from (Kd.R_reads' HO_5.out).1.symm]; exact (Kd.R_reads' HO_5.out).2.1); (case side7 => repeat (first | exact (Kd.C_below HR152_7.out HB.out) | (with_reducible refine Kd.C_alloc ?_ _) | (with_reducible refine Kd.C_drewN ?_ _) | (with_reducible refine Kd.C_drew ?_))); (case side8 => exact HC152_7.out); rintro e w53 ⟨rfl, hb⟩; refine ⟨_, rfl, ?_⟩; have n0_ := Aside0.mk (Kd.R_below (by (with_reducible repeat (first | apply Kd.R_alloc | apply Kd.R_drewN | apply Kd.R_drew)); exact HO_5.out) hb); have n1_ := Aside0.mk (blk_below (g := gb153) (o := .cells #[.int .i64 ((rd_T71 l0 x3_1).f0), .int .i64 ((rd_T71 l0 x3_1).f1), .int .i64 ((rd_T71 l0 x3_1).f2), .int .i64 ((rd_T71 l0 x3_1).f3), .int .i64 ((rd_T71 l0 x3_1).f4), .int .i64 ((rd_T71 l0 x3_1).f5), .int .u64 ((rd_T71 l0 x3_1).f6), .slice A152_7 ((rd_T71 l0 x3_1).f7).length c152_7, .slice A152_8 ((rd_T71 l0 x3_1).f8).length c152_8] 71 (0, 0)) (by (with_reducible repeat (first | refine blk_drewN ?_ _ | refine blk_drew ?_ | refine blk_alloc ?_ _)); exact BK153.out) hb); have n2_ := Aside0.mk (below_step (by repeat (first | (with_reducible first | exact HB.out | apply below_alloc | apply pw_below_drewN | apply below_drew1 | refine below_set ?_ GE153.out) | exact HB.out)) hb); clear HO_5; clear BK153; clear HB; have HO_5 := n0_; have BK153 := n1_; have HB := n2_; clear n0_ n1_ n2_; (try clear hb); (try clear hb2); (try clear hk); (try clear hi); have hcz54_0 : w53.cell? ⟨gb153, 0, none⟩ = some (.int .i64 ((rd_T71 l0 x3_1).f0)) := (blk_cell BK153.out 0).trans rfl; have hcz54_1 : w53.cell? ⟨gb153, 1, none⟩ = some (.int .i64 ((rd_T71 l0 x3_1).f1)) := (blk_cell BK153.out 1).trans rfl; have hcz54_2 : w53.cell? ⟨gb153, 2, none⟩ = some (.int .i64 ((rd_T71 l0 x3_1).f2)) := (blk_cell BK153.out 2).trans rfl; have hcz54_3 : w53.cell? ⟨gb153, 3, none⟩ = some (.int .i64 ((rd_T71 l0 x3_1).f3)) := (blk_cell BK153.out 3).trans rfl; have hcz54_4 : w53.cell? ⟨gb153, 4, none⟩ = some (.int .i64 ((rd_T71 l0 x3_1).f4)) := (blk_cell BK153.out 4).trans rfl; have hcz54_5 : w53.cell? ⟨gb153, 5, none⟩ = some (.int .i64 ((rd_T71 l0 x3_1).f5)) := (blk_cell BK153.out 5).trans rfl; have hcz54_6 : w53.cell? ⟨gb153, 6, none⟩ = some (.int .u64 ((rd_T71 l0 x3_1).f6)) := (blk_cell BK153.out 6).trans rfl; have hcz54_7 : w53.cell? ⟨gb153, 7, none⟩ = some (.slice A152_7 ((rd_T71 l0 x3_1).f7).length c152_7) := (blk_cell BK153.out 7).trans rfl; have hcz54_8 : w53.cell? ⟨gb153, 8, none⟩ = some (.slice A152_8 ((rd_T71 l0 x3_1).f8).length c152_8) := (blk_cell BK153.out 8).trans rfl; have hfz54_0 := blk_frozen BK153.out 0; have hfz54_1 := blk_frozen BK153.out 1; have hfz54_2 := blk_frozen BK153.out 2; have hfz54_3 := blk_frozen BK153.out 3; have hfz54_4 := blk_frozen BK153.out 4; have hfz54_5 := blk_frozen BK153.out 5; have hfz54_6 := blk_frozen BK153.out 6; have hfz54_7 := blk_frozen BK153.out 7; have hfz54_8 := blk_frozen BK153.out 8) | (go_at_call 41; (with_reducible refine (larderlaw1_unpacks.calls kj12 ((rd_T71 l0 x3_1).f0) ((rd_T71 l0 x3_1).f1) ((rd_T71 l0 x3_1).f2) ((rd_T71 l0 x3_1).f3) ((rd_T71 l0 x3_1).f4) ((rd_T71 l0 x3_1).f5) ((rd_T71 l0 x3_1).f6) _ _ ((rd_T71 l0 x3_1).f7) _ _ ((rd_T71 l0 x3_1).f8) false _ ?side1 ?side2 ?side3 ?side4 A42.out).mono ?_); (case side1 => repeat (first | exact (Kd.C_below HR152_7.out HB.out) | (with_reducible refine Kd.C_alloc ?_ _) | (with_reducible refine Kd.C_drewN ?_ _) | (with_reducible refine Kd.C_drew ?_))); (case side2 => exact HC152_7.out); (case side3 => repeat (first | exact (Kd.C_below HR152_8.out HB.out) | (with_reducible refine Kd.C_alloc ?_ _) | (with_reducible refine Kd.C_drewN ?_ _) | (with_reducible refine Kd.C_drew ?_))); (case side4 => exact HC152_8.out); rintro e w55 ⟨rfl, hb⟩; have n0_ := Aside0.mk (Kd.R_below (by (with_reducible repeat (first | apply Kd.R_alloc | apply Kd.R_drewN | apply Kd.R_drew)); exact HO_5.out) hb); have n1_ := Aside0.mk (blk_below (g := gb153) (o := .cells #[.int .i64 ((rd_T71 l0 x3_1).f0), .int .i64 ((rd_T71 l0 x3_1).f1), .int .i64 ((rd_T71 l0 x3_1).f2), .int .i64 ((rd_T71 l0 x3_1).f3), .int .i64 ((rd_T71 l0 x3_1).f4), .int .i64 ((rd_T71 l0 x3_1).f5), .int .u64 ((rd_T71 l0 x3_1).f6), .slice A152_7 ((rd_T71 l0 x3_1).f7).length c152_7, .slice A152_8 ((rd_T71 l0 x3_1).f8).length c152_8] 71 (0, 0)) (by (with_reducible repeat (first | refine blk_drewN ?_ _ | refine blk_drew ?_ | refine blk_alloc ?_ _)); exact BK153.out) hb); have n2_ := Aside0.mk (below_step (by repeat (first | (with_reducible first | exact HB.out | apply below_alloc | apply pw_below_drewN | apply below_drew1 | refine below_set ?_ GE153.out) | exact HB.out)) hb); clear HO_5; clear BK153; clear HB; have HO_5 := n0_; have BK153 := n1_; have HB := n2_; clear n0_ n1_ n2_; (try clear hb); (try clear hb2); (try clear hk); (try clear hi)))
                              go_ret
                              exact ⟨by first | rfl | (simp [errW_none, errW_some] <;> rfl) | (simp [*, errW_none, errW_some] <;> rfl), by repeat (first | (with_reducible first | exact HB.out | apply below_alloc | apply pw_below_drewN | apply below_drew1 | refine below_set ?_ GE153.out) | exact HB.out)⟩
                          · rw [if_neg c41] at H
                            have c41b0 : (((rd_T71 l0 x3_1).f0) == 5) = false := beq_eq_false_iff_ne.mpr c41
                            have c41b1 : (((rd_T71 l0 x3_1).f0) != 5) = true := bne_iff_ne.mpr c41
                            have H' := Aside0.mk H
                            clear H
                            have hcz56_0 : wc.cell? ⟨gb153, 0, none⟩ = some (.int .i64 ((rd_T71 l0 x3_1).f0)) := (blk_cell BK153.out 0).trans rfl
                            have hcz56_1 : wc.cell? ⟨gb153, 1, none⟩ = some (.int .i64 ((rd_T71 l0 x3_1).f1)) := (blk_cell BK153.out 1).trans rfl
                            have hcz56_2 : wc.cell? ⟨gb153, 2, none⟩ = some (.int .i64 ((rd_T71 l0 x3_1).f2)) := (blk_cell BK153.out 2).trans rfl
                            have hcz56_3 : wc.cell? ⟨gb153, 3, none⟩ = some (.int .i64 ((rd_T71 l0 x3_1).f3)) := (blk_cell BK153.out 3).trans rfl
                            have hcz56_4 : wc.cell? ⟨gb153, 4, none⟩ = some (.int .i64 ((rd_T71 l0 x3_1).f4)) := (blk_cell BK153.out 4).trans rfl
                            have hcz56_5 : wc.cell? ⟨gb153, 5, none⟩ = some (.int .i64 ((rd_T71 l0 x3_1).f5)) := (blk_cell BK153.out 5).trans rfl
                            have hcz56_6 : wc.cell? ⟨gb153, 6, none⟩ = some (.int .u64 ((rd_T71 l0 x3_1).f6)) := (blk_cell BK153.out 6).trans rfl
                            have hcz56_7 : wc.cell? ⟨gb153, 7, none⟩ = some (.slice A152_7 ((rd_T71 l0 x3_1).f7).length c152_7) := (blk_cell BK153.out 7).trans rfl
                            have hcz56_8 : wc.cell? ⟨gb153, 8, none⟩ = some (.slice A152_8 ((rd_T71 l0 x3_1).f8).length c152_8) := (blk_cell BK153.out 8).trans rfl
                            have hfz56_0 := blk_frozen BK153.out 0
                            have hfz56_1 := blk_frozen BK153.out 1
                            have hfz56_2 := blk_frozen BK153.out 2
                            have hfz56_3 := blk_frozen BK153.out 3
                            have hfz56_4 := blk_frozen BK153.out 4
                            have hfz56_5 := blk_frozen BK153.out 5
                            have hfz56_6 := blk_frozen BK153.out 6
                            have hfz56_7 := blk_frozen BK153.out 7
                            have hfz56_8 := blk_frozen BK153.out 8
                            go_wp2_with (first | ((with_reducible refine gate_callee (f := 40) rfl ?_); refine goesL_ (some 55) rfl rfl Try.func40 (by kernel_rfl) rfl #[.slice Ao19 t164.length co19, .slice A152_7 ((rd_T71 l0 x3_1).f7).length c152_7] rfl (by (try simp only [List.map_toArray, List.map_cons, List.map_nil]); first | done | rfl | (simp only [List.length_drop, List.length_take]; rfl)) ?_; (with_reducible refine (larderlaw1_Into.calls kj12 (fun k_ => some k_ = (.slice Ao19 t164.length co19 : Value).ownBlock) (.slice Ao19 t164.length co19) t164 _ _ ((rd_T71 l0 x3_1).f7) t170 w _ ?side1 ?side2 ?side3 ?side4 A38.out).mono ?_); (case side1 => repeat (first | (with_reducible first | exact HB.out | apply below_alloc | apply pw_below_drewN | apply below_drew1 | refine below_set ?_ GE153.out) | exact HB.out)); (case side2 => exact Kd.R_tight rfl HO_5.out); (case side3 => exact Kd.C_kept_came (Kd.heap_int .u8) HR152_7.out (by repeat (first | (with_reducible first | exact HB.out | apply below_alloc | apply pw_below_drewN | apply below_drew1 | refine below_set ?_ GE153.out) | exact HB.out)) (fun k_ hs_ => (fun e_ => Kd.R_base HO_5.out k_ e_.symm) hs_)); (case side4 => exact HC152_7.out); rintro e w57 ⟨rfl, hy0, hb, hkp⟩; refine ⟨_, rfl, ?_⟩; have n0_ := Aside0.mk (Kd.R_reok rfl hy0 (fun k_ e_ => HO_5.out.1 k_ e_)); have n1_ := Aside0.mk (blk_kept (by (with_reducible repeat (first | refine blk_drewN ?_ _ | refine blk_drew ?_ | refine blk_alloc ?_ _)); exact BK153.out) hkp (fun hs_ => (fun e_ => (Kd.R_ne HO_5.out BK153.out (by decide)) e_) hs_)); have n2_ := Aside0.mk (hb); clear HO_5; clear BK153; clear HB; have HO_5 := n0_; have BK153 := n1_; have HB := n2_; clear n0_ n1_ n2_; (try clear hb); (try clear hkp); (try clear hy0); have hcz58_0 : w57.cell? ⟨gb153, 0, none⟩ = some (.int .i64 ((rd_T71 l0 x3_1).f0)) := (blk_cell BK153.out 0).trans rfl; have hcz58_1 : w57.cell? ⟨gb153, 1, none⟩ = some (.int .i64 ((rd_T71 l0 x3_1).f1)) := (blk_cell BK153.out 1).trans rfl; have hcz58_2 : w57.cell? ⟨gb153, 2, none⟩ = some (.int .i64 ((rd_T71 l0 x3_1).f2)) := (blk_cell BK153.out 2).trans rfl; have hcz58_3 : w57.cell? ⟨gb153, 3, none⟩ = some (.int .i64 ((rd_T71 l0 x3_1).f3)) := (blk_cell BK153.out 3).trans rfl; have hcz58_4 : w57.cell? ⟨gb153, 4, none⟩ = some (.int .i64 ((rd_T71 l0 x3_1).f4)) := (blk_cell BK153.out 4).trans rfl; have hcz58_5 : w57.cell? ⟨gb153, 5, none⟩ = some (.int .i64 ((rd_T71 l0 x3_1).f5)) := (blk_cell BK153.out 5).trans rfl; have hcz58_6 : w57.cell? ⟨gb153, 6, none⟩ = some (.int .u64 ((rd_T71 l0 x3_1).f6)) := (blk_cell BK153.out 6).trans rfl; have hcz58_7 : w57.cell? ⟨gb153, 7, none⟩ = some (.slice A152_7 ((rd_T71 l0 x3_1).f7).length c152_7) := (blk_cell BK153.out 7).trans rfl; have hcz58_8 : w57.cell? ⟨gb153, 8, none⟩ = some (.slice A152_8 ((rd_T71 l0 x3_1).f8).length c152_8) := (blk_cell BK153.out 8).trans rfl; have hfz58_0 := blk_frozen BK153.out 0; have hfz58_1 := blk_frozen BK153.out 1; have hfz58_2 := blk_frozen BK153.out 2; have hfz58_3 := blk_frozen BK153.out 3; have hfz58_4 := blk_frozen BK153.out 4; have hfz58_5 := blk_frozen BK153.out 5; have hfz58_6 := blk_frozen BK153.out 6; have hfz58_7 := blk_frozen BK153.out 7; have hfz58_8 := blk_frozen BK153.out 8) | ((with_reducible refine gate_callee (f := 39) rfl ?_); refine goesL_ (some 60) rfl rfl Try.func39 (by kernel_rfl) rfl #[.agg #[.int .i64 ((rd_T71 l0 x3_1).f0), .int .i64 ((rd_T71 l0 x3_1).f1), .int .i64 ((rd_T71 l0 x3_1).f2), .int .i64 ((rd_T71 l0 x3_1).f3), .int .i64 ((rd_T71 l0 x3_1).f4), .int .i64 ((rd_T71 l0 x3_1).f5), .int .u64 ((rd_T71 l0 x3_1).f6), .slice A152_7 ((rd_T71 l0 x3_1).f7).length c152_7, .slice A152_8 ((rd_T71 l0 x3_1).f8).length c152_8], .slice Ao19 t170.length co19, .slice A152_7 ((rd_T71 l0 x3_1).f7).length c152_7] rfl (by (try simp only [List.map_toArray, List.map_cons, List.map_nil]); first | done | (rw [show t170.length = t164.length from (Kd.R_reads' HO_5.out).1.symm] <;> rfl) | rfl | (simp only [List.length_drop, List.length_take]; rfl)) ?_; (with_reducible refine (larderlaw1_places.calls kj12 ((rd_T71 l0 x3_1).f0) ((rd_T71 l0 x3_1).f1) ((rd_T71 l0 x3_1).f2) ((rd_T71 l0 x3_1).f3) ((rd_T71 l0 x3_1).f4) ((rd_T71 l0 x3_1).f5) ((rd_T71 l0 x3_1).f6) _ _ ((rd_T71 l0 x3_1).f7) _ _ ((rd_T71 l0 x3_1).f8) _ _ t170 _ _ ((rd_T71 l0 x3_1).f7) true _ ?side1 ?side2 ?side3 ?side4 ?side5 ?side6 ?side7 ?side8 A39.out).mono ?_); (case side1 => repeat (first | exact (Kd.C_below HR152_7.out HB.out) | (with_reducible refine Kd.C_alloc ?_ _) | (with_reducible refine Kd.C_drewN ?_ _) | (with_reducible refine Kd.C_drew ?_))); (case side2 => exact HC152_7.out); (case side3 => repeat (first | exact (Kd.C_below HR152_8.out HB.out) | (with_reducible refine Kd.C_alloc ?_ _) | (with_reducible refine Kd.C_drewN ?_ _) | (with_reducible refine Kd.C_drew ?_))); (case side4 => exact HC152_8.out); (case side5 => repeat (first | exact (Kd.R_reads' HO_5.out).2.2 | (with_reducible refine Kd.C_alloc ?_ _) | (with_reducible refine Kd.C_drewN ?_ _) | (with_reducible refine Kd.C_drew ?_))); (case side6 => rw [show t170.length = t164.length from (Kd.R_reads' HO_5.out).1.symm]; exact (Kd.R_reads' HO_5.out).2.1); (case side7 => repeat (first | exact (Kd.C_below HR152_7.out HB.out) | (with_reducible refine Kd.C_alloc ?_ _) | (with_reducible refine Kd.C_drewN ?_ _) | (with_reducible refine Kd.C_drew ?_))); (case side8 => exact HC152_7.out); rintro e w59 ⟨rfl, hb⟩; refine ⟨_, rfl, ?_⟩; have n0_ := Aside0.mk (Kd.R_below (by (with_reducible repeat (first | apply Kd.R_alloc | apply Kd.R_drewN | apply Kd.R_drew)); exact HO_5.out) hb); have n1_ := Aside0.mk (blk_below (g := gb153) (o := .cells #[.int .i64 ((rd_T71 l0 x3_1).f0), .int .i64 ((rd_T71 l0 x3_1).f1), .int .i64 ((rd_T71 l0 x3_1).f2), .int .i64 ((rd_T71 l0 x3_1).f3), .int .i64 ((rd_T71 l0 x3_1).f4), .int .i64 ((rd_T71 l0 x3_1).f5), .int .u64 ((rd_T71 l0 x3_1).f6), .slice A152_7 ((rd_T71 l0 x3_1).f7).length c152_7, .slice A152_8 ((rd_T71 l0 x3_1).f8).length c152_8] 71 (0, 0)) (by (with_reducible repeat (first | refine blk_drewN ?_ _ | refine blk_drew ?_ | refine blk_alloc ?_ _)); exact BK153.out) hb); have n2_ := Aside0.mk (below_step (by repeat (first | (with_reducible first | exact HB.out | apply below_alloc | apply pw_below_drewN | apply below_drew1 | refine below_set ?_ GE153.out) | exact HB.out)) hb); clear HO_5; clear BK153; clear HB; have HO_5 := n0_; have BK153 := n1_; have HB := n2_; clear n0_ n1_ n2_; (try clear hb); (try clear hb2); (try clear hk); (try clear hi); have hcz60_0 : w59.cell? ⟨gb153, 0, none⟩ = some (.int .i64 ((rd_T71 l0 x3_1).f0)) := (blk_cell BK153.out 0).trans rfl; have hcz60_1 : w59.cell? ⟨gb153, 1, none⟩ = some (.int .i64 ((rd_T71 l0 x3_1).f1)) := (blk_cell BK153.out 1).trans rfl; have hcz60_2 : w59.cell? ⟨gb153, 2, none⟩ = some (.int .i64 ((rd_T71 l0 x3_1).f2)) := (blk_cell BK153.out 2).trans rfl; have hcz60_3 : w59.cell? ⟨gb153, 3, none⟩ = some (.int .i64 ((rd_T71 l0 x3_1).f3)) := (blk_cell BK153.out 3).trans rfl; have hcz60_4 : w59.cell? ⟨gb153, 4, none⟩ = some (.int .i64 ((rd_T71 l0 x3_1).f4)) := (blk_cell BK153.out 4).trans rfl; have hcz60_5 : w59.cell? ⟨gb153, 5, none⟩ = some (.int .i64 ((rd_T71 l0 x3_1).f5)) := (blk_cell BK153.out 5).trans rfl; have hcz60_6 : w59.cell? ⟨gb153, 6, none⟩ = some (.int .u64 ((rd_T71 l0 x3_1).f6)) := (blk_cell BK153.out 6).trans rfl; have hcz60_7 : w59.cell? ⟨gb153, 7, none⟩ = some (.slice A152_7 ((rd_T71 l0 x3_1).f7).length c152_7) := (blk_cell BK153.out 7).trans rfl; have hcz60_8 : w59.cell? ⟨gb153, 8, none⟩ = some (.slice A152_8 ((rd_T71 l0 x3_1).f8).length c152_8) := (blk_cell BK153.out 8).trans rfl; have hfz60_0 := blk_frozen BK153.out 0; have hfz60_1 := blk_frozen BK153.out 1; have hfz60_2 := blk_frozen BK153.out 2; have hfz60_3 := blk_frozen BK153.out 3; have hfz60_4 := blk_frozen BK153.out 4; have hfz60_5 := blk_frozen BK153.out 5; have hfz60_6 := blk_frozen BK153.out 6; have hfz60_7 := blk_frozen BK153.out 7; have hfz60_8 := blk_frozen BK153.out 8))
                            (try simp only [← hl5_12])
                            go_roundg kj12
                            case measure => have := HK1.out; have := HJ1.out; have := HJ12.out; omega
                            case rel => exact ⟨(wrap64 (x3_1 + 1)), (by first | rfl | (simp; done) | (simp [*]; done)), H', ⟨by have := HK1.out; have := HJ1.out; have := HJ12.out; omega⟩, ⟨by repeat (first | (with_reducible first | exact HB.out | apply below_alloc | apply pw_below_drewN | apply below_drew1 | refine below_set ?_ GE153.out) | exact HB.out)⟩⟩
                        · replace c40 := Bool.eq_false_iff.mpr c40
                          subst c40
                          have H1 : (some false) = some r := by rw [if_neg (show ¬ (false = true) by decide)] at H; exact H
                          clear H
                          have H := H1
                          clear H1
                          obtain rfl := Option.some.inj H
                          have hcz61_0 : wc.cell? ⟨gb153, 0, none⟩ = some (.int .i64 ((rd_T71 l0 x3_1).f0)) := (blk_cell BK153.out 0).trans rfl
                          have hcz61_1 : wc.cell? ⟨gb153, 1, none⟩ = some (.int .i64 ((rd_T71 l0 x3_1).f1)) := (blk_cell BK153.out 1).trans rfl
                          have hcz61_2 : wc.cell? ⟨gb153, 2, none⟩ = some (.int .i64 ((rd_T71 l0 x3_1).f2)) := (blk_cell BK153.out 2).trans rfl
                          have hcz61_3 : wc.cell? ⟨gb153, 3, none⟩ = some (.int .i64 ((rd_T71 l0 x3_1).f3)) := (blk_cell BK153.out 3).trans rfl
                          have hcz61_4 : wc.cell? ⟨gb153, 4, none⟩ = some (.int .i64 ((rd_T71 l0 x3_1).f4)) := (blk_cell BK153.out 4).trans rfl
                          have hcz61_5 : wc.cell? ⟨gb153, 5, none⟩ = some (.int .i64 ((rd_T71 l0 x3_1).f5)) := (blk_cell BK153.out 5).trans rfl
                          have hcz61_6 : wc.cell? ⟨gb153, 6, none⟩ = some (.int .u64 ((rd_T71 l0 x3_1).f6)) := (blk_cell BK153.out 6).trans rfl
                          have hcz61_7 : wc.cell? ⟨gb153, 7, none⟩ = some (.slice A152_7 ((rd_T71 l0 x3_1).f7).length c152_7) := (blk_cell BK153.out 7).trans rfl
                          have hcz61_8 : wc.cell? ⟨gb153, 8, none⟩ = some (.slice A152_8 ((rd_T71 l0 x3_1).f8).length c152_8) := (blk_cell BK153.out 8).trans rfl
                          have hfz61_0 := blk_frozen BK153.out 0
                          have hfz61_1 := blk_frozen BK153.out 1
                          have hfz61_2 := blk_frozen BK153.out 2
                          have hfz61_3 := blk_frozen BK153.out 3
                          have hfz61_4 := blk_frozen BK153.out 4
                          have hfz61_5 := blk_frozen BK153.out 5
                          have hfz61_6 := blk_frozen BK153.out 6
                          have hfz61_7 := blk_frozen BK153.out 7
                          have hfz61_8 := blk_frozen BK153.out 8
                          go_wp2_with (first | ((with_reducible refine gate_callee (f := 40) rfl ?_); refine goesL_ (some 55) rfl rfl Try.func40 (by kernel_rfl) rfl #[.slice Ao19 t164.length co19, .slice A152_7 ((rd_T71 l0 x3_1).f7).length c152_7] rfl (by (try simp only [List.map_toArray, List.map_cons, List.map_nil]); first | done | rfl | (simp only [List.length_drop, List.length_take]; rfl)) ?_; (with_reducible refine (larderlaw1_Into.calls kj12 (fun k_ => some k_ = (.slice Ao19 t164.length co19 : Value).ownBlock) (.slice Ao19 t164.length co19) t164 _ _ ((rd_T71 l0 x3_1).f7) t170 w _ ?side1 ?side2 ?side3 ?side4 A38.out).mono ?_); (case side1 => repeat (first | (with_reducible first | exact HB.out | apply below_alloc | apply pw_below_drewN | apply below_drew1 | refine below_set ?_ GE153.out) | exact HB.out)); (case side2 => exact Kd.R_tight rfl HO_5.out); (case side3 => exact Kd.C_kept_came (Kd.heap_int .u8) HR152_7.out (by repeat (first | (with_reducible first | exact HB.out | apply below_alloc | apply pw_below_drewN | apply below_drew1 | refine below_set ?_ GE153.out) | exact HB.out)) (fun k_ hs_ => (fun e_ => Kd.R_base HO_5.out k_ e_.symm) hs_)); (case side4 => exact HC152_7.out); rintro e w62 ⟨rfl, hy0, hb, hkp⟩; refine ⟨_, rfl, ?_⟩; have n0_ := Aside0.mk (Kd.R_reok rfl hy0 (fun k_ e_ => HO_5.out.1 k_ e_)); have n1_ := Aside0.mk (blk_kept (by (with_reducible repeat (first | refine blk_drewN ?_ _ | refine blk_drew ?_ | refine blk_alloc ?_ _)); exact BK153.out) hkp (fun hs_ => (fun e_ => (Kd.R_ne HO_5.out BK153.out (by decide)) e_) hs_)); have n2_ := Aside0.mk (hb); clear HO_5; clear BK153; clear HB; have HO_5 := n0_; have BK153 := n1_; have HB := n2_; clear n0_ n1_ n2_; (try clear hb); (try clear hkp); (try clear hy0); have hcz63_0 : w62.cell? ⟨gb153, 0, none⟩ = some (.int .i64 ((rd_T71 l0 x3_1).f0)) := (blk_cell BK153.out 0).trans rfl; have hcz63_1 : w62.cell? ⟨gb153, 1, none⟩ = some (.int .i64 ((rd_T71 l0 x3_1).f1)) := (blk_cell BK153.out 1).trans rfl; have hcz63_2 : w62.cell? ⟨gb153, 2, none⟩ = some (.int .i64 ((rd_T71 l0 x3_1).f2)) := (blk_cell BK153.out 2).trans rfl; have hcz63_3 : w62.cell? ⟨gb153, 3, none⟩ = some (.int .i64 ((rd_T71 l0 x3_1).f3)) := (blk_cell BK153.out 3).trans rfl; have hcz63_4 : w62.cell? ⟨gb153, 4, none⟩ = some (.int .i64 ((rd_T71 l0 x3_1).f4)) := (blk_cell BK153.out 4).trans rfl; have hcz63_5 : w62.cell? ⟨gb153, 5, none⟩ = some (.int .i64 ((rd_T71 l0 x3_1).f5)) := (blk_cell BK153.out 5).trans rfl; have hcz63_6 : w62.cell? ⟨gb153, 6, none⟩ = some (.int .u64 ((rd_T71 l0 x3_1).f6)) := (blk_cell BK153.out 6).trans rfl; have hcz63_7 : w62.cell? ⟨gb153, 7, none⟩ = some (.slice A152_7 ((rd_T71 l0 x3_1).f7).length c152_7) := (blk_cell BK153.out 7).trans rfl; have hcz63_8 : w62.cell? ⟨gb153, 8, none⟩ = some (.slice A152_8 ((rd_T71 l0 x3_1).f8).length c152_8) := (blk_cell BK153.out 8).trans rfl; have hfz63_0 := blk_frozen BK153.out 0; have hfz63_1 := blk_frozen BK153.out 1; have hfz63_2 := blk_frozen BK153.out 2; have hfz63_3 := blk_frozen BK153.out 3; have hfz63_4 := blk_frozen BK153.out 4; have hfz63_5 := blk_frozen BK153.out 5; have hfz63_6 := blk_frozen BK153.out 6; have hfz63_7 := blk_frozen BK153.out 7; have hfz63_8 := blk_frozen BK153.out 8) | ((with_reducible refine gate_callee (f := 39) rfl ?_); refine goesL_ (some 60) rfl rfl Try.func39 (by kernel_rfl) rfl #[.agg #[.int .i64 ((rd_T71 l0 x3_1).f0), .int .i64 ((rd_T71 l0 x3_1).f1), .int .i64 ((rd_T71 l0 x3_1).f2), .int .i64 ((rd_T71 l0 x3_1).f3), .int .i64 ((rd_T71 l0 x3_1).f4), .int .i64 ((rd_T71 l0 x3_1).f5), .int .u64 ((rd_T71 l0 x3_1).f6), .slice A152_7 ((rd_T71 l0 x3_1).f7).length c152_7, .slice A152_8 ((rd_T71 l0 x3_1).f8).length c152_8], .slice Ao19 t170.length co19, .slice A152_7 ((rd_T71 l0 x3_1).f7).length c152_7] rfl (by (try simp only [List.map_toArray, List.map_cons, List.map_nil]); first | done | (rw [show t170.length = t164.length from (Kd.R_reads' HO_5.out).1.symm] <;> rfl) | rfl | (simp only [List.length_drop, List.length_take]; rfl)) ?_; (with_reducible refine (larderlaw1_places.calls kj12 ((rd_T71 l0 x3_1).f0) ((rd_T71 l0 x3_1).f1) ((rd_T71 l0 x3_1).f2) ((rd_T71 l0 x3_1).f3) ((rd_T71 l0 x3_1).f4) ((rd_T71 l0 x3_1).f5) ((rd_T71 l0 x3_1).f6) _ _ ((rd_T71 l0 x3_1).f7) _ _ ((rd_T71 l0 x3_1).f8) _ _ t170 _ _ ((rd_T71 l0 x3_1).f7) false _ ?side1 ?side2 ?side3 ?side4 ?side5 ?side6 ?side7 ?side8 A39.out).mono ?_); (case side1 => repeat (first | exact (Kd.C_below HR152_7.out HB.out) | (with_reducible refine Kd.C_alloc ?_ _) | (with_reducible refine Kd.C_drewN ?_ _) | (with_reducible refine Kd.C_drew ?_))); (case side2 => exact HC152_7.out); (case side3 => repeat (first | exact (Kd.C_below HR152_8.out HB.out) | (with_reducible refine Kd.C_alloc ?_ _) | (with_reducible refine Kd.C_drewN ?_ _) | (with_reducible refine Kd.C_drew ?_))); (case side4 => exact HC152_8.out); (case side5 => repeat (first | exact (Kd.R_reads' HO_5.out).2.2 | (with_reducible refine Kd.C_alloc ?_ _) | (with_reducible refine Kd.C_drewN ?_ _) | (with_reducible refine Kd.C_drew ?_))); (case side6 => rw [show t170.length = t164.length from (Kd.R_reads' HO_5.out).1.symm]; exact (Kd.R_reads' HO_5.out).2.1); (case side7 => repeat (first | exact (Kd.C_below HR152_7.out HB.out) | (with_reducible refine Kd.C_alloc ?_ _) | (with_reducible refine Kd.C_drewN ?_ _) | (with_reducible refine Kd.C_drew ?_))); (case side8 => exact HC152_7.out); rintro e w64 ⟨rfl, hb⟩; refine ⟨_, rfl, ?_⟩; have n0_ := Aside0.mk (Kd.R_below (by (with_reducible repeat (first | apply Kd.R_alloc | apply Kd.R_drewN | apply Kd.R_drew)); exact HO_5.out) hb); have n1_ := Aside0.mk (blk_below (g := gb153) (o := .cells #[.int .i64 ((rd_T71 l0 x3_1).f0), .int .i64 ((rd_T71 l0 x3_1).f1), .int .i64 ((rd_T71 l0 x3_1).f2), .int .i64 ((rd_T71 l0 x3_1).f3), .int .i64 ((rd_T71 l0 x3_1).f4), .int .i64 ((rd_T71 l0 x3_1).f5), .int .u64 ((rd_T71 l0 x3_1).f6), .slice A152_7 ((rd_T71 l0 x3_1).f7).length c152_7, .slice A152_8 ((rd_T71 l0 x3_1).f8).length c152_8] 71 (0, 0)) (by (with_reducible repeat (first | refine blk_drewN ?_ _ | refine blk_drew ?_ | refine blk_alloc ?_ _)); exact BK153.out) hb); have n2_ := Aside0.mk (below_step (by repeat (first | (with_reducible first | exact HB.out | apply below_alloc | apply pw_below_drewN | apply below_drew1 | refine below_set ?_ GE153.out) | exact HB.out)) hb); clear HO_5; clear BK153; clear HB; have HO_5 := n0_; have BK153 := n1_; have HB := n2_; clear n0_ n1_ n2_; (try clear hb); (try clear hb2); (try clear hk); (try clear hi)))
                          go_ret
                          exact ⟨by first | rfl | (simp [errW_none, errW_some] <;> rfl) | (simp [*, errW_none, errW_some] <;> rfl), by repeat (first | (with_reducible first | exact HB.out | apply below_alloc | apply pw_below_drewN | apply below_drew1 | refine below_set ?_ GE153.out) | exact HB.out)⟩
                · replace c11 := Bool.eq_false_iff.mpr c11
                  subst c11
                  have H1 : (some false) = some r := by rw [if_neg (show ¬ (false = true) by decide)] at H; exact H
                  clear H
                  have H := H1
                  clear H1
                  obtain rfl := Option.some.inj H
                  have p152 : 0 ≤ (x3_1 : Int) := of_decide_eq_true (by first | (with_reducible assumption) | assumption)
                  have q152 : x3_1 < (l0.length : Int) := of_decide_eq_true (by first | (with_reducible assumption) | assumption)
                  obtain ⟨ad152, A152_7, c152_7, A152_8, c152_8, e152, hx152_0, hx152_1, hx152_2, hx152_3, hx152_4, hx152_5, hx152_6, hx152_7, hx152_8, hl152_7, hi152_7, hl152_8, hi152_8⟩ := at_T71 HR0.out x3_1 p152 q152
                  cases e152
                  replace hx152_0 := (HB.out.cell (World.block_lt_of_cell? w _ hx152_0)).trans hx152_0
                  replace hx152_1 := (HB.out.cell (World.block_lt_of_cell? w _ hx152_1)).trans hx152_1
                  replace hx152_2 := (HB.out.cell (World.block_lt_of_cell? w _ hx152_2)).trans hx152_2
                  replace hx152_3 := (HB.out.cell (World.block_lt_of_cell? w _ hx152_3)).trans hx152_3
                  replace hx152_4 := (HB.out.cell (World.block_lt_of_cell? w _ hx152_4)).trans hx152_4
                  replace hx152_5 := (HB.out.cell (World.block_lt_of_cell? w _ hx152_5)).trans hx152_5
                  replace hx152_6 := (HB.out.cell (World.block_lt_of_cell? w _ hx152_6)).trans hx152_6
                  replace hx152_7 := (HB.out.cell (World.block_lt_of_cell? w _ hx152_7)).trans hx152_7
                  replace hx152_8 := (HB.out.cell (World.block_lt_of_cell? w _ hx152_8)).trans hx152_8
                  have HR152_7 := Aside0.mk hi152_7
                  have HC152_7 := Aside0.mk hl152_7
                  clear hi152_7 hl152_7
                  have HR152_8 := Aside0.mk hi152_8
                  have HC152_8 := Aside0.mk hl152_8
                  clear hi152_8 hl152_8
                  replace p152 := eq_true p152
                  replace q152 := eq_true q152
                  go_wp2_with (first | ((with_reducible refine gate_dst (N := 4) rfl ?_); refine box_event ?hg (N := 4) ?hd (cs := #[.int .i64 0, .int .i64 0, .int .i64 0, .int .i64 0, .int .i64 0, .int .i64 0, .int .u64 0, .slice none 0 0, .slice none 0 0]) (t := 71) ?hr ?_; (case hd => rfl); (case hg => rfl); (case hr => first | (go_simp; done) | (go_simp; rfl)); intro gb153 hg w65 hbox hb; have n0_ := Aside0.mk (below_step (by repeat (first | (with_reducible first | exact HB.out | apply below_alloc | apply pw_below_drewN | apply below_drew1) | exact HB.out)) hb); have n1_ := Aside0.mk (hbox); have n2_ := Aside0.mk ((by rw [hg]; exact (below_size (by repeat (first | (with_reducible first | exact HB.out | apply below_alloc | apply pw_below_drewN | apply below_drew1) | exact HB.out))) : w.heap.size ≤ gb153)); have n3_ := Aside0.mk ((by rw [hg]; exact (below_size (by repeat (first | (with_reducible first | exact HB.out | apply below_alloc | apply pw_below_drewN | apply below_drew1) | exact HB.out))) : w.heap.size ≤ gb153)); clear HB; have HB := n0_; have BK153 := n1_; have GW153 := n2_; have GE153 := n3_; clear n0_ n1_ n2_ n3_; clear hb hbox hg; have hcz66_0 : w65.cell? ⟨gb153, 0, none⟩ = some (.int .i64 0) := (blk_cell BK153.out 0).trans rfl; have hcz66_1 : w65.cell? ⟨gb153, 1, none⟩ = some (.int .i64 0) := (blk_cell BK153.out 1).trans rfl; have hcz66_2 : w65.cell? ⟨gb153, 2, none⟩ = some (.int .i64 0) := (blk_cell BK153.out 2).trans rfl; have hcz66_3 : w65.cell? ⟨gb153, 3, none⟩ = some (.int .i64 0) := (blk_cell BK153.out 3).trans rfl; have hcz66_4 : w65.cell? ⟨gb153, 4, none⟩ = some (.int .i64 0) := (blk_cell BK153.out 4).trans rfl; have hcz66_5 : w65.cell? ⟨gb153, 5, none⟩ = some (.int .i64 0) := (blk_cell BK153.out 5).trans rfl; have hcz66_6 : w65.cell? ⟨gb153, 6, none⟩ = some (.int .u64 0) := (blk_cell BK153.out 6).trans rfl; have hcz66_7 : w65.cell? ⟨gb153, 7, none⟩ = some (.slice none 0 0) := (blk_cell BK153.out 7).trans rfl; have hcz66_8 : w65.cell? ⟨gb153, 8, none⟩ = some (.slice none 0 0) := (blk_cell BK153.out 8).trans rfl; have hfz66_0 := blk_frozen BK153.out 0; have hfz66_1 := blk_frozen BK153.out 1; have hfz66_2 := blk_frozen BK153.out 2; have hfz66_3 := blk_frozen BK153.out 3; have hfz66_4 := blk_frozen BK153.out 4; have hfz66_5 := blk_frozen BK153.out 5; have hfz66_6 := blk_frozen BK153.out 6; have hfz66_7 := blk_frozen BK153.out 7; have hfz66_8 := blk_frozen BK153.out 8) | ((with_reducible refine gate_callee (f := 37) rfl ?_); refine goesL_ (some 24) rfl rfl Try.func37 (by kernel_rfl) rfl #[.slice A152_7 ((rd_T71 l0 x3_1).f7).length c152_7] rfl (by (try simp only [List.map_toArray, List.map_cons, List.map_nil]); first | done | rfl | (simp only [List.length_drop, List.length_take]; rfl)) ?_; (with_reducible refine (larderlaw1_Lend.calls _ _ ((rd_T71 l0 x3_1).f7) t154 _ ?side1 ?side2 A7.out).mono ?_); (case side1 => exact Kd.C_below HR152_7.out (by repeat (first | (with_reducible first | exact HB.out | apply below_alloc | apply pw_below_drewN | apply below_drew1 | refine below_set ?_ GE153.out) | exact HB.out))); (case side2 => exact HC152_7.out); rintro e w67 ⟨v155, rfl, ho0, hb⟩; refine ⟨_, rfl, ?_⟩; have n0_ := Aside0.mk (Kd.R_lower ho0 (below_size (by repeat (first | (with_reducible first | exact HB.out | apply below_alloc | apply pw_below_drewN | apply below_drew1 | refine below_set ?_ GE153.out) | exact HB.out)))); have n1_ := Aside0.mk (blk_below (g := gb153) (o := .cells #[.int .i64 ((rd_T71 l0 x3_1).f0), .int .i64 ((rd_T71 l0 x3_1).f1), .int .i64 ((rd_T71 l0 x3_1).f2), .int .i64 ((rd_T71 l0 x3_1).f3), .int .i64 ((rd_T71 l0 x3_1).f4), .int .i64 ((rd_T71 l0 x3_1).f5), .int .u64 ((rd_T71 l0 x3_1).f6), .slice A152_7 ((rd_T71 l0 x3_1).f7).length c152_7, .slice A152_8 ((rd_T71 l0 x3_1).f8).length c152_8] 71 (0, 0)) (by (with_reducible repeat (first | refine blk_drewN ?_ _ | refine blk_drew ?_ | refine blk_alloc ?_ _)); refine blk_put (cs := #[.int .i64 ((rd_T71 l0 x3_1).f0), .int .i64 ((rd_T71 l0 x3_1).f1), .int .i64 ((rd_T71 l0 x3_1).f2), .int .i64 ((rd_T71 l0 x3_1).f3), .int .i64 ((rd_T71 l0 x3_1).f4), .int .i64 ((rd_T71 l0 x3_1).f5), .int .u64 ((rd_T71 l0 x3_1).f6), .slice A152_7 ((rd_T71 l0 x3_1).f7).length c152_7, .slice none 0 0]) ?_ 8 _ rfl; (with_reducible repeat (first | refine blk_drewN ?_ _ | refine blk_drew ?_ | refine blk_alloc ?_ _)); refine blk_put (cs := #[.int .i64 ((rd_T71 l0 x3_1).f0), .int .i64 ((rd_T71 l0 x3_1).f1), .int .i64 ((rd_T71 l0 x3_1).f2), .int .i64 ((rd_T71 l0 x3_1).f3), .int .i64 ((rd_T71 l0 x3_1).f4), .int .i64 ((rd_T71 l0 x3_1).f5), .int .u64 ((rd_T71 l0 x3_1).f6), .slice none 0 0, .slice none 0 0]) ?_ 7 _ rfl; (with_reducible repeat (first | refine blk_drewN ?_ _ | refine blk_drew ?_ | refine blk_alloc ?_ _)); refine blk_put (cs := #[.int .i64 ((rd_T71 l0 x3_1).f0), .int .i64 ((rd_T71 l0 x3_1).f1), .int .i64 ((rd_T71 l0 x3_1).f2), .int .i64 ((rd_T71 l0 x3_1).f3), .int .i64 ((rd_T71 l0 x3_1).f4), .int .i64 ((rd_T71 l0 x3_1).f5), .int .u64 0, .slice none 0 0, .slice none 0 0]) ?_ 6 _ rfl; (with_reducible repeat (first | refine blk_drewN ?_ _ | refine blk_drew ?_ | refine blk_alloc ?_ _)); refine blk_put (cs := #[.int .i64 ((rd_T71 l0 x3_1).f0), .int .i64 ((rd_T71 l0 x3_1).f1), .int .i64 ((rd_T71 l0 x3_1).f2), .int .i64 ((rd_T71 l0 x3_1).f3), .int .i64 ((rd_T71 l0 x3_1).f4), .int .i64 0, .int .u64 0, .slice none 0 0, .slice none 0 0]) ?_ 5 _ rfl; (with_reducible repeat (first | refine blk_drewN ?_ _ | refine blk_drew ?_ | refine blk_alloc ?_ _)); refine blk_put (cs := #[.int .i64 ((rd_T71 l0 x3_1).f0), .int .i64 ((rd_T71 l0 x3_1).f1), .int .i64 ((rd_T71 l0 x3_1).f2), .int .i64 ((rd_T71 l0 x3_1).f3), .int .i64 0, .int .i64 0, .int .u64 0, .slice none 0 0, .slice none 0 0]) ?_ 4 _ rfl; (with_reducible repeat (first | refine blk_drewN ?_ _ | refine blk_drew ?_ | refine blk_alloc ?_ _)); refine blk_put (cs := #[.int .i64 ((rd_T71 l0 x3_1).f0), .int .i64 ((rd_T71 l0 x3_1).f1), .int .i64 ((rd_T71 l0 x3_1).f2), .int .i64 0, .int .i64 0, .int .i64 0, .int .u64 0, .slice none 0 0, .slice none 0 0]) ?_ 3 _ rfl; (with_reducible repeat (first | refine blk_drewN ?_ _ | refine blk_drew ?_ | refine blk_alloc ?_ _)); refine blk_put (cs := #[.int .i64 ((rd_T71 l0 x3_1).f0), .int .i64 ((rd_T71 l0 x3_1).f1), .int .i64 0, .int .i64 0, .int .i64 0, .int .i64 0, .int .u64 0, .slice none 0 0, .slice none 0 0]) ?_ 2 _ rfl; (with_reducible repeat (first | refine blk_drewN ?_ _ | refine blk_drew ?_ | refine blk_alloc ?_ _)); refine blk_put (cs := #[.int .i64 ((rd_T71 l0 x3_1).f0), .int .i64 0, .int .i64 0, .int .i64 0, .int .i64 0, .int .i64 0, .int .u64 0, .slice none 0 0, .slice none 0 0]) ?_ 1 _ rfl; (with_reducible repeat (first | refine blk_drewN ?_ _ | refine blk_drew ?_ | refine blk_alloc ?_ _)); refine blk_put (cs := #[.int .i64 0, .int .i64 0, .int .i64 0, .int .i64 0, .int .i64 0, .int .i64 0, .int .u64 0, .slice none 0 0, .slice none 0 0]) ?_ 0 _ rfl; (with_reducible repeat (first | refine blk_drewN ?_ _ | refine blk_drew ?_ | refine blk_alloc ?_ _)); exact BK153.out) hb); have n2_ := Aside0.mk (below_step (by repeat (first | (with_reducible first | exact HB.out | apply below_alloc | apply pw_below_drewN | apply below_drew1 | refine below_set ?_ GE153.out) | exact HB.out)) hb); clear BK153; clear HB; have HO156 := n0_; have BK153 := n1_; have HB := n2_; clear n0_ n1_ n2_; (try clear hb); (try clear hb2); (try clear hk); (try clear hi); (try clear ho0); have hcz68_0 : w67.cell? ⟨gb153, 0, none⟩ = some (.int .i64 ((rd_T71 l0 x3_1).f0)) := (blk_cell BK153.out 0).trans rfl; have hcz68_1 : w67.cell? ⟨gb153, 1, none⟩ = some (.int .i64 ((rd_T71 l0 x3_1).f1)) := (blk_cell BK153.out 1).trans rfl; have hcz68_2 : w67.cell? ⟨gb153, 2, none⟩ = some (.int .i64 ((rd_T71 l0 x3_1).f2)) := (blk_cell BK153.out 2).trans rfl; have hcz68_3 : w67.cell? ⟨gb153, 3, none⟩ = some (.int .i64 ((rd_T71 l0 x3_1).f3)) := (blk_cell BK153.out 3).trans rfl; have hcz68_4 : w67.cell? ⟨gb153, 4, none⟩ = some (.int .i64 ((rd_T71 l0 x3_1).f4)) := (blk_cell BK153.out 4).trans rfl; have hcz68_5 : w67.cell? ⟨gb153, 5, none⟩ = some (.int .i64 ((rd_T71 l0 x3_1).f5)) := (blk_cell BK153.out 5).trans rfl; have hcz68_6 : w67.cell? ⟨gb153, 6, none⟩ = some (.int .u64 ((rd_T71 l0 x3_1).f6)) := (blk_cell BK153.out 6).trans rfl; have hcz68_7 : w67.cell? ⟨gb153, 7, none⟩ = some (.slice A152_7 ((rd_T71 l0 x3_1).f7).length c152_7) := (blk_cell BK153.out 7).trans rfl; have hcz68_8 : w67.cell? ⟨gb153, 8, none⟩ = some (.slice A152_8 ((rd_T71 l0 x3_1).f8).length c152_8) := (blk_cell BK153.out 8).trans rfl; have hfz68_0 := blk_frozen BK153.out 0; have hfz68_1 := blk_frozen BK153.out 1; have hfz68_2 := blk_frozen BK153.out 2; have hfz68_3 := blk_frozen BK153.out 3; have hfz68_4 := blk_frozen BK153.out 4; have hfz68_5 := blk_frozen BK153.out 5; have hfz68_6 := blk_frozen BK153.out 6; have hfz68_7 := blk_frozen BK153.out 7; have hfz68_8 := blk_frozen BK153.out 8) | ((with_reducible refine gate_callee (f := 38) rfl ?_); refine goesL_ (some 27) rfl rfl Try.func38 (by kernel_rfl) rfl #[.slice A152_7 ((rd_T71 l0 x3_1).f7).length c152_7] rfl (by (try simp only [List.map_toArray, List.map_cons, List.map_nil]); first | done | rfl | (simp only [List.length_drop, List.length_take]; rfl)) ?_; (with_reducible refine (larderlaw1_Other.calls kj1 _ _ ((rd_T71 l0 x3_1).f7) t157 _ ?side1 ?side2 A8.out).mono ?_); (case side1 => repeat (first | exact (Kd.C_below HR152_7.out HB.out) | (with_reducible refine Kd.C_alloc ?_ _) | (with_reducible refine Kd.C_drewN ?_ _) | (with_reducible refine Kd.C_drew ?_))); (case side2 => exact HC152_7.out); rintro e w69 ⟨v158, rfl, ho0, hb⟩; refine ⟨_, rfl, ?_⟩; have n0_ := Aside0.mk (Kd.R_elder' (by (with_reducible repeat (first | apply Kd.R_alloc | apply Kd.R_drewN | apply Kd.R_drew)); exact HO156.out) (Kd.R_base ho0) hb); have n1_ := Aside0.mk (Kd.R_lower (Kd.R_new' ho0 (Kd.R_lt (by (with_reducible repeat (first | apply Kd.R_alloc | apply Kd.R_drewN | apply Kd.R_drew)); exact HO156.out))) (below_size (by repeat (first | (with_reducible first | exact HB.out | apply below_alloc | apply pw_below_drewN | apply below_drew1 | refine below_set ?_ GE153.out) | exact HB.out)))); have n2_ := Aside0.mk (blk_below (g := gb153) (o := .cells #[.int .i64 ((rd_T71 l0 x3_1).f0), .int .i64 ((rd_T71 l0 x3_1).f1), .int .i64 ((rd_T71 l0 x3_1).f2), .int .i64 ((rd_T71 l0 x3_1).f3), .int .i64 ((rd_T71 l0 x3_1).f4), .int .i64 ((rd_T71 l0 x3_1).f5), .int .u64 ((rd_T71 l0 x3_1).f6), .slice A152_7 ((rd_T71 l0 x3_1).f7).length c152_7, .slice A152_8 ((rd_T71 l0 x3_1).f8).length c152_8] 71 (0, 0)) (by (with_reducible repeat (first | refine blk_drewN ?_ _ | refine blk_drew ?_ | refine blk_alloc ?_ _)); exact BK153.out) hb); have n3_ := Aside0.mk (below_step (by repeat (first | (with_reducible first | exact HB.out | apply below_alloc | apply pw_below_drewN | apply below_drew1 | refine below_set ?_ GE153.out) | exact HB.out)) hb); clear HO156; clear BK153; clear HB; have HO156 := n0_; have HO159 := n1_; have BK153 := n2_; have HB := n3_; clear n0_ n1_ n2_ n3_; (try clear hb); (try clear hb2); (try clear hk); (try clear hi); (try clear ho0); obtain ⟨Ao70, co70, eo70⟩ := Kd.R_slice HO156.out; subst eo70) | ((with_reducible refine gate_callee (f := 23) rfl ?_); refine goesL_ (some 29) rfl rfl Try.func23 (by kernel_rfl) rfl #[.slice Ao70 t154.length co70] rfl (by (try simp only [List.map_toArray, List.map_cons, List.map_nil]); first | done | rfl | (simp only [List.length_drop, List.length_take]; rfl)) ?_; (with_reducible refine (word_Pack.calls kj1 _ _ t154 t160 _ ?side1 ?side2 A9.out).mono ?_); (case side1 => repeat (first | exact (Kd.R_reads' HO156.out).2.2 | (with_reducible refine Kd.C_alloc ?_ _) | (with_reducible refine Kd.C_drewN ?_ _) | (with_reducible refine Kd.C_drew ?_))); (case side2 => exact (Kd.R_reads' HO156.out).2.1); rintro e w71 ⟨v161, rfl, ho0, hb⟩; refine ⟨_, rfl, ?_⟩; have n0_ := Aside0.mk (Kd.R_below (by (with_reducible repeat (first | apply Kd.R_alloc | apply Kd.R_drewN | apply Kd.R_drew)); exact HO156.out) hb); have n1_ := Aside0.mk (Kd.R_below (by (with_reducible repeat (first | apply Kd.R_alloc | apply Kd.R_drewN | apply Kd.R_drew)); exact HO159.out) hb); have n2_ := Aside0.mk (Kd.R_lower ho0 (below_size (by repeat (first | (with_reducible first | exact HB.out | apply below_alloc | apply pw_below_drewN | apply below_drew1 | refine below_set ?_ GE153.out) | exact HB.out)))); have n3_ := Aside0.mk (blk_below (g := gb153) (o := .cells #[.int .i64 ((rd_T71 l0 x3_1).f0), .int .i64 ((rd_T71 l0 x3_1).f1), .int .i64 ((rd_T71 l0 x3_1).f2), .int .i64 ((rd_T71 l0 x3_1).f3), .int .i64 ((rd_T71 l0 x3_1).f4), .int .i64 ((rd_T71 l0 x3_1).f5), .int .u64 ((rd_T71 l0 x3_1).f6), .slice A152_7 ((rd_T71 l0 x3_1).f7).length c152_7, .slice A152_8 ((rd_T71 l0 x3_1).f8).length c152_8] 71 (0, 0)) (by (with_reducible repeat (first | refine blk_drewN ?_ _ | refine blk_drew ?_ | refine blk_alloc ?_ _)); exact BK153.out) hb); have n4_ := Aside0.mk (below_step (by repeat (first | (with_reducible first | exact HB.out | apply below_alloc | apply pw_below_drewN | apply below_drew1 | refine below_set ?_ GE153.out) | exact HB.out)) hb); clear HO156; clear HO159; clear BK153; clear HB; have HO156 := n0_; have HO159 := n1_; have HO162 := n2_; have BK153 := n3_; have HB := n4_; clear n0_ n1_ n2_ n3_ n4_; (try clear hb); (try clear hb2); (try clear hk); (try clear hi); (try clear ho0); have hcz72_0 : w71.cell? ⟨gb153, 0, none⟩ = some (.int .i64 ((rd_T71 l0 x3_1).f0)) := (blk_cell BK153.out 0).trans rfl; have hcz72_1 : w71.cell? ⟨gb153, 1, none⟩ = some (.int .i64 ((rd_T71 l0 x3_1).f1)) := (blk_cell BK153.out 1).trans rfl; have hcz72_2 : w71.cell? ⟨gb153, 2, none⟩ = some (.int .i64 ((rd_T71 l0 x3_1).f2)) := (blk_cell BK153.out 2).trans rfl; have hcz72_3 : w71.cell? ⟨gb153, 3, none⟩ = some (.int .i64 ((rd_T71 l0 x3_1).f3)) := (blk_cell BK153.out 3).trans rfl; have hcz72_4 : w71.cell? ⟨gb153, 4, none⟩ = some (.int .i64 ((rd_T71 l0 x3_1).f4)) := (blk_cell BK153.out 4).trans rfl; have hcz72_5 : w71.cell? ⟨gb153, 5, none⟩ = some (.int .i64 ((rd_T71 l0 x3_1).f5)) := (blk_cell BK153.out 5).trans rfl; have hcz72_6 : w71.cell? ⟨gb153, 6, none⟩ = some (.int .u64 ((rd_T71 l0 x3_1).f6)) := (blk_cell BK153.out 6).trans rfl; have hcz72_7 : w71.cell? ⟨gb153, 7, none⟩ = some (.slice A152_7 ((rd_T71 l0 x3_1).f7).length c152_7) := (blk_cell BK153.out 7).trans rfl; have hcz72_8 : w71.cell? ⟨gb153, 8, none⟩ = some (.slice A152_8 ((rd_T71 l0 x3_1).f8).length c152_8) := (blk_cell BK153.out 8).trans rfl; have hfz72_0 := blk_frozen BK153.out 0; have hfz72_1 := blk_frozen BK153.out 1; have hfz72_2 := blk_frozen BK153.out 2; have hfz72_3 := blk_frozen BK153.out 3; have hfz72_4 := blk_frozen BK153.out 4; have hfz72_5 := blk_frozen BK153.out 5; have hfz72_6 := blk_frozen BK153.out 6; have hfz72_7 := blk_frozen BK153.out 7; have hfz72_8 := blk_frozen BK153.out 8) | ((with_reducible refine gate_callee (f := 39) rfl ?_); refine goesL_ (some 34) rfl rfl Try.func39 (by kernel_rfl) rfl #[.agg #[.int .i64 ((rd_T71 l0 x3_1).f0), .int .i64 ((rd_T71 l0 x3_1).f1), .int .i64 ((rd_T71 l0 x3_1).f2), .int .i64 ((rd_T71 l0 x3_1).f3), .int .i64 ((rd_T71 l0 x3_1).f4), .int .i64 ((rd_T71 l0 x3_1).f5), .int .u64 ((rd_T71 l0 x3_1).f6), .slice A152_7 ((rd_T71 l0 x3_1).f7).length c152_7, .slice A152_8 ((rd_T71 l0 x3_1).f8).length c152_8], .slice Ao70 t154.length co70, .slice A152_7 ((rd_T71 l0 x3_1).f7).length c152_7] rfl (by (try simp only [List.map_toArray, List.map_cons, List.map_nil]); first | done | rfl | (simp only [List.length_drop, List.length_take]; rfl)) ?_; (with_reducible refine (larderlaw1_places.calls kj1 ((rd_T71 l0 x3_1).f0) ((rd_T71 l0 x3_1).f1) ((rd_T71 l0 x3_1).f2) ((rd_T71 l0 x3_1).f3) ((rd_T71 l0 x3_1).f4) ((rd_T71 l0 x3_1).f5) ((rd_T71 l0 x3_1).f6) _ _ ((rd_T71 l0 x3_1).f7) _ _ ((rd_T71 l0 x3_1).f8) _ _ t154 _ _ ((rd_T71 l0 x3_1).f7) false _ ?side1 ?side2 ?side3 ?side4 ?side5 ?side6 ?side7 ?side8 A10.out).mono ?_); (case side1 => repeat (first | exact (Kd.C_below HR152_7.out HB.out) | (with_reducible refine Kd.C_alloc ?_ _) | (with_reducible refine Kd.C_drewN ?_ _) | (with_reducible refine Kd.C_drew ?_))); (case side2 => exact HC152_7.out); (case side3 => repeat (first | exact (Kd.C_below HR152_8.out HB.out) | (with_reducible refine Kd.C_alloc ?_ _) | (with_reducible refine Kd.C_drewN ?_ _) | (with_reducible refine Kd.C_drew ?_))); (case side4 => exact HC152_8.out); (case side5 => repeat (first | exact (Kd.R_reads' HO156.out).2.2 | (with_reducible refine Kd.C_alloc ?_ _) | (with_reducible refine Kd.C_drewN ?_ _) | (with_reducible refine Kd.C_drew ?_))); (case side6 => exact (Kd.R_reads' HO156.out).2.1); (case side7 => repeat (first | exact (Kd.C_below HR152_7.out HB.out) | (with_reducible refine Kd.C_alloc ?_ _) | (with_reducible refine Kd.C_drewN ?_ _) | (with_reducible refine Kd.C_drew ?_))); (case side8 => exact HC152_7.out); rintro e w73 ⟨rfl, hb⟩; refine ⟨_, rfl, ?_⟩; have n0_ := Aside0.mk (Kd.R_below (by (with_reducible repeat (first | apply Kd.R_alloc | apply Kd.R_drewN | apply Kd.R_drew)); exact HO156.out) hb); have n1_ := Aside0.mk (Kd.R_below (by (with_reducible repeat (first | apply Kd.R_alloc | apply Kd.R_drewN | apply Kd.R_drew)); exact HO159.out) hb); have n2_ := Aside0.mk (Kd.R_below (by (with_reducible repeat (first | apply Kd.R_alloc | apply Kd.R_drewN | apply Kd.R_drew)); exact HO162.out) hb); have n3_ := Aside0.mk (blk_below (g := gb153) (o := .cells #[.int .i64 ((rd_T71 l0 x3_1).f0), .int .i64 ((rd_T71 l0 x3_1).f1), .int .i64 ((rd_T71 l0 x3_1).f2), .int .i64 ((rd_T71 l0 x3_1).f3), .int .i64 ((rd_T71 l0 x3_1).f4), .int .i64 ((rd_T71 l0 x3_1).f5), .int .u64 ((rd_T71 l0 x3_1).f6), .slice A152_7 ((rd_T71 l0 x3_1).f7).length c152_7, .slice A152_8 ((rd_T71 l0 x3_1).f8).length c152_8] 71 (0, 0)) (by (with_reducible repeat (first | refine blk_drewN ?_ _ | refine blk_drew ?_ | refine blk_alloc ?_ _)); exact BK153.out) hb); have n4_ := Aside0.mk (below_step (by repeat (first | (with_reducible first | exact HB.out | apply below_alloc | apply pw_below_drewN | apply below_drew1 | refine below_set ?_ GE153.out) | exact HB.out)) hb); clear HO156; clear HO159; clear HO162; clear BK153; clear HB; have HO156 := n0_; have HO159 := n1_; have HO162 := n2_; have BK153 := n3_; have HB := n4_; clear n0_ n1_ n2_ n3_ n4_; (try clear hb); (try clear hb2); (try clear hk); (try clear hi)))
                  go_ret
                  exact ⟨by first | rfl | (simp [errW_none, errW_some] <;> rfl) | (simp [*, errW_none, errW_some] <;> rfl), by repeat (first | (with_reducible first | exact HB.out | apply below_alloc | apply pw_below_drewN | apply below_drew1 | refine below_set ?_ GE153.out) | exact HB.out)⟩
              · rw [if_neg c6] at H
                exact absurd H (by simp)
            · rw [if_neg c5] at H
              exact absurd H (by simp)
          · replace c4 := Bool.eq_false_iff.mpr c4
            subst c4
            have H1 : (some true) = some r := by rw [if_neg (show ¬ (false = true) by decide)] at H; exact H
            clear H
            have H := H1
            clear H1
            obtain rfl := Option.some.inj H
            go_wp2
            go_ret
            exact ⟨by first | rfl | (simp [errW_none, errW_some] <;> rfl) | (simp [*, errW_none, errW_some] <;> rfl), by repeat (first | (with_reducible first | exact HB.out | apply below_alloc | apply pw_below_drewN | apply below_drew1) | exact HB.out)⟩

end Go.Proofs.Ytgngpbcbnfmoiaa.PP
