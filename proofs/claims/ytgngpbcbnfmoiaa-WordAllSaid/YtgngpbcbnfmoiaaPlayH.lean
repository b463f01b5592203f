/- larderlaw1.plays of a Head or a Split: the machine's call answers true. -/
import Derived.Test.YtgngpbcbnfmoiaaPDm
import Derived.Test.YtgngpbcbnfmoiaaWordS
import Derived.Test.YtgngpbcbnfmoiaaHeadS
import Derived.Lib.Hide
namespace Go.Proofs.Ytgngpbcbnfmoiaa.PH
open Go Go.RowKit Go.Proofs.YtgngpbcbnfmoiaaW.PrintWords Go.Proofs.YtgngpbcbnfmoiaaW.PrintLast Go.Proofs.YtgngpbcbnfmoiaaW.PrintMore Go.Proofs.Ytgngpbcbnfmoiaa.PA Go.Proofs.Ytgngpbcbnfmoiaa.PD
set_option linter.unusedVariables false

/-- What is played here: true at a Head or a Split. -/
def larderlaw1_plays.f (a0 a1 a2 a3 a4 a5 a6 : Int) (l7 l8 : List Int) : Option Bool :=
  if (a0 = 1 ∨ a0 = 2) ∧ (0 ≤ a6 ∧ a6 < 18446744073709551616) then some true else none

theorem headers_true (a0 a1 a2 a3 a4 a5 a6 : Int) (l7 l8 : List Int) (h6 : 0 ≤ a6 ∧ a6 < 18446744073709551616) : larderlaw1_headers.f a0 a1 a2 a3 a4 a5 a6 l7 l8 = some true := by
  have hnum : ∀ x, larderlaw1_num.f x = some x := fun _ => rfl
  have hHead : ∀ k r s, larderref1_Head.f k r s = word_Head.f k r s := by
    intro k r s
    unfold larderref1_Head.f
    by_cases c1 : k < 1
    · rw [if_pos c1, HeadS.head_bad (fun h => by have := h.1; omega)]
    rw [if_neg c1]
    by_cases c2 : k > 255
    · rw [if_pos c2, HeadS.head_bad (fun h => by have := h.2.1; omega)]
    rw [if_neg c2]
    by_cases c3 : r < 0
    · rw [if_pos c3, HeadS.head_bad (fun h => by have := h.2.2.1; omega)]
    rw [if_neg c3]
    by_cases c4 : r > 1048576
    · rw [if_pos c4, HeadS.head_bad (fun h => by have := h.2.2.2.1; omega)]
    rw [if_neg c4]
    by_cases c5 : s < 0
    · rw [if_pos c5, HeadS.head_bad (fun h => by have := h.2.2.2.2.1; omega)]
    rw [if_neg c5]
    by_cases c6 : s > 1048576
    · rw [if_pos c6, HeadS.head_bad (fun h => by have := h.2.2.2.2.2; omega)]
    rw [if_neg c6, HeadS.head_ok ⟨by omega, by omega, by omega, by omega, by omega, by omega⟩]
    simp only [IntKind.wrap_u64]
    congr 2
    omega
  unfold larderlaw1_headers.f
  by_cases h1 : a0 = 1
  · rw [if_pos h1, hHead]
    by_cases c : headOk a1 a2 a3
    · rw [HeadS.head_ok c, Option.bind_some, Option.bind_some, if_pos rfl, hnum, Option.bind_some]; rfl
    · rw [HeadS.head_bad c, Option.bind_some, Option.bind_some, if_pos rfl, hnum, Option.bind_some]; rfl
  · rw [if_neg h1, HeadS.split_some a6 h6.1 h6.2]
    have t1 : wrap64 (Int.tmod a6 256) = a6 % 256 := by rw [Int.tmod_eq_emod_of_nonneg h6.1]; unfold wrap64; omega
    have t2 : wrap64 (Int.tmod (IntKind.u64.wrap (Int.tdiv a6 256)) 16777216) = a6 / 256 % 16777216 := by
      rw [Int.tdiv_eq_ediv_of_nonneg h6.1, IntKind.wrap_u64, Int.tmod_eq_emod_of_nonneg (by omega)]; unfold wrap64; omega
    have t3 : wrap64 (Int.tmod (IntKind.u64.wrap (Int.tdiv a6 4294967296)) 16777216) = a6 / 4294967296 % 16777216 := by
      rw [Int.tdiv_eq_ediv_of_nonneg h6.1, IntKind.wrap_u64, Int.tmod_eq_emod_of_nonneg (by omega)]; unfold wrap64; omega
    have hS : larderref1_Split.f a6 = if a6 / 72057594037927936 = 0 ∧ a6 % 256 ≠ 0 ∧ a6 / 256 % 16777216 ≤ 1048576 ∧ a6 / 4294967296 % 16777216 ≤ 1048576 then some (a6 % 256, a6 / 256 % 16777216, a6 / 4294967296 % 16777216, 0) else some (0, 0, 0, 10) := by
      unfold larderref1_Split.f
      rw [t1, t2, t3, hHead]
      by_cases c : headOk (a6 % 256) (a6 / 256 % 16777216) (a6 / 4294967296 % 16777216)
      · rw [HeadS.head_ok c, Option.bind_some, if_pos rfl]
        obtain ⟨q1, q2, q3, q4, q5, q6⟩ := c
        dsimp only
        by_cases c2 : a6 / 72057594037927936 = 0
        · rw [if_pos (by omega), if_pos ⟨c2, by omega, by omega, by omega⟩]
        · rw [if_neg (by omega), if_neg (fun h => c2 h.1)]
      · rw [HeadS.head_bad c, Option.bind_some, if_neg (by decide), if_neg]
        intro h
        obtain ⟨q1, q2, q3, q4⟩ := h
        exact c ⟨by omega, by omega, by omega, by omega, by omega, by omega⟩
    rw [hS]
    by_cases c : a6 / 72057594037927936 = 0 ∧ a6 % 256 ≠ 0 ∧ a6 / 256 % 16777216 ≤ 1048576 ∧ a6 / 4294967296 % 16777216 ≤ 1048576
    · rw [if_pos c, Option.bind_some, Option.bind_some, if_pos rfl, if_pos rfl, if_pos rfl, hnum, Option.bind_some]; rfl
    · rw [if_neg c, Option.bind_some, Option.bind_some, if_pos rfl, if_pos rfl, if_pos rfl, hnum, Option.bind_some]; rfl

set_option maxHeartbeats 1600000 in
theorem larderlaw1_plays.calls (a0_0 : Int) (a0_1 : Int) (a0_2 : Int) (a0_3 : Int) (a0_4 : Int) (a0_5 : Int) (a0_6 : Int) (A0_7 : Option Addr) (c0_7 : Nat) (l0_7 : List Int) (A0_8 : Option Addr) (c0_8 : Nat) (l0_8 : List Int) (r : Bool) (w : World) (hr0_7 : Kd.C (Kd.int .u8) w A0_7 l0_7.length l0_7) (hc0_7 : l0_7.length ≤ c0_7) (hr0_8 : Kd.C (Kd.int .u64) w A0_8 l0_8.length l0_8) (hc0_8 : l0_8.length ≤ c0_8) (h : larderlaw1_plays.f a0_0 a0_1 a0_2 a0_3 a0_4 a0_5 a0_6 l0_7 l0_8 = some r) :
    Calls Try.prog 58 #[.agg #[.int .i64 a0_0, .int .i64 a0_1, .int .i64 a0_2, .int .i64 a0_3, .int .i64 a0_4, .int .i64 a0_5, .int .u64 a0_6, .slice A0_7 l0_7.length c0_7, .slice A0_8 l0_8.length c0_8]] w fun e w' => e = .returned (.bool r) ∧ Below w.heap.size w w' := by
  unfold larderlaw1_plays.f at h
  split at h
  case isFalse => cases h
  rename_i hk
  obtain rfl := Option.some.inj h
  clear h
  obtain ⟨hk, h6⟩ := hk
  have HT : ∀ a0, Aside0 (larderlaw1_headers.f a0 a0_1 a0_2 a0_3 a0_4 a0_5 a0_6 l0_7 l0_8 = some true) := fun a0 => ⟨headers_true _ _ _ _ _ _ _ _ _ h6⟩
  have H7 := Aside0.mk hr0_7
  have H8 := Aside0.mk hr0_8
  have HL7 := Aside0.mk hc0_7
  have HL8 := Aside0.mk hc0_8
  clear hr0_7 hr0_8 hc0_7 hc0_8
  rcases hk with rfl | rfl
  all_goals
    go_enter Try.func58, Try.ntmps58
    go_wp2_with fail
    refine (larderlaw1_headers.calls _ a0_1 a0_2 a0_3 a0_4 a0_5 a0_6 _ _ l0_7 _ _ l0_8 true _ (Kd.C_alloc H7.out _) HL7.out (Kd.C_alloc H8.out _) HL8.out (HT _).out).mono ?_
    rintro e w1 ⟨rfl, hb⟩
    have HB := Aside0.mk (below_step (below_alloc (Below.refl w.heap.size w) _) hb)
    clear hb
    go_wp2
    go_ret
    exact ⟨rfl, HB.out⟩
end Go.Proofs.Ytgngpbcbnfmoiaa.PH
