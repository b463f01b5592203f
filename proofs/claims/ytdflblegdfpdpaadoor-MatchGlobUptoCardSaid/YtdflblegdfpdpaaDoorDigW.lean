/- word.Digits and math/bits.Add64: the machine's calls give digitsL and the sum with its carry. -/
import Derived.Test.YtdflblegdfpdpaaDoorWMore
import Derived.Test.YtdflblegdfpdpaaDoorProg
import Derived.WalkKit
import Derived.Laws.Shifts
import Derived.Laws.Bits64
import Derived.Lib.Hide
namespace Go.Proofs.YtdflblegdfpdpaaDoor.PA
open Go Go.RowKit Go.Proofs.YtdflblegdfpdpaaDoorW.PrintWords Go.Proofs.YtdflblegdfpdpaaDoorW.PrintLast Go.Proofs.YtdflblegdfpdpaaDoorW.PrintMore
set_option linter.unusedVariables false

/-- The spelling of a number. -/
def digitsL (n : Nat) : List Int := if n < 10 then [((48 + n : Nat) : Int)] else digitsL (n / 10) ++ [((48 + n % 10 : Nat) : Int)]
termination_by n
decreasing_by omega

theorem digitsL_small {n : Nat} (h : n < 10) : digitsL n = [((48 + n : Nat) : Int)] := by rw [digitsL, if_pos h]
theorem digitsL_great {n : Nat} (h : ¬ n < 10) : digitsL n = digitsL (n / 10) ++ [((48 + n % 10 : Nat) : Int)] := by rw [digitsL, if_neg h]
theorem digitsL_pos (n : Nat) : 1 ≤ (digitsL n).length := by
  by_cases h : n < 10
  · simp [digitsL_small h]
  · simp [digitsL_great h]
theorem digitsL_len (k n : Nat) (h : n < 10 ^ k) (hk : 0 < k) : (digitsL n).length ≤ k := by
  induction k generalizing n with
  | zero => omega
  | succ k ih =>
    by_cases h10 : n < 10
    · simp [digitsL_small h10]
    · have hk0 : 0 < k := by
        rcases Nat.eq_zero_or_pos k with rfl | hk0
        · simp at h; omega
        · exact hk0
      have := ih (n / 10) (by rw [Nat.pow_succ] at h; omega) hk0
      simp [digitsL_great h10]; omega

def word_Digits.f (a0 : Int) : Option (List Int) := if 0 ≤ a0 ∧ a0 < 18446744073709551616 then some (digitsL a0.toNat) else none

/-- The block of twenty cells behind some rounds. -/
structure DigBlk (w0 w : World) (n0 m i : Nat) : Prop where
  ex : ∃ (cells : Array Value) (S : List Int), w.heap[w0.heap.size]? = some (.cells cells 86 (0, 0)) ∧ cells.size = 20 ∧ i + S.length = 20 ∧ digitsL n0 = digitsL m ++ S ∧ ∀ j, j < S.length → cells[i + j]? = some (.int .u8 (S.getD j 0))
  below : Below w0.heap.size w0 w

theorem dinfo5 : (Tryd.prog.info? 5).map (fun i => (i.zero, i.size, i.bytes)) = some (some (.int .u8 0), 1, 1) := by kernel_rfl
theorem add_off (g i j : Nat) : (⟨g, i, none⟩ : Addr).add j = ⟨g, i + j, none⟩ := by unfold Addr.add; split <;> simp_all
/-- The block in the middle of a round. -/
structure DigBlk2 (w0 w : World) (n0 q i : Nat) : Prop where
  ex : ∃ (cells : Array Value) (S : List Int), w.heap[w0.heap.size]? = some (.cells cells 86 (0, 0)) ∧ cells.size = 20 ∧ i + S.length = 20 ∧ digitsL n0 = (if q = 0 then [] else digitsL q) ++ S ∧ ∀ j, j < S.length → cells[i + j]? = some (.int .u8 (S.getD j 0))
  below : Below w0.heap.size w0 w

theorem dig_step {w0 wr : World} {n0 : Nat} {cells : Array Value} {S : List Int} (m j : Nat) (hb : wr.heap[w0.heap.size]? = some (.cells cells 86 (0, 0))) (hz : cells.size = 20) (hs : (j + 1) + S.length = 20) (hd : digitsL n0 = digitsL m ++ S)
    (hc : ∀ i, i < S.length → cells[j + 1 + i]? = some (.int .u8 (S.getD i 0))) (hbel : Below w0.heap.size w0 wr) :
    DigBlk2 w0 (wr.setCell ⟨w0.heap.size, j, none⟩ (.int .u8 (48 + (m : Int) % 10))) n0 (m / 10) j := by
  refine ⟨⟨cells.set j (.int .u8 (48 + (m : Int) % 10)) (by omega), (48 + (m : Int) % 10) :: S, ?_, by simpa using hz, by simp; omega, ?_, ?_⟩, hbel.setCell (Nat.le_refl _) _⟩
  · have : w0.heap.size < wr.heap.size := (Array.getElem?_eq_some_iff.1 hb).1
    simp only [World.setCell, Array.getElem?_modify, if_true, hb, Option.map_some]
    simp [Array.setIfInBounds, show j < cells.size from by omega]
  · rw [hd]
    by_cases h : m < 10
    · rw [digitsL_small h, if_pos (by omega)]
      simp; omega
    · rw [digitsL_great h, if_neg (by omega)]
      simp
  · intro i hi
    cases i with
    | zero => simp
    | succ i =>
      rw [Array.getElem?_set, if_neg (by omega), show j + (i + 1) = j + 1 + i from by omega, hc i (by simpa using hi)]
      simp

set_option maxHeartbeats 800000 in
theorem word_Digits.calls (a0 : Int) (r : List Int) (w : World) (h : word_Digits.f a0 = some r) :
    Calls Tryd.prog 30 #[.int .u64 a0] w fun e w' => ∃ v0_ : Value, e = .returned (v0_) ∧ Kd.R (Kd.int .u8) 5 w' w.heap.size (fun _ => True) v0_ r ∧ Below w.heap.size w w' := by
  unfold word_Digits.f at h
  split at h
  case isFalse => cases h
  rename_i hin
  obtain ⟨h0, h1⟩ := hin
  injection h with h
  have HE := Lib.hid h
  clear h
  obtain ⟨n0, rfl⟩ := Int.eq_ofNat_of_zero_le h0
  go_enter Tryd.func30, Tryd.ntmps30
  go_wp2
  have hst : DigBlk w (w.alloc (.cells #[.int .u8 0, .int .u8 0, .int .u8 0, .int .u8 0, .int .u8 0, .int .u8 0, .int .u8 0, .int .u8 0, .int .u8 0, .int .u8 0, .int .u8 0, .int .u8 0, .int .u8 0, .int .u8 0, .int .u8 0, .int .u8 0, .int .u8 0, .int .u8 0, .int .u8 0, .int .u8 0] 86)) n0 n0 20 :=
    ⟨⟨_, [], heap_alloc_new w _, rfl, rfl, by simp, fun j hj => by simp at hj⟩, (Below.refl _ _).alloc (Nat.le_refl _) _⟩
  go_loopw [0, 4] (fun v0 v4 wr => ∃ m i : Nat, v0 = .int .u64 m ∧ v4 = .int .i64 i ∧ m ≤ n0 ∧ Aside0 (DigBlk w wr n0 m i)) (fun v0 v4 wr => (intOf v4).toNat)
  case atStart => exact ⟨n0, 20, rfl, rfl, Nat.le_refl _, ⟨hst⟩⟩
  case round =>
    clear hst
    obtain ⟨m, i, rfl, rfl, hm, HD⟩ := hrel
    obtain ⟨⟨cells, S, hb, hsz, hS, hdig, hcells⟩, hbel⟩ := HD.out
    have hl1 := digitsL_len 20 n0 (by omega) (by decide)
    have hl2 := digitsL_pos m
    have hl3 : (digitsL n0).length = (digitsL m).length + S.length := by rw [hdig, List.length_append]
    obtain ⟨j, rfl⟩ : ∃ j, i = j + 1 := ⟨i - 1, by omega⟩
    have hj : j < 20 := by omega
    obtain ⟨old, hcell⟩ : ∃ old, wr.cell? ⟨w.heap.size, j, none⟩ = some old := ⟨cells[j]'(by omega), by simp [World.cell?, hb, hsz, hj]⟩
    have hfz : wr.frozen? ⟨w.heap.size, j, none⟩ = false := by simp [World.frozen?, hb]
    have Hd := Lib.hid hdig
    have Hb := Lib.hid hb
    have Hl := Lib.hid hl3
    have Hs := Lib.hid hS
    have Hz := Lib.hid hsz
    have Hc := Lib.hid hcells
    clear hdig hb hl3 hcells hS hsz HD
    go_upto_region 5 with (fail)
    go_upto_region 6 with (fail)
    have h2 : DigBlk2 w (wr.setCell ⟨w.heap.size, j, none⟩ (.int .u8 (48 + (m : Int) % 10))) n0 (m / 10) j := dig_step m j Hb.out Hz.out Hs.out Hd.out Hc.out hbel
    have HW2 := Aside0.mk h2
    clear h2 hcell hfz Hb Hd Hl Hs Hz Hc hbel
    generalize wr.setCell ⟨w.heap.size, j, none⟩ (.int .u8 (48 + (m : Int) % 10)) = w2 at *
    obtain ⟨Q, hQ⟩ : ∃ Q : Int, (m : Int) / 10 = Q := ⟨_, rfl⟩
    have hQm : ((m / 10 : Nat) : Int) = Q := by omega
    rw [hQ]
    have HQ := Lib.hid hQm
    clear hQ hQm
    by_cases c : Q = 0
    · have c1 : (Q == 0) = true := by simp [c]
      have C := Lib.hid c
      clear c
      obtain ⟨⟨cells, S, hb, hz, hS, hd, hc⟩, hbel⟩ := HW2.out
      have hq0 : m / 10 = 0 := by have := HQ.out; have := C.out; omega
      rw [if_pos hq0, List.nil_append] at hd
      have hS1 : S.length = 20 - j := by omega
      have HS1 := Lib.hid hS1
      have HR1 : ReadsRow ((Kd.int .u8).K w2) (Kd.int .u8).sz w2 (some ⟨w.heap.size, j, none⟩) (20 - j) S := by
        refine ⟨hS1, by omega, fun _ => ⟨_, rfl, fun i p hp => ⟨[.int .u8 p], rfl, rfl, fun u x hx => ?_⟩⟩⟩
        obtain ⟨hi, hp'⟩ := List.getElem?_eq_some_iff.1 hp
        cases u with
        | zero =>
          injection hx with hx
          subst hx
          have := hc i hi
          rw [show (Kd.int .u8).sz = 1 from rfl, Nat.mul_one, Nat.add_zero, show (⟨w.heap.size, j, none⟩ : Addr).add i = ⟨w.heap.size, j + i, none⟩ from add_off _ _ _]
          simp only [World.cell?, hb]
          rw [List.getD_eq_getElem?_getD, List.getElem?_eq_getElem hi, Option.getD_some, hp'] at this
          simpa using this
        | succ u => simp at hx
      have HRR := Aside0.mk HR1
      have HBB := Aside0.mk hbel
      have HDD := Lib.hid hd
      clear HR1 hb hz hS hd hc hbel hS1 hq0 HW2
      have hj20 : (j : Int) ≤ 20 := by omega
      go_wp2_with (first | ((with_reducible refine gate_builtin (b := .append) (xs := #[.const (.slice none 0 0), .tmp 18]) rfl ?_); at_builtin; refine Kd.R_append_rows (Kd.int .u8) (w0 := w) w.heap.size rfl (.const (.slice none 0 0)) (.tmp 18) 22 5 (.int .u8 0) 1 rfl Tryd.underlying22 dinfo5 rfl (by decide) (by omega) (.slice none 0 0) ([] : List Int) S _ _ _ (fun _ => True) (fun _ => False) rfl rfl (Kd.R_nil _ _ _ _ (fun _ => True)) HRR.out (fun _ _ h => h) (fun _ h => h.elim) (fun _ _ => trivial) HBB.out HBB.out.size ?aL ?_; (case aL => have := HS1.out; simp only [List.length_nil]; omega); intro v102 w3 ho hb hg hat; have HO := Aside0.mk ho; have HB3 := Aside0.mk hb; clear ho hb hg hat))
      go_ret
      refine ⟨_, rfl, ?_, HB3.out⟩
      have := HO.out
      rw [List.nil_append] at this
      rw [← HE.out, Int.toNat_natCast, HDD.out]
      exact this
    · have c1 : (Q == 0) = false := by simp [c]
      go_wp2
      go_roundw
      case rel =>
        obtain ⟨⟨cells, S, hb, hz, hS, hd, hc⟩, hbel⟩ := HW2.out
        have hq : m / 10 ≠ 0 := by have := HQ.out; omega
        rw [if_neg hq] at hd
        exact ⟨m / 10, j, by rw [HQ.out], rfl, by omega, ⟨⟨⟨cells, S, hb, hz, hS, hd, hc⟩, hbel⟩⟩⟩
      case measure => simp [intOf]
end Go.Proofs.YtdflblegdfpdpaaDoor.PA
