/- Intact and IntactWords of a lent list: the machine's calls answer true. -/
import Derived.Test.YtgngpbcbnfmoiaaLendW
import Derived.Lib.Hide
import Derived.Deep.QuietTactic
import Derived.BigQuiet
namespace Go.Proofs.Ytgngpbcbnfmoiaa.PL
open Go Go.RowKit Go.Proofs.YtgngpbcbnfmoiaaW.PrintWords Go.Proofs.YtgngpbcbnfmoiaaW.PrintLast Go.Proofs.YtgngpbcbnfmoiaaW.PrintMore Go.Proofs.Ytgngpbcbnfmoiaa.PA
set_option linter.unusedVariables false
set_option linter.unusedSimpArgs false

/-- A slice up to its capacity. -/
theorem cut_long (t e : TypeId) {P : Program} (ht : P.underlying t = some (.slice e)) {z : Value} {b : Nat} (hi : (P.info? e).map (fun i => (i.zero, i.size, i.bytes)) = some (some z, 1, b)) (A : Option Addr) (n c m : Nat) (hc : m ≤ c) :
    ∀ W : World, (Instr.slice t (.slice A n c) none (some (.int .i64 (m : Int))) none).run P W = .ok (.slice A m c) W := by
  intro W
  obtain ⟨i, hi, hz⟩ := Option.map_eq_some_iff.1 hi
  simp only [Prod.mk.injEq] at hz
  have hel : P.elem t = e := by simp [Program.elem, ht]
  have hu : P.underlying t = some (.slice (P.elem t)) := by rw [hel]; exact ht
  have ha : (A.map fun x => x.add 0) = A := by cases A <;> simp [Addr.add]
  rw [run_slice_h W t A n c hu .i64 (m : Int) (Int.natCast_nonneg _) (by omega), hel]
  simp [sizeOf, typeInfo, hi, hz.2.1, sliced, Result.andThen, ha]

theorem mark_rd (l : List Int) : rd (l ++ [165, 90, 165]) (l.length : Int) = 165 ∧ rd (l ++ [165, 90, 165]) ((l.length : Int) + 1) = 90 ∧ rd (l ++ [165, 90, 165]) ((l.length : Int) + 2) = 165 := by
  refine ⟨?_, ?_, ?_⟩ <;> unfold rd
  · rw [Int.toNat_natCast, List.getD_eq_getElem?_getD, List.getElem?_append_right (Nat.le_refl _), Nat.sub_self]; rfl
  · rw [show ((l.length : Int) + 1).toNat = l.length + 1 from by omega, List.getD_eq_getElem?_getD, List.getElem?_append_right (by omega), Nat.add_sub_cancel_left]; rfl
  · rw [show ((l.length : Int) + 2).toNat = l.length + 2 from by omega, List.getD_eq_getElem?_getD, List.getElem?_append_right (by omega), Nat.add_sub_cancel_left]; rfl

set_option maxHeartbeats 1600000 in
set_option maxRecDepth 100000 in
theorem intact.calls (l : List Int) (base : Nat) (v : Value) (A1 : Option Addr) (c1 : Nat) (w : World) (hv : Lent .u8 5 w base v l) (hr1 : Kd.C (Kd.int .u8) w A1 l.length l) (hc1 : l.length ≤ c1) :
    Calls Try.prog 71 #[v, .slice A1 l.length c1] w fun e w' => e = .returned (.bool true) ∧ w = w' := by
  obtain ⟨A, c, rfl, hc, hC3, hC⟩ := hv.reads
  clear hv
  have hlen := hC3.2.1
  have hs0 := Kd.C_string (c := c) Try.underlying22 Try.underlying5 Try.underlying9 hC
  have hs1 := Kd.C_string (c := c1) Try.underlying22 Try.underlying5 Try.underlying9 hr1
  have hne : ((strOfNums l).toList != (strOfNums l).toList) = false := by simp
  have hcut : ∀ W : World, (Instr.slice 22 (.slice A l.length c) none (some (.int .i64 ((l.length : Int) + 3))) none).run Try.prog W = .ok (.slice A (l.length + 3) c) W := fun W => cut_long 22 5 Try.underlying22 info5 A l.length c (l.length + 3) hc W
  obtain ⟨m0, m1, m2⟩ := mark_rd l
  obtain ⟨ad, had, h0⟩ := Kd.at_int hC3 (l.length : Int) (by omega) (by omega)
  obtain ⟨ad', had', h1⟩ := Kd.at_int hC3 ((l.length : Int) + 1) (by omega) (by omega)
  obtain ⟨ad'', had'', h2⟩ := Kd.at_int hC3 ((l.length : Int) + 2) (by omega) (by omega)
  subst had
  obtain rfl := Option.some.inj had'
  obtain rfl := Option.some.inj had''
  rw [m0, show ((l.length : Int)).toNat = l.length from by omega] at h0
  rw [m1, show ((l.length : Int) + 1).toNat = l.length + 1 from by omega, show ad.add (l.length + 1) = ⟨ad.block, ad.off + (l.length + 1), none⟩ from by simp [Addr.add]] at h1
  rw [m2, show ((l.length : Int) + 2).toNat = l.length + 2 from by omega, show ad.add (l.length + 2) = ⟨ad.block, ad.off + (l.length + 2), none⟩ from by simp [Addr.add]] at h2
  clear m0 m1 m2 hC hC3 hr1
  go_enter Try.func71, Try.ntmps71
  go_wp2
  go_ret
  exact ⟨rfl, rfl⟩
set_option maxHeartbeats 1600000 in
set_option maxRecDepth 100000 in
theorem intactWords.calls (l : List Int) (base : Nat) (v : Value) (A1 : Option Addr) (c1 : Nat) (w : World) (hv : Lent .u64 23 w base v l) (hr1 : Kd.C (Kd.int .u64) w A1 l.length l) (hc1 : l.length ≤ c1) :
    Calls Try.prog 88 #[v, .slice A1 l.length c1] w fun e w' => e = .returned (.bool true) ∧ Drawn0 w w' := by
  obtain ⟨A, c, rfl, hc, hC3, hC⟩ := hv.reads
  clear hv
  have hlen := hC3.2.1
  have hne : ((l.length : Int) != (l.length : Int)) = false := by simp
  have hne2 : (l.length != l.length) = false := by simp
  have hcut : ∀ W : World, (Instr.slice 43 (.slice A l.length c) none (some (.int .i64 ((l.length : Int) + 3))) none).run Try.prog W = .ok (.slice A (l.length + 3) c) W := fun W => cut_long 43 23 Try.underlying43 info23 A l.length c (l.length + 3) hc W
  obtain ⟨m0, m1, m2⟩ := mark_rd l
  obtain ⟨ad, had, h0⟩ := Kd.at_int hC3 (l.length : Int) (by omega) (by omega)
  obtain ⟨ad', had', h1⟩ := Kd.at_int hC3 ((l.length : Int) + 1) (by omega) (by omega)
  obtain ⟨ad'', had'', h2⟩ := Kd.at_int hC3 ((l.length : Int) + 2) (by omega) (by omega)
  subst had
  obtain rfl := Option.some.inj had'
  obtain rfl := Option.some.inj had''
  rw [m0, show ((l.length : Int)).toNat = l.length from by omega] at h0
  rw [m1, show ((l.length : Int) + 1).toNat = l.length + 1 from by omega, show ad.add (l.length + 1) = ⟨ad.block, ad.off + (l.length + 1), none⟩ from by simp [Addr.add]] at h1
  rw [m2, show ((l.length : Int) + 2).toNat = l.length + 2 from by omega, show ad.add (l.length + 2) = ⟨ad.block, ad.off + (l.length + 2), none⟩ from by simp [Addr.add]] at h2
  have HC := Aside0.mk hC
  have H1 := Aside0.mk hr1
  clear m0 m1 m2 hC hC3 hr1 had' had''
  go_enter Try.func88, Try.ntmps88
  go_wp2
  go_loopw [5] (fun v w' => ∃ k : Nat, k ≤ l.length ∧ v = .int .i64 k ∧ Aside0 (Drawn0 w w')) (fun v _ => l.length - (intOf v).toNat)
  case atStart => exact ⟨0, Nat.zero_le _, rfl, ⟨Drawn0.refl _⟩⟩
  case round =>
    obtain ⟨k, hk, rfl, hd⟩ := hrel
    by_cases hlt : k < l.length
    · obtain ⟨b0, hb0, q0⟩ := Kd.at_int HC.out (k : Int) (by omega) (by omega)
      obtain rfl : ad = b0 := Option.some.inj hb0
      obtain ⟨b1, hb1, q1⟩ := Kd.at_int H1.out (k : Int) (by omega) (by omega)
      subst hb1
      simp only [Int.toNat_natCast] at q0 q1
      have q0' := pw_cell_below hd.out.below q0
      have q1' := pw_cell_below hd.out.below q1
      have hkk : (rd l k != rd l k) = false := by simp
      clear q0 q1 hb0 h0 h1 h2
      go_wp2
      go_quiet (fail)
      go_wp2
      go_roundw
      case rel => exact ⟨k + 1, by omega, by go_num, ⟨by repeat (first | exact hd.out | apply Drawn0.step)⟩⟩
      case measure => simp [intOf]; omega
    · have hk' : k = l.length := by omega
      subst hk'
      have h0' := pw_cell_below hd.out.below h0
      have h1' := pw_cell_below hd.out.below h1
      have h2' := pw_cell_below hd.out.below h2
      clear h0 h1 h2
      go_wp2
      go_ret
      exact ⟨rfl, hd.out⟩

end Go.Proofs.Ytgngpbcbnfmoiaa.PL
