/- larderlaw9.fits: the machine's calls. -/
import Derived.Test.YtdflblegdfpdpaaDoorWriteW
namespace Go.Proofs.YtdflblegdfpdpaaDoor.FitW
open Go Go.RowKit Go.Proofs.YtdflblegdfpdpaaDoorW.PrintWords Go.Proofs.YtdflblegdfpdpaaDoorW.PrintLast Go.Proofs.YtdflblegdfpdpaaDoorW.PrintMore Go.Proofs.YtdflblegdfpdpaaDoor.HeldW Go.Proofs.YtdflblegdfpdpaaDoor.ScoreW Go.Proofs.YtdflblegdfpdpaaDoor.ClassS Go.Proofs.YtdflblegdfpdpaaDoor.AskW Go.Proofs.YtdflblegdfpdpaaDoor.WriteW
set_option linter.unusedVariables false
set_option maxRecDepth 100000

set_option maxHeartbeats 3200000 in
theorem fits.calls (d b0 : Int) (neg : Bool) (A : Option Addr) (c : Nat) (l : List MemT) (b : Int) (w : World) (hC : kMem.C w A l.length l) (hlen : l.length ≤ 140737488355328) :
    Calls Tryd.prog 17 #[.agg #[.int .i64 d, .int .u8 b0, .bool neg, .slice A l.length c], .int .u8 b] w fun e w' => e = .returned (.bool (fitsL (toP d b0 neg l) b)) ∧ Below w.heap.size w w' := by
  have HC := Aside0.mk hC
  have HB := Aside0.mk (Below.refl w.heap.size w)
  have HE : Aside0 (fitsL (toP d b0 neg l) b = ((l.any fun y => inMem (toM y) b) != neg)) := ⟨by simp [fitsL, toP, List.any_map, Function.comp_def]⟩
  clear hC
  go_enter Tryd.func17, Tryd.ntmps17
  go_wp2_with (first
    | ((with_reducible refine gate_dst (N := 2) rfl ?_); refine box_event ?hg (N := 2) ?hd (cs := #[.int .i64 d, .int .u8 b0, .bool neg, .slice A l.length c]) (t := 35) ?hr ?_; (case hd => rfl); (case hg => rfl); (case hr => first | (go_simp; done) | (go_simp; rfl)); intro gb hgb w5 hbox hb; have n0_ := Aside0.mk (below_step HB.out hb); have BK := Aside0.mk hbox; have z2 : w5.cell? ⟨gb, 2, none⟩ = some (.bool neg) := (blk_cell BK.out 2).trans rfl; have z3 : w5.cell? ⟨gb, 3, none⟩ = some (.slice A l.length c) := (blk_cell BK.out 3).trans rfl; clear HB; have HB := n0_; clear n0_ hb hbox hgb))
  go_loopw [5, 6] (fun v5 v6 wr => ∃ (i : Nat) (acc : Bool), v6 = .int .i64 i ∧ i ≤ l.length ∧ v5 = .bool acc ∧ Aside0 (((l.take i).any fun y => inMem (toM y) b) = acc ∧ Below w5.heap.size w5 wr)) (fun v5 v6 wr => l.length - (intOf v6).toNat)
  case atStart => exact ⟨0, false, rfl, by omega, rfl, ⟨by simp, Below.refl _ _⟩⟩
  case round =>
    obtain ⟨i, acc, rfl, hi2, rfl, HI⟩ := hrel
    have z3' := pw_cell_below HI.out.2 z3
    have z2' := pw_cell_below HI.out.2 z2
    clear z2 z3
    by_cases hlt : i < l.length
    · have c1 : decide ((i : Int) < l.length) = true := decide_eq_true (by omega)
      have c1' : decide (i < l.length) = true := decide_eq_true hlt
      have HCr := Aside0.mk (Kd.C_below HC.out (PB.below_next HB.out HI.out.2))
      obtain ⟨y, hy⟩ : ∃ y, l[i]? = some y := ⟨_, List.getElem?_eq_getElem hlt⟩
      obtain ⟨ad, hAd⟩ : ∃ ad, A = some ad := by
        obtain ⟨ad, _, hh, _⟩ := Kd.C_get HCr.out y (i : Int) (by omega) (by omega)
        exact ⟨ad, hh⟩
      subst hAd
      have HK := Aside0.mk (mem_cells HCr.out i y hy)
      have HIN : Aside0 (((l.take (i + 1)).any fun y => inMem (toM y) b) = (acc || inMem (toM y) b)) := ⟨by
        rw [List.take_add_one, hy, Option.toList_some, List.any_append, HI.out.1]
        simp⟩
      obtain ⟨lo, hiB, rg, pl⟩ := y
      obtain ⟨h8, hh8⟩ : ∃ h8, h8 = (if rg = true then hiB else lo) := ⟨_, rfl⟩
      have HTY : Aside0 (inMem (toM (lo, hiB, rg, pl)) b = decide (lo ≤ b ∧ b ≤ h8 ∨ h8 ≤ b ∧ b ≤ lo)) := ⟨by rw [hh8]; rfl⟩
      have H8 := Aside0.mk hh8
      have HSZ := Aside0.mk (show (Tryd.prog.info? 72).map (·.size) = some 4 by kernel_rfl)
      have HONE := Aside0.mk (show (#[.int .u8 lo, .int .u8 hiB, .bool rg, .bool pl] : Array Value).all (·.oneCell') = true by
        rw [Array.all_eq_true_iff_forall_mem]
        intro v hv
        have hv : v ∈ ([.int .u8 lo, .int .u8 hiB, .bool rg, .bool pl] : List Value) := by simpa using hv
        simp only [List.mem_cons, List.not_mem_nil, or_false] at hv
        rcases hv with rfl | rfl | rfl | rfl <;> rfl)
      have HSZ2 := Aside0.mk (show (Tryd.prog.info? 72).map (·.size) = some (#[.int .u8 lo, .int .u8 hiB, .bool rg, .bool pl] : Array Value).size from HSZ.out)
      clear hy hh8
      go_upto_region 6 with (first
        | ((with_reducible refine gate_dst (N := 20) rfl ?_); refine wpList_load_at rfl 72 (.tmp 19) rfl (ad.add (i * 4)) rfl [.int .u8 lo, .int .u8 hiB, .bool rg, .bool pl] _ HK.out Tryd.underlying72 rfl HSZ.out ?_)
        | ((with_reducible refine gate_dst (N := 7) rfl ?_); refine box_event ?hg (N := 7) ?hd (cs := #[.int .u8 0, .int .u8 0, .bool false, .bool false]) (t := 72) ?hr ?_; (case hd => rfl); (case hg => rfl); (case hr => first | (go_simp; done) | (go_simp; rfl)); intro ga hga w7 hbox hb; have BA := Aside0.mk hbox; have HB7 := Aside0.mk hb; have GA := Aside0.mk hga; clear hbox hb hga)
        | ((with_reducible refine gate_store (p := 7) rfl ?_); refine wpList_store_row rfl 72 (.tmp 7) (.tmp 20) rfl ga #[.int .u8 lo, .int .u8 hiB, .bool rg, .bool pl] rfl rfl 72 #[.int .u8 0, .int .u8 0, .bool false, .bool false] BA.out HSZ2.out rfl HONE.out ?_; obtain ⟨w8, hw8⟩ : ∃ w8, w8 = w7.setRow ga #[.int .u8 lo, .int .u8 hiB, .bool rg, .bool pl] := ⟨_, rfl⟩; rw [← hw8]; have BC := Aside0.mk (show w8.heap[ga]? = some (.cells #[.int .u8 lo, .int .u8 hiB, .bool rg, .bool pl] 72 (0, 0)) by rw [hw8]; exact setRow_heap _ _ _ _ _ _ BA.out); have HB8 := Aside0.mk (show Below wr.heap.size wr w8 by rw [hw8]; exact below_setRow HB7.out (by rw [GA.out]; exact Nat.le_refl _) _); clear hw8))
      have x0 : w8.cell? ⟨ga, 0, none⟩ = some (.int .u8 lo) := (blk_cell BC.out 0).trans rfl
      have x1 : w8.cell? ⟨ga, 1, none⟩ = some (.int .u8 hiB) := (blk_cell BC.out 1).trans rfl
      have x2 : w8.cell? ⟨ga, 2, none⟩ = some (.bool rg) := (blk_cell BC.out 2).trans rfl
      have HW8 : Aside0 (Below w5.heap.size w5 w8) := ⟨PB.below_next HI.out.2 HB8.out⟩
      clear HB7 GA BA HSZ HSZ2 HONE HK z3' z2' HB8
      go_upto_if 25 with fail
      go_cut [8] (fun v8 wc => v8 = .int .u8 h8 ∧ wc = w8)
      case first =>
        cases rg with
        | false =>
          go_wp2_with fail
          go_meet
          exact ⟨by rw [H8.out]; rfl, rfl⟩
        | true =>
          go_wp2_with fail
          go_meet
          exact ⟨by rw [H8.out]; rfl, rfl⟩
      case rest =>
        obtain ⟨rfl, rfl⟩ := hcut
        cases acc with
        | true =>
          have HR : Aside0 (((l.take (i + 1)).any fun y => inMem (toM y) b) = true) := ⟨by rw [HIN.out, HTY.out]; rfl⟩
          clear HIN HTY
          go_wp2_with fail
          go_roundw
          case rel => exact ⟨i + 1, true, by go_num, by omega, rfl, ⟨HR.out, HW8.out⟩⟩
          case measure => simp [intOf]; omega
        | false =>
          by_cases k1 : lo ≤ b
          · have e1 : decide (lo ≤ b) = true := decide_eq_true k1
            by_cases k2 : b ≤ h8
            · have e2 : decide (b ≤ h8) = true := decide_eq_true k2
              have HR : Aside0 (((l.take (i + 1)).any fun y => inMem (toM y) b) = true) := ⟨by rw [HIN.out, HTY.out]; simp only [Bool.false_or]; exact decide_eq_true (by omega)⟩
              clear HIN HTY
              go_wp2_with fail
              go_roundw
              case rel => exact ⟨i + 1, true, by go_num, by omega, rfl, ⟨HR.out, HW8.out⟩⟩
              case measure => simp [intOf]; omega
            · have e2 : decide (b ≤ h8) = false := decide_eq_false k2
              have e3 : decide (h8 ≤ b) = true := decide_eq_true (by omega)
              by_cases k4 : b ≤ lo
              · have e4 : decide (b ≤ lo) = true := decide_eq_true k4
                have HR : Aside0 (((l.take (i + 1)).any fun y => inMem (toM y) b) = true) := ⟨by rw [HIN.out, HTY.out]; simp only [Bool.false_or]; exact decide_eq_true (by omega)⟩
                clear HIN HTY
                go_wp2_with fail
                go_roundw
                case rel => exact ⟨i + 1, true, by go_num, by omega, rfl, ⟨HR.out, HW8.out⟩⟩
                case measure => simp [intOf]; omega
              · have e4 : decide (b ≤ lo) = false := decide_eq_false k4
                have HR : Aside0 (((l.take (i + 1)).any fun y => inMem (toM y) b) = false) := ⟨by rw [HIN.out, HTY.out]; simp only [Bool.false_or]; exact decide_eq_false (by omega)⟩
                clear HIN HTY
                go_wp2_with fail
                go_roundw
                case rel => exact ⟨i + 1, false, by go_num, by omega, rfl, ⟨HR.out, HW8.out⟩⟩
                case measure => simp [intOf]; omega
          · have e1 : decide (lo ≤ b) = false := decide_eq_false k1
            have e4 : decide (b ≤ lo) = true := decide_eq_true (by omega)
            by_cases k3 : h8 ≤ b
            · have e3 : decide (h8 ≤ b) = true := decide_eq_true k3
              have HR : Aside0 (((l.take (i + 1)).any fun y => inMem (toM y) b) = true) := ⟨by rw [HIN.out, HTY.out]; simp only [Bool.false_or]; exact decide_eq_true (by omega)⟩
              clear HIN HTY
              go_wp2_with fail
              go_roundw
              case rel => exact ⟨i + 1, true, by go_num, by omega, rfl, ⟨HR.out, HW8.out⟩⟩
              case measure => simp [intOf]; omega
            · have e3 : decide (h8 ≤ b) = false := decide_eq_false k3
              have HR : Aside0 (((l.take (i + 1)).any fun y => inMem (toM y) b) = false) := ⟨by rw [HIN.out, HTY.out]; simp only [Bool.false_or]; exact decide_eq_false (by omega)⟩
              clear HIN HTY
              go_wp2_with fail
              go_roundw
              case rel => exact ⟨i + 1, false, by go_num, by omega, rfl, ⟨HR.out, HW8.out⟩⟩
              case measure => simp [intOf]; omega
    · obtain rfl : i = l.length := by omega
      have c1 : decide ((l.length : Int) < l.length) = false := decide_eq_false (by omega)
      have HF : Aside0 ((l.any fun y => inMem (toM y) b) = acc) := ⟨by have := HI.out.1; rw [List.take_length] at this; exact this⟩
      have HFW : Aside0 (Below w5.heap.size w5 wr) := ⟨HI.out.2⟩
      clear HI
      go_wp2_with fail
      go_ret
      exact ⟨by rw [HE.out, HF.out]; rfl, PB.below_next HB.out HFW.out⟩
end Go.Proofs.YtdflblegdfpdpaaDoor.FitW
