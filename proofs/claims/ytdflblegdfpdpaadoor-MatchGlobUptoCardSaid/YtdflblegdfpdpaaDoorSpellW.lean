/- word.spelling: the machine's call answers spellB. -/
import Derived.Test.YtdflblegdfpdpaaDoorWMore
import Derived.Test.YtdflblegdfpdpaaDoorProg
import Derived.Test.YtdflblegdfpdpaaDoorNumS
import Derived.WalkKit
import Derived.Lib.Hide
namespace Go.Proofs.YtdflblegdfpdpaaDoor.PB
open Go Go.RowKit Go.Proofs.YtdflblegdfpdpaaDoorW.PrintWords Go.Proofs.YtdflblegdfpdpaaDoorW.PrintLast Go.Proofs.YtdflblegdfpdpaaDoorW.PrintMore Go.Proofs.YtdflblegdfpdpaaDoor.NumS
set_option linter.unusedVariables false

theorem spi : (Tryd.prog.info? 5).map (fun i => (i.zero, i.size, i.bytes)) = some (some (.int .u8 0), 1, 1) := by kernel_rfl
def word_spelling.f (l : List Int) : Option Bool := some (spellB l)

theorem sp_neg {l : List Int} {b : Bool} (h0 : 0 < l.length) (h : rd l 0 = 45) (hn : 0 < (l.drop 1).length) (h48 : ¬ rd (l.drop 1) 0 = 48) (hd : allDig (l.drop 1) = b) : spellB l = b := by
  have e1 : negB l = true := by cases l with
    | nil => simp at h0
    | cons a r => simpa [negB, rd] using h
  unfold spellB
  rw [if_pos e1, hd]
  have h1 : ((l.drop 1).isEmpty) = false := by
    cases hl : l.drop 1 with
    | nil => rw [hl] at hn; simp at hn
    | cons => rfl
  unfold rd at h48
  simp only [Int.toNat_zero] at h48
  rw [h1, beq_eq_false_iff_ne.2 h48]
  cases b <;> rfl
theorem sp_neg0 {l : List Int} (h0 : 0 < l.length) (h : rd l 0 = 45) (hn : (l.drop 1).length = 0 ∨ rd (l.drop 1) 0 = 48) : spellB l = false := by
  have e1 : negB l = true := by cases l with
    | nil => simp at h0
    | cons a r => simpa [negB, rd] using h
  unfold spellB
  rw [if_pos e1]
  rcases hn with hn | hn
  · have : l.drop 1 = [] := List.eq_nil_of_length_eq_zero hn
    simp [this]
  · unfold rd at hn
    simp only [Int.toNat_zero] at hn
    rw [beq_iff_eq.2 hn]
    simp
theorem sp_pos {l : List Int} {b : Bool} (h0 : 0 < l.length) (h : ¬ rd l 0 = 45) (h48 : ¬ (rd l 0 = 48 ∧ 1 < l.length)) (hd : allDig l = b) : spellB l = b := by
  have e1 : negB l = false := by unfold rd at h; simp only [Int.toNat_zero] at h; unfold negB; rw [beq_eq_false_iff_ne.2 h, Bool.and_false]
  unfold spellB
  rw [if_neg (by simp [e1])]
  unfold plainB
  rw [hd]
  have h1 : l.isEmpty = false := by cases l with
    | nil => simp at h0
    | cons => rfl
  unfold rd at h48
  simp only [Int.toNat_zero] at h48
  rw [h1]
  by_cases c : l.getD 0 0 = 48
  · rw [decide_eq_false (fun h' => h48 ⟨c, h'⟩), Bool.and_false]
    cases b <;> rfl
  · rw [beq_eq_false_iff_ne.2 c]
    cases b <;> rfl
theorem sp_pos0 {l : List Int} (h : ¬ rd l 0 = 45) (h48 : l.length = 0 ∨ (rd l 0 = 48 ∧ 1 < l.length)) : spellB l = false := by
  have e1 : negB l = false := by unfold rd at h; simp only [Int.toNat_zero] at h; unfold negB; rw [beq_eq_false_iff_ne.2 h, Bool.and_false]
  unfold spellB
  rw [if_neg (by simp [e1])]
  unfold plainB
  rcases h48 with h0 | ⟨h0, h1⟩
  · obtain rfl : l = [] := List.eq_nil_of_length_eq_zero h0
    rfl
  · unfold rd at h0
    simp only [Int.toNat_zero] at h0
    rw [beq_iff_eq.2 h0, decide_eq_true h1]
    simp
theorem cut_drop {w : World} (l : List Int) (A : Option Addr) (c : Nat) (hC : Kd.C (Kd.int .u8) w A l.length l) (hc : l.length ≤ c) (m : Nat) (hm : m ≤ l.length) :
    ∃ A' : Option Addr, (∀ W : World, (Instr.slice 22 (.slice A l.length c) (some (.int .i64 (m : Int))) none none).run Tryd.prog W = .ok (.slice A' (l.drop m).length (c - m)) W) ∧ Kd.C (Kd.int .u8) w A' (l.drop m).length (l.drop m) ∧ (l.drop m).length ≤ c - m := by
  obtain ⟨i, hi, hz⟩ : ∃ i, Tryd.prog.info? 5 = some i ∧ i.size = 1 := by
    have := spi
    obtain ⟨i, hi, hz⟩ := Option.map_eq_some_iff.1 this
    simp only [Prod.mk.injEq] at hz
    exact ⟨i, hi, hz.2.1⟩
  obtain ⟨A', h1, h2, h3⟩ := print_drop_of (P := Tryd.prog) (Value.int .u8) (0 : Int) 22 5 .i64 Tryd.underlying22 hi hz A c l m (by omega) (by omega) hc
  rw [Int.toNat_natCast] at h1 h2 h3
  exact ⟨A', h1, Kd.C_of_reads (d := (0 : Int)) (h1 := fun _ => rfl) (h2 w (Kd.reads_of_C (d := (0 : Int)) (h1 := fun _ => rfl) hC)), h3⟩
theorem rd_nil0 : rd [] 0 = 0 := rfl

set_option maxHeartbeats 1600000 in
theorem word_spelling.calls (A0 : Option Addr) (c0 : Nat) (l0 : List Int) (r : Bool) (w : World) (hr0 : Kd.C (Kd.int .u8) w A0 l0.length l0) (hc0 : l0.length ≤ c0) (h : word_spelling.f l0 = some r) :
    Calls Tryd.prog 41 #[.slice A0 l0.length c0] w fun e w' => e = .returned (.bool r) ∧ w = w' := by
  have hlen := hr0.2.1
  have HE := Lib.hid (Option.some.inj h)
  have HR := Lib.hid hr0
  clear h hr0
  by_cases hz : l0.length = 0
  · have HV := Lib.hid (sp_pos0 (l := l0) (by obtain rfl := List.eq_nil_of_length_eq_zero hz; decide) (.inl hz))
    have hz1 : decide ((0 : Int) < (l0.length : Int)) = false := by simp [hz]
    have hz2 : decide (0 < l0.length) = false := by simp [hz]
    have hz3 : ((l0.length : Int) == 0) = true := by simp [hz]
    have hz4 : (l0.length == 0) = true := by simp [hz]
    clear hz
    go_enter Tryd.func41, Tryd.ntmps41
    go_wp2
    go_ret
    exact ⟨congrArg (fun b => Ending.returned (.bool b)) (by rw [← HE.out, HV.out]), rfl⟩
  have hpos : 0 < l0.length := by omega
  have hpos1 : decide ((0 : Int) < (l0.length : Int)) = true := decide_eq_true (by omega)
  have hpos2 : decide (0 < l0.length) = true := decide_eq_true (by omega)
  have hpos3 : ((l0.length : Int) == 0) = false := beq_eq_false_iff_ne.2 (by omega)
  obtain ⟨ad, rfl, hc⟩ := Kd.at_int (xs := l0) HR.out (0 : Int) (Int.le_refl 0) (by exact_mod_cast hpos)
  have hcA : w.cell? ad = some (.int .u8 (rd l0 0)) := by simpa [Addr.add] using hc
  clear hc
  by_cases hneg : rd l0 0 = 45
  · have hn1 : (rd l0 0 == 45) = true := by simp [hneg]
    obtain ⟨A1, hrun, hC1, hl1⟩ := cut_drop l0 (some ad) c0 HR.out hc0 1 (by omega)
    have HN := Lib.hid hneg
    have HRR := Lib.hid hrun
    have H1 := Lib.hid hC1
    have hld : (l0.drop 1).length = l0.length - 1 := by simp
    have hlen1 : (l0.drop 1).length ≤ 9223372036854775807 := by omega
    clear hneg hC1 hrun hld
    have hrun : ∀ W : World, (Instr.slice 22 (.slice (some ad) l0.length c0) (some (.int .i64 1)) none none).run Tryd.prog W = .ok (.slice A1 (l0.drop 1).length (c0 - 1)) W := HRR.out
    generalize hb : l0.drop 1 = b at *
    have HB := Lib.hid hb
    clear hb
    by_cases hz : b.length = 0
    · have HV := Lib.hid (sp_neg0 (l := l0) hpos HN.out (.inl (by rw [HB.out]; exact hz)))
      have hz1 : decide ((0 : Int) < (b.length : Int)) = false := by simp [hz]
      have hz2 : decide (0 < b.length) = false := by simp [hz]
      have hz3 : ((b.length : Int) == 0) = true := by simp [hz]
      have hz4 : (b.length == 0) = true := by simp [hz]
      clear hz
      go_enter Tryd.func41, Tryd.ntmps41
      go_wp2
      go_ret
      exact ⟨congrArg (fun b => Ending.returned (.bool b)) (by rw [← HE.out, HV.out]), rfl⟩
    have hp : 0 < b.length := by omega
    have hp1 : decide ((0 : Int) < (b.length : Int)) = true := decide_eq_true (by omega)
    have hp2 : decide (0 < b.length) = true := decide_eq_true (by omega)
    have hp3 : ((b.length : Int) == 0) = false := beq_eq_false_iff_ne.2 (by omega)
    obtain ⟨ad1, rfl, hc1⟩ := Kd.at_int (xs := b) H1.out (0 : Int) (Int.le_refl 0) (by exact_mod_cast hp)
    have hcB : w.cell? ad1 = some (.int .u8 (rd b 0)) := by simpa [Addr.add] using hc1
    clear hc1 hz
    by_cases h48 : rd b 0 = 48
    · have HV := Lib.hid (sp_neg0 (l := l0) hpos HN.out (.inr (by rw [HB.out]; exact h48)))
      have h1 : (rd b 0 == 48) = true := by simp [h48]
      clear h48
      go_enter Tryd.func41, Tryd.ntmps41
      go_wp2
      go_ret
      exact ⟨congrArg (fun b => Ending.returned (.bool b)) (by rw [← HE.out, HV.out]), rfl⟩
    have h1 : (rd b 0 == 48) = false := by simp [h48]
    have HS : Hid (∀ {x : Bool}, allDig b = x → spellB l0 = x) := Lib.hid (fun hx => sp_neg hpos HN.out (by rw [HB.out]; exact hp) (by rw [HB.out]; exact h48) (by rw [HB.out]; exact hx))
    clear h48
    go_enter Tryd.func41, Tryd.ntmps41
    go_wp2
    go_loop [41] (fun v => ∃ k : Nat, k ≤ b.length ∧ v = .int .i64 k ∧ Aside0 (allDig (b.take k) = true)) (fun v => b.length - (intOf v).toNat)
    case atStart => exact ⟨0, Nat.zero_le _, rfl, ⟨rfl⟩⟩
    case round =>
      obtain ⟨k, hk, rfl, hd⟩ := hrel
      by_cases hlt : k < b.length
      · obtain ⟨ad, had, hc⟩ := Kd.at_int H1.out (k : Int) (by omega) (by omega)
        simp only [Int.toNat_natCast] at hc
        try subst had
        have HD := Lib.hid (allDig_take b k hlt)
        by_cases c1 : rd b k < 48
        · have hf : allDig b = false := allDig_false b k hlt (by unfold rd at c1; simp [isDig]; simp at c1; omega)
          have HF := Lib.hid hf
          clear hf
          go_wp2
          go_ret
          exact ⟨congrArg (fun b => Ending.returned (.bool b)) (by rw [← HE.out, HS.out HF.out]), rfl⟩
        · by_cases c2 : 57 < rd b k
          · have hf : allDig b = false := allDig_false b k hlt (by unfold rd at c2; simp [isDig]; simp at c2; omega)
            have HF := Lib.hid hf
            clear hf
            go_wp2
            go_ret
            exact ⟨congrArg (fun b => Ending.returned (.bool b)) (by rw [← HE.out, HS.out HF.out]), rfl⟩
          · have hg : isDig (b.getD k 0) = true := by unfold rd at c1 c2; rw [isDig_iff]; simp at c1 c2 ⊢; omega
            have HG := Lib.hid hg
            clear hg
            go_wp2
            go_round
            case rel => exact ⟨k + 1, by omega, by go_num, ⟨by rw [HD.out, hd.out, HG.out]; rfl⟩⟩
            case measure => simp [intOf]; omega
      · have hk' : k = b.length := by omega
        subst hk'
        have hd' := hd.out
        rw [List.take_length] at hd'
        have HF := Lib.hid hd'
        clear hd'
        go_wp2
        go_ret
        exact ⟨congrArg (fun b => Ending.returned (.bool b)) (by rw [← HE.out, HS.out HF.out]), rfl⟩
  · have hn1 : (rd l0 0 == 45) = false := by simp [hneg]
    by_cases h48 : rd l0 0 = 48 ∧ 1 < l0.length
    · have HV := Lib.hid (sp_pos0 (l := l0) hneg (.inr h48))
      have h1 : (rd l0 0 == 48) = true := by simp [h48.1]
      have h2 : decide ((1 : Int) < (l0.length : Int)) = true := by have := h48.2; simp; omega
      have h3 : decide (1 < l0.length) = true := by have := h48.2; simp; omega
      clear h48 hneg
      go_enter Tryd.func41, Tryd.ntmps41
      go_wp2
      go_ret
      exact ⟨congrArg (fun b => Ending.returned (.bool b)) (by rw [← HE.out, HV.out]), rfl⟩
    have HS : Hid (∀ {x : Bool}, allDig l0 = x → spellB l0 = x) := Lib.hid (fun hx => sp_pos hpos hneg h48 hx)
    by_cases h4 : rd l0 0 = 48
    · have h1 : (rd l0 0 == 48) = true := by simp [h4]
      have h2 : decide ((1 : Int) < (l0.length : Int)) = false := by have : ¬ 1 < l0.length := fun h' => h48 ⟨h4, h'⟩; simp; omega
      have h3 : decide (1 < l0.length) = false := by have : ¬ 1 < l0.length := fun h' => h48 ⟨h4, h'⟩; simp; omega
      clear h48 hneg h4
      go_enter Tryd.func41, Tryd.ntmps41
      go_wp2
      go_loop [41] (fun v => ∃ k : Nat, k ≤ l0.length ∧ v = .int .i64 k ∧ Aside0 (allDig (l0.take k) = true)) (fun v => l0.length - (intOf v).toNat)
      case atStart => exact ⟨0, Nat.zero_le _, rfl, ⟨rfl⟩⟩
      case round =>
        obtain ⟨k, hk, rfl, hd⟩ := hrel
        by_cases hlt : k < l0.length
        · obtain ⟨ad, had, hc⟩ := Kd.at_int HR.out (k : Int) (by omega) (by omega)
          simp only [Int.toNat_natCast] at hc
          try subst had
          have HD := Lib.hid (allDig_take l0 k hlt)
          by_cases c1 : rd l0 k < 48
          · have hf : allDig l0 = false := allDig_false l0 k hlt (by unfold rd at c1; simp [isDig]; simp at c1; omega)
            have HF := Lib.hid hf
            clear hf
            go_wp2
            go_ret
            exact ⟨congrArg (fun b => Ending.returned (.bool b)) (by rw [← HE.out, HS.out HF.out]), rfl⟩
          · by_cases c2 : 57 < rd l0 k
            · have hf : allDig l0 = false := allDig_false l0 k hlt (by unfold rd at c2; simp [isDig]; simp at c2; omega)
              have HF := Lib.hid hf
              clear hf
              go_wp2
              go_ret
              exact ⟨congrArg (fun b => Ending.returned (.bool b)) (by rw [← HE.out, HS.out HF.out]), rfl⟩
            · have hg : isDig (l0.getD k 0) = true := by unfold rd at c1 c2; rw [isDig_iff]; simp at c1 c2 ⊢; omega
              have HG := Lib.hid hg
              clear hg
              go_wp2
              go_round
              case rel => exact ⟨k + 1, by omega, by go_num, ⟨by rw [HD.out, hd.out, HG.out]; rfl⟩⟩
              case measure => simp [intOf]; omega
        · have hk' : k = l0.length := by omega
          subst hk'
          have hd' := hd.out
          rw [List.take_length] at hd'
          have HF := Lib.hid hd'
          clear hd'
          go_wp2
          go_ret
          exact ⟨congrArg (fun b => Ending.returned (.bool b)) (by rw [← HE.out, HS.out HF.out]), rfl⟩
    · have h1 : (rd l0 0 == 48) = false := by simp [h4]
      clear h48 hneg h4
      go_enter Tryd.func41, Tryd.ntmps41
      go_wp2
      go_loop [41] (fun v => ∃ k : Nat, k ≤ l0.length ∧ v = .int .i64 k ∧ Aside0 (allDig (l0.take k) = true)) (fun v => l0.length - (intOf v).toNat)
      case atStart => exact ⟨0, Nat.zero_le _, rfl, ⟨rfl⟩⟩
      case round =>
        obtain ⟨k, hk, rfl, hd⟩ := hrel
        by_cases hlt : k < l0.length
        · obtain ⟨ad, had, hc⟩ := Kd.at_int HR.out (k : Int) (by omega) (by omega)
          simp only [Int.toNat_natCast] at hc
          try subst had
          have HD := Lib.hid (allDig_take l0 k hlt)
          by_cases c1 : rd l0 k < 48
          · have hf : allDig l0 = false := allDig_false l0 k hlt (by unfold rd at c1; simp [isDig]; simp at c1; omega)
            have HF := Lib.hid hf
            clear hf
            go_wp2
            go_ret
            exact ⟨congrArg (fun b => Ending.returned (.bool b)) (by rw [← HE.out, HS.out HF.out]), rfl⟩
          · by_cases c2 : 57 < rd l0 k
            · have hf : allDig l0 = false := allDig_false l0 k hlt (by unfold rd at c2; simp [isDig]; simp at c2; omega)
              have HF := Lib.hid hf
              clear hf
              go_wp2
              go_ret
              exact ⟨congrArg (fun b => Ending.returned (.bool b)) (by rw [← HE.out, HS.out HF.out]), rfl⟩
            · have hg : isDig (l0.getD k 0) = true := by unfold rd at c1 c2; rw [isDig_iff]; simp at c1 c2 ⊢; omega
              have HG := Lib.hid hg
              clear hg
              go_wp2
              go_round
              case rel => exact ⟨k + 1, by omega, by go_num, ⟨by rw [HD.out, hd.out, HG.out]; rfl⟩⟩
              case measure => simp [intOf]; omega
        · have hk' : k = l0.length := by omega
          subst hk'
          have hd' := hd.out
          rw [List.take_length] at hd'
          have HF := Lib.hid hd'
          clear hd'
          go_wp2
          go_ret
          exact ⟨congrArg (fun b => Ending.returned (.bool b)) (by rw [← HE.out, HS.out HF.out]), rfl⟩
end Go.Proofs.YtdflblegdfpdpaaDoor.PB
