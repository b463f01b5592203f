/- word.Int and word.Uint: the machine's calls answer intS and uintS. -/
import Derived.Test.YtdflblegdfpdpaaDoorSpellW
import Derived.Test.YtdflblegdfpdpaaDoorPAx1
import Derived.Laws.Shifts
import Derived.Laws.Bits64
import Derived.Laws.Externs
import Derived.Test.YtdflblegdfpdpaaDoorNumA
namespace Go.Proofs.YtdflblegdfpdpaaDoor.PB
open Go Go.RowKit Go.Proofs.YtdflblegdfpdpaaDoorW.PrintWords Go.Proofs.YtdflblegdfpdpaaDoorW.PrintLast Go.Proofs.YtdflblegdfpdpaaDoorW.PrintMore Go.Proofs.YtdflblegdfpdpaaDoor.PA Go.Proofs.YtdflblegdfpdpaaDoor.NumS
set_option linter.unusedVariables false

def word_Int.f (l : List Int) : Option (Int × Int) := some (intS l)

theorem negB_of {l : List Int} (h0 : 0 < l.length) (h : rd l 0 = 45) : negB l = true := by
  cases l with
  | nil => simp at h0
  | cons a r => simpa [negB, rd] using h
theorem negB_not {l : List Int} (h : ¬ rd l 0 = 45) : negB l = false := by
  unfold rd at h
  simp only [Int.toNat_zero] at h
  unfold negB
  rw [beq_eq_false_iff_ne.2 h, Bool.and_false]
theorem spell_pos {l : List Int} (h : spellB l = true) : 0 < l.length := by
  cases l with
  | nil => simp [spellB, negB, plainB] at h
  | cons => simp
/-- A spelling's digits, and that it doesn't begin with a 0 but where it is 0 alone. -/
theorem spell_body {l : List Int} (h : spellB l = true) : (∀ c ∈ bodyL l, 48 ≤ c ∧ c ≤ 57) ∧ 0 < (bodyL l).length ∧ (1 < (bodyL l).length → 49 ≤ (bodyL l).getD 0 0) := by
  unfold spellB at h
  unfold bodyL
  by_cases hn : negB l = true
  · rw [if_pos hn] at h ⊢
    simp only [Bool.and_eq_true, Bool.not_eq_true'] at h
    obtain ⟨⟨h1, h2⟩, h3⟩ := h
    have hd := allDig_mem h3
    have hp : 0 < (l.drop 1).length := by
      cases hl : l.drop 1 with
      | nil => rw [hl] at h1; simp at h1
      | cons => simp
    refine ⟨hd, hp, fun _ => ?_⟩
    have h4 := hd _ (List.getElem_mem hp)
    have h5 : (l.drop 1).getD 0 0 = (l.drop 1)[0] := by rw [List.getD_eq_getElem?_getD, List.getElem?_eq_getElem hp]; rfl
    have h6 := beq_eq_false_iff_ne.1 h2
    rw [h5] at h6 ⊢
    omega
  · rw [if_neg hn] at h ⊢
    unfold plainB at h
    simp only [Bool.and_eq_true, Bool.not_eq_true'] at h
    obtain ⟨⟨h1, h2⟩, h3⟩ := h
    have hd := allDig_mem h3
    have hp : 0 < l.length := by
      cases l with
      | nil => simp at h1
      | cons => simp
    refine ⟨hd, hp, fun hl => ?_⟩
    have h4 := hd _ (List.getElem_mem hp)
    have h5 : l.getD 0 0 = l[0] := by rw [List.getD_eq_getElem?_getD, List.getElem?_eq_getElem hp]; rfl
    rw [decide_eq_true hl, Bool.and_true] at h2
    have h6 := beq_eq_false_iff_ne.1 h2
    rw [h5] at h6 ⊢
    omega
theorem body_ge {b : List Int} (hp : 1 < b.length → 49 ≤ b.getD 0 0) (n : Nat) (h : n + 1 < b.length) : 10 ^ (n + 1) ≤ decV b := by
  cases b with
  | nil => simp at h
  | cons c r =>
    have := decV_ge c r (by simpa using hp (by omega))
    have h2 : 10 ^ (n + 1) ≤ 10 ^ r.length := Nat.pow_le_pow_right (by decide) (by simp at h; omega)
    omega

theorem dig_rd {b : List Int} (h : ∀ c ∈ b, 48 ≤ c ∧ c ≤ 57) (k : Nat) (hk : k < b.length) : 48 ≤ rd b k ∧ rd b k ≤ 57 := by
  have : rd b k = b[k] := by unfold rd; rw [Int.toNat_natCast, List.getD_eq_getElem?_getD, List.getElem?_eq_getElem hk]; rfl
  rw [this]
  exact h _ (List.getElem_mem hk)

/-- One digit more. -/
theorem dec_step {b : List Int} (h : ∀ c ∈ b, 48 ≤ c ∧ c ≤ 57) (h19 : b.length ≤ 19) (k : Nat) (hk : k < b.length) :
    decV (b.take k) < 1000000000000000000 ∧ 10 * (decV (b.take k) : Int) + (rd b k - 48) = (decV (b.take (k + 1)) : Int) := by
  have h1 : decV (b.take k) < 10 ^ (b.take k).length := decV_lt (fun c hc => h c (List.mem_of_mem_take hc))
  have h2 : (b.take k).length = k := by rw [List.length_take]; omega
  rw [h2] at h1
  have h3 : (10 : Nat) ^ k ≤ 10 ^ 18 := Nat.pow_le_pow_right (by decide) (by omega)
  have h4 := decV_take b k hk
  have h5 := dig_rd h k hk
  have h6 : rd b k = b.getD k 0 := by unfold rd; rw [Int.toNat_natCast]
  rw [h6] at h5 ⊢
  rw [h4]
  constructor <;> omega

theorem neg_wrap (m : Int) (h0 : 0 ≤ m) (h1 : m ≤ 9223372036854775808) : wrap64 (IntKind.u64.wrap (-m)) = -m := by
  rw [IntKind.wrap_u64]; unfold wrap64; omega

set_option maxHeartbeats 1600000 in
/-- The part of Int behind the sign. -/
theorem int_tail (l0 b : List Int) (neg : Bool) (hb : bodyL l0 = b) (hn : negB l0 = neg) (hs : spellB l0 = true) (A0 : Option Addr) (c0 : Nat) (w : World) (hr0 : Kd.C (Kd.int .u8) w A0 l0.length l0) (hc0 : l0.length ≤ c0) :
    Calls Tryd.prog 32 #[.slice A0 l0.length c0] w fun e w' => e = .returned (.tuple #[.int .i64 (intS l0).1, .int .i64 (intS l0).2]) ∧ w = w' := by
  have hpos := spell_pos hs
  have hlen := hr0.2.1
  have HR := Lib.hid hr0
  have HS := Lib.hid hs
  have HN := Lib.hid hn
  have HB := Lib.hid hb
  clear hr0 hs hn hb
  obtain ⟨ad, rfl, hc⟩ := Kd.at_int (xs := l0) HR.out (0 : Int) (Int.le_refl 0) (by exact_mod_cast hpos)
  have hcA : w.cell? ad = some (.int .u8 (rd l0 0)) := by simpa [Addr.add] using hc
  clear hc
  obtain ⟨hD1, hD2, hD3⟩ := spell_body HS.out
  rw [HB.out] at hD1 hD2 hD3
  have HD1 := Lib.hid hD1
  have HD3 := Lib.hid hD3
  clear hD1 hD3
  cases neg with
  | true =>
    have hz0 : rd l0 0 = 45 := by
      have := HN.out
      unfold negB at this
      cases l0 with
      | nil => simp at hpos
      | cons a r => simpa [rd] using this
    have hz1 : (rd l0 0 == 45) = true := beq_iff_eq.2 hz0
    clear hz0
    obtain ⟨A1, hrun0, hC1, hl1⟩ := cut_drop l0 (some ad) c0 HR.out hc0 1 (by omega)
    have hrun : ∀ W : World, (Instr.slice 22 (.slice (some ad) l0.length c0) (some (.int .i64 1)) none none).run Tryd.prog W = .ok (.slice A1 (l0.drop 1).length (c0 - 1)) W := hrun0
    clear hrun0
    have hbd : l0.drop 1 = b := by have := HB.out; unfold bodyL at this; rw [if_pos HN.out] at this; exact this
    rw [hbd] at hrun hC1 hl1
    have H1 := Lib.hid hC1
    have hlb : b.length ≤ 9223372036854775807 := hC1.2.1
    clear hC1 hbd
    go_enter Tryd.func32, Tryd.ntmps32
    go_wp2_with fail
    refine (word_spelling.calls _ _ l0 true _ HR.out hc0 (congrArg some HS.out)).mono ?_
    rintro e w' ⟨rfl, rfl⟩
    by_cases h19 : 19 < b.length
    · have hge := body_ge HD3.out 18 (by omega)
      have hI : intS l0 = (0, 13) := by
        unfold intS
        rw [if_pos HS.out, if_pos HN.out, HB.out, if_neg (by omega)]
      have HI := Lib.hid hI
      clear hge hI
      go_wp2_with fail
      go_ret2
      exact ⟨by rw [HI.out]; rfl, rfl⟩
    go_wp2
    have HST : Hid (∀ k, k < b.length → decV (b.take k) < 1000000000000000000 ∧ 10 * (decV (b.take k) : Int) + (rd b k - 48) = (decV (b.take (k + 1)) : Int)) := Lib.hid (fun k hk => dec_step HD1.out (by omega) k hk)
    go_loop [5, 23] (fun v i => ∃ (k : Nat) (m : Int), k ≤ b.length ∧ i = .int .i64 k ∧ v = .int .u64 m ∧ 0 ≤ m ∧ m < 10000000000000000000 ∧ Aside0 (m = (decV (b.take k) : Int))) (fun _ i => b.length - (intOf i).toNat)
    case atStart => exact ⟨0, 0, Nat.zero_le _, rfl, rfl, by omega, by omega, ⟨rfl⟩⟩
    case round =>
      obtain ⟨k, m, hk, rfl, rfl, hm0, hm1, hm⟩ := hrel
      by_cases hlt : k < b.length
      · obtain ⟨ad1, had, hc⟩ := Kd.at_int (xs := b) H1.out (k : Int) (by omega) (by omega)
        simp only [Int.toNat_natCast] at hc
        try subst had
        obtain ⟨hd1, hd2⟩ := dig_rd HD1.out k hlt
        obtain ⟨hs1, hs2⟩ := HST.out k hlt
        rw [← hm.out] at hs2
        have hs3 : m < 1000000000000000000 := by rw [hm.out]; omega
        have HS2 := Lib.hid hs2
        clear hs1 hs2
        go_wp2
        go_round
        case rel => exact ⟨k + 1, 10 * m + (rd b k - 48), by omega, by go_num, by go_num, by omega, by omega, ⟨HS2.out⟩⟩
        case measure => simp [intOf]; omega
      · have hk' : k = b.length := by omega
        subst hk'
        have hmv := hm.out
        rw [List.take_length] at hmv
        have HM := Lib.hid hmv
        clear hmv
        by_cases hbig : m ≤ 9223372036854775808
        · have hI : intS l0 = (-m, 0) := by
            unfold intS
            rw [if_pos HS.out, if_pos HN.out, HB.out, if_pos (by have := HM.out; omega), ← HM.out]
          have HI := Lib.hid hI
          clear hI
          have hb1 : decide (m ≤ 9223372036854775808) = true := decide_eq_true hbig
          go_wp2
          go_ret2
          refine ⟨?_, rfl⟩
          rw [HI.out]
          show Ending.returned (.tuple #[.int .i64 (wrap64 (IntKind.u64.wrap (-m))), .int .i64 0]) = _
          rw [neg_wrap m hm0 hbig]
        · have hI : intS l0 = (0, 13) := by
            unfold intS
            rw [if_pos HS.out, if_pos HN.out, HB.out, if_neg (by have := HM.out; omega)]
          have HI := Lib.hid hI
          clear hI
          have hb1 : decide (m ≤ 9223372036854775808) = false := decide_eq_false hbig
          go_wp2
          go_ret2
          exact ⟨by rw [HI.out]; rfl, rfl⟩

  | false =>
    have hz0 : ¬ rd l0 0 = 45 := by
      have := HN.out
      unfold negB at this
      cases l0 with
      | nil => simp at hpos
      | cons a r => simpa [rd] using this
    have hz1 : (rd l0 0 == 45) = false := beq_eq_false_iff_ne.2 hz0
    clear hz0
    obtain rfl : l0 = b := by have := HB.out; unfold bodyL at this; rw [if_neg (by rw [HN.out]; simp)] at this; exact this
    go_enter Tryd.func32, Tryd.ntmps32
    go_wp2_with fail
    refine (word_spelling.calls _ _ l0 true _ HR.out hc0 (congrArg some HS.out)).mono ?_
    rintro e w' ⟨rfl, rfl⟩
    by_cases h19 : 19 < l0.length
    · have hge := body_ge HD3.out 18 (by omega)
      have hI : intS l0 = (0, 13) := by
        unfold intS
        rw [if_pos HS.out, if_neg (by rw [HN.out]; simp), HB.out, if_neg (by omega)]
      have HI := Lib.hid hI
      clear hge hI
      go_wp2_with fail
      go_ret2
      exact ⟨by rw [HI.out]; rfl, rfl⟩
    go_wp2
    have HST : Hid (∀ k, k < l0.length → decV (l0.take k) < 1000000000000000000 ∧ 10 * (decV (l0.take k) : Int) + (rd l0 k - 48) = (decV (l0.take (k + 1)) : Int)) := Lib.hid (fun k hk => dec_step HD1.out (by omega) k hk)
    go_loop [5, 23] (fun v i => ∃ (k : Nat) (m : Int), k ≤ l0.length ∧ i = .int .i64 k ∧ v = .int .u64 m ∧ 0 ≤ m ∧ m < 10000000000000000000 ∧ Aside0 (m = (decV (l0.take k) : Int))) (fun _ i => l0.length - (intOf i).toNat)
    case atStart => exact ⟨0, 0, Nat.zero_le _, rfl, rfl, by omega, by omega, ⟨rfl⟩⟩
    case round =>
      obtain ⟨k, m, hk, rfl, rfl, hm0, hm1, hm⟩ := hrel
      by_cases hlt : k < l0.length
      · obtain ⟨ad1, had, hc⟩ := Kd.at_int (xs := l0) HR.out (k : Int) (by omega) (by omega)
        simp only [Int.toNat_natCast] at hc
        try subst had
        obtain ⟨hd1, hd2⟩ := dig_rd HD1.out k hlt
        obtain ⟨hs1, hs2⟩ := HST.out k hlt
        rw [← hm.out] at hs2
        have hs3 : m < 1000000000000000000 := by rw [hm.out]; omega
        have HS2 := Lib.hid hs2
        clear hs1 hs2
        go_wp2
        go_round
        case rel => exact ⟨k + 1, 10 * m + (rd l0 k - 48), by omega, by go_num, by go_num, by omega, by omega, ⟨HS2.out⟩⟩
        case measure => simp [intOf]; omega
      · have hk' : k = l0.length := by omega
        subst hk'
        have hmv := hm.out
        rw [List.take_length] at hmv
        have HM := Lib.hid hmv
        clear hmv
        by_cases hbig : m < 9223372036854775808
        · have hI : intS l0 = (m, 0) := by
            unfold intS
            rw [if_pos HS.out, if_neg (by rw [HN.out]; simp), HB.out, if_pos (by have := HM.out; omega), ← HM.out]
          have HI := Lib.hid hI
          clear hI
          have hb1 : decide (m < 9223372036854775808) = true := decide_eq_true hbig
          go_wp2
          go_ret2
          exact ⟨by rw [HI.out]; rfl, rfl⟩
        · have hI : intS l0 = (0, 13) := by
            unfold intS
            rw [if_pos HS.out, if_neg (by rw [HN.out]; simp), HB.out, if_neg (by have := HM.out; omega)]
          have HI := Lib.hid hI
          clear hI
          have hb1 : decide (m < 9223372036854775808) = false := decide_eq_false hbig
          go_wp2
          go_ret2
          exact ⟨by rw [HI.out]; rfl, rfl⟩

theorem word_Int.calls (A0 : Option Addr) (c0 : Nat) (l0 : List Int) (r1 : Int) (r2 : Int) (w : World) (hr0 : Kd.C (Kd.int .u8) w A0 l0.length l0) (hc0 : l0.length ≤ c0) (h : word_Int.f l0 = some (r1, r2)) :
    Calls Tryd.prog 32 #[.slice A0 l0.length c0] w fun e w' => e = .returned (.tuple #[.int .i64 r1, .int .i64 r2]) ∧ Drawn0 w w' := by
  have h' := Option.some.inj h
  have e1 : (intS l0).1 = r1 := by rw [h']
  have e2 : (intS l0).2 = r2 := by rw [h']
  subst e1 e2
  by_cases hs : spellB l0 = true
  · refine (int_tail l0 _ _ rfl rfl hs A0 c0 w hr0 hc0).mono ?_
    rintro e w' ⟨he, rfl⟩
    exact ⟨he, Drawn0.refl _⟩
  · have hs' : spellB l0 = false := by simpa using hs
    have HI := Lib.hid (show intS l0 = (0, 12) by unfold intS; rw [if_neg hs])
    have HS := Lib.hid hs'
    have HR := Lib.hid hr0
    clear hs hs' hr0 h h'
    go_enter Tryd.func32, Tryd.ntmps32
    go_wp2_with fail
    refine (word_spelling.calls _ _ l0 false _ HR.out hc0 (congrArg some HS.out)).mono ?_
    rintro e w' ⟨rfl, rfl⟩
    go_wp2
    go_ret2
    exact ⟨by rw [HI.out]; rfl, Drawn0.refl _⟩

end Go.Proofs.YtdflblegdfpdpaaDoor.PB
