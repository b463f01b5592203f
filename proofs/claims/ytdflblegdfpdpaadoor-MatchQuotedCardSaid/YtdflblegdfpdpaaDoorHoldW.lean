/- larderlaw9.holdsAt and Eq: the machine's calls. -/
import Derived.Test.YtdflblegdfpdpaaDoorPEx5
import Derived.Test.YtdflblegdfpdpaaDoorRefE
import Derived.Test.YtdflblegdfpdpaaDoorScoreW
namespace Go.Proofs.YtdflblegdfpdpaaDoor.HoldW
open Go Go.RowKit Go.Proofs.YtdflblegdfpdpaaDoorW.PrintWords Go.Proofs.YtdflblegdfpdpaaDoorW.PrintLast Go.Proofs.YtdflblegdfpdpaaDoorW.PrintMore Go.Proofs.YtdflblegdfpdpaaDoor.PE Go.Proofs.YtdflblegdfpdpaaDoor.QuoteS Go.Proofs.YtdflblegdfpdpaaDoor.RefE
set_option linter.unusedVariables false
set_option maxRecDepth 100000

theorem eq.calls (A : Option Addr) (c : Nat) (a : List Int) (A1 : Option Addr) (c1 : Nat) (b : List Int) (w : World) (hr : Kd.C (Kd.int .u8) w A a.length a) (hc : a.length ≤ c) (hr1 : Kd.C (Kd.int .u8) w A1 b.length b) (hc1 : b.length ≤ c1) (hn : a.length ≤ 140737488355328) :
    Calls Tryd.prog 15 #[.slice A a.length c, .slice A1 b.length c1] w fun e w' => e = .returned (.bool (decide (a = b))) ∧ Below w.heap.size w w' := by
  obtain ⟨k, hk⟩ := Ev.rounds (RefE.eq a b hn)
  exact (larderref0_Eq.calls k A c a A1 c1 b _ w hr hc hr1 hc1 hk).mono fun e w' h => ⟨h.1, h.2.below⟩

theorem cut_mid (l : List Int) (A : Option Addr) (c : Nat) (hc : l.length ≤ c) (a b : Nat) (h1 : a ≤ b) (hb : b ≤ l.length) :
    ∃ A' : Option Addr, (∀ W : World, (Instr.slice 22 (.slice A l.length c) (some (.int .i64 (a : Int))) (some (.int .i64 (b : Int))) none).run Tryd.prog W = .ok (.slice A' ((l.take b).drop a).length (c - a)) W) ∧ (∀ w : World, Kd.C (Kd.int .u8) w A l.length l → Kd.C (Kd.int .u8) w A' ((l.take b).drop a).length ((l.take b).drop a)) ∧ ((l.take b).drop a).length ≤ c - a := by
  obtain ⟨i, hi, hz⟩ : ∃ i, Tryd.prog.info? 5 = some i ∧ i.size = 1 := by
    obtain ⟨i, hi, hz⟩ := Option.map_eq_some_iff.1 PB.spi
    simp only [Prod.mk.injEq] at hz
    exact ⟨i, hi, hz.2.1⟩
  obtain ⟨A', h1, h2, h3⟩ := print_mid_int (P := Tryd.prog) (k := .u8) 22 5 Tryd.underlying22 hi hz A c l a b (by omega) (by omega) (by omega) hc
  rw [Int.toNat_natCast, Int.toNat_natCast] at h1 h2 h3
  exact ⟨A', h1, fun w hC => Kd.C_of_reads (d := (0 : Int)) (h1 := fun _ => rfl) (h2 w (Kd.reads_of_C (d := (0 : Int)) (h1 := fun _ => rfl) hC)), h3⟩

set_option maxHeartbeats 1600000 in
theorem holdsAt.calls (A : Option Addr) (c : Nat) (u : List Int) (A1 : Option Addr) (c1 : Nat) (t : List Int) (a : Int) (w : World) (hr : Kd.C (Kd.int .u8) w A u.length u) (hc : u.length ≤ c) (hr1 : Kd.C (Kd.int .u8) w A1 t.length t) (hc1 : t.length ≤ c1) (hu : u.length ≤ 1000) (ht : t.length ≤ 1000) (ha : -1000 ≤ a ∧ a ≤ 1000) :
    Calls Tryd.prog 13 #[.slice A u.length c, .slice A1 t.length c1, .int .i64 a] w fun e w' => e = .returned (.bool (decide (0 ≤ a ∧ atP u t a.toNat))) ∧ Below w.heap.size w w' := by
  by_cases h0 : 0 ≤ a
  · obtain ⟨i, rfl⟩ := Int.eq_ofNat_of_zero_le h0
    have hv : wrap64 ((i : Int) + (t.length : Int)) = (i : Int) + t.length := by unfold wrap64; omega
    by_cases h1 : i + t.length ≤ u.length
    · obtain ⟨A', hrun, hC, hc'⟩ := cut_mid u A c hc i (i + t.length) (by omega) h1
      have hrun : ∀ W : World, (Instr.slice 22 (.slice A u.length c) (some (.int .i64 (i : Int))) (some (.int .i64 ((i : Int) + (t.length : Int)))) none).run Tryd.prog W = .ok (.slice A' ((u.take (i + t.length)).drop i).length (c - i)) W := hrun
      have he := eq.calls A' (c - i) ((u.take (i + t.length)).drop i) A1 c1 t w (hC w hr) hc' hr1 hc1 (by rw [List.length_drop, List.length_take]; omega)
      have hd : decide ((u.take (i + t.length)).drop i = t) = decide (0 ≤ (i : Int) ∧ atP u t ((i : Int)).toNat) := by
        rw [decide_eq_decide, Int.toNat_natCast]
        unfold atP
        rw [List.drop_take, show i + t.length - i = t.length by omega]
        constructor
        · intro h; exact ⟨h0, by omega, h⟩
        · intro h; exact h.2.2
      rw [hd] at he
      have d1 : decide ((i : Int) + (t.length : Int) ≤ u.length) = true := decide_eq_true (by omega)
      have d1' : decide (i + t.length ≤ u.length) = true := decide_eq_true h1
      have d0 : decide (0 ≤ (i : Int)) = true := decide_eq_true h0
      have x1 : (0 : Int) ≤ (i : Int) + (t.length : Int) := by omega
      have x2 : (i : Int) ≤ (i : Int) + (t.length : Int) := by omega
      generalize (u.take (i + t.length)).drop i = y at *
      generalize decide (0 ≤ (i : Int) ∧ atP u t ((i : Int)).toNat) = r at *
      clear hC hd hr hr1
      go_enter Tryd.func13, Tryd.ntmps13
      go_wp2_with fail
      refine he.mono ?_
      rintro e w' ⟨rfl, hb⟩
      go_wp2
      go_ret
      exact ⟨rfl, hb⟩
    · have d1 : decide ((i : Int) + (t.length : Int) ≤ u.length) = false := decide_eq_false (by omega)
      have d1' : decide (i + t.length ≤ u.length) = false := decide_eq_false h1
      have d0 : decide (0 ≤ (i : Int)) = true := decide_eq_true h0
      have hf : decide (0 ≤ (i : Int) ∧ atP u t ((i : Int)).toNat) = false := decide_eq_false (by rintro ⟨_, h, _⟩; rw [Int.toNat_natCast] at h; omega)
      rw [hf]
      clear hf hr hr1
      go_enter Tryd.func13, Tryd.ntmps13
      go_wp2
      go_ret
      exact ⟨rfl, Below.refl _ _⟩
  · have d0 : decide (0 ≤ a) = false := decide_eq_false h0
    have hf : decide (0 ≤ a ∧ atP u t a.toNat) = false := decide_eq_false (fun h => h0 h.1)
    rw [hf]
    clear hf hr hr1
    go_enter Tryd.func13, Tryd.ntmps13
    go_wp2
    go_ret
    exact ⟨rfl, Below.refl _ _⟩
end Go.Proofs.YtdflblegdfpdpaaDoor.HoldW
