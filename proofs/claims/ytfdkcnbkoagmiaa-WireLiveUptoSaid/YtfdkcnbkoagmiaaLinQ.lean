/- Layer 8: blank, hex, escape, quoted (printed) in plain words. -/
import Derived.Test.YtfdkcnbkoagmiaaLinS
import Derived.Test.YtfdkcnbkoagmiaaPAx1
import Derived.Test.YtfdkcnbkoagmiaaPAx4
namespace Go.Proofs.Ytfdkcnbkoagmiaa.LinQ
open Go Go.RowKit Go.Proofs.YtfdkcnbkoagmiaaW.PrintWords Go.Proofs.YtfdkcnbkoagmiaaW.PrintLast Go.Proofs.YtfdkcnbkoagmiaaW.PrintMore Go.Proofs.Ytfdkcnbkoagmiaa.PA Go.Proofs.Ytfdkcnbkoagmiaa.LinS
set_option linter.unusedVariables false
set_option maxRecDepth 100000

theorem blank_f (c : Int) : wire_blank.f c = some (LinS.blank c) := by
  unfold wire_blank.f LinS.blank
  by_cases h1 : c ≥ 9
  · by_cases h2 : c ≤ 13
    · rw [if_pos h1, if_pos h2, decide_eq_true (by omega)]
    · rw [if_pos h1, if_neg h2]
      congr 1
      by_cases h3 : c = 32
      · subst h3; rfl
      · rw [decide_eq_false (by omega)]
        simpa using h3
  · rw [if_neg h1]
    congr 1
    by_cases h3 : c = 32
    · subst h3; rfl
    · rw [decide_eq_false (by omega)]
      simpa using h3
theorem hex_f (c : Int) (h : 0 ≤ c ∧ c < 256) (k : Nat) : wire_hex.f (k + 2) c = some (hexv c) := by
  have j1 : ∀ b : Bool, wire_hex.j1 (k + 1) c b = if b = true then some ((c - 97) % 256 + 10) else if c ≥ 65 then (if c ≤ 70 then some ((c - 65) % 256 + 10) else some (-1)) else some (-1) := fun b => by rw [wire_hex.j1]
  unfold wire_hex.f hexv
  have j0 : ∀ b : Bool, wire_hex.j0 (k + 2) c b = if b = true then some ((c - 48) % 256) else if c ≥ 97 then wire_hex.j1 (k + 1) c (decide (c ≤ 102)) else wire_hex.j1 (k + 1) c false := fun b => by rw [wire_hex.j0]
  simp only [j0, j1]
  by_cases a1 : c ≥ 48
  · by_cases a2 : c ≤ 57
    · simp only [if_pos a1, decide_eq_true a2, if_true]
      rw [if_pos ⟨by omega, a2⟩]
      congr 1; omega
    · rw [if_neg (show ¬ (48 ≤ c ∧ c ≤ 57) by omega)]
      simp only [if_pos a1, decide_eq_false a2, Bool.false_eq_true, if_false]
      by_cases b1 : c ≥ 97
      · by_cases b2 : c ≤ 102
        · simp only [if_pos b1, decide_eq_true b2, if_true]
          rw [if_pos ⟨by omega, b2⟩]
          congr 1; omega
        · simp only [if_pos b1, decide_eq_false b2, Bool.false_eq_true, if_false]
          rw [if_neg (show ¬ (97 ≤ c ∧ c ≤ 102) by omega), if_neg (show ¬ (65 ≤ c ∧ c ≤ 70) by omega), if_pos (show c ≥ 65 by omega), if_neg (show ¬ c ≤ 70 by omega)]
      · simp only [if_neg b1]
        rw [if_neg (show ¬ (97 ≤ c ∧ c ≤ 102) by omega)]
        by_cases c1 : c ≥ 65
        · by_cases c2 : c ≤ 70
          · rw [if_pos c1, if_pos c2, if_pos ⟨by omega, c2⟩]
            congr 1; omega
          · rw [if_pos c1, if_neg c2, if_neg (by omega)]
        · rw [if_neg c1, if_neg (by omega)]
  · simp only [if_neg a1, Bool.false_eq_true, if_false, if_neg (show ¬ c ≥ 97 by omega)]
    rw [if_neg (by omega), if_neg (by omega), if_neg (by omega), if_neg (by omega)]
theorem hexv_le (c : Int) : hexv c < 16 := by unfold hexv; repeat' split
                                              all_goals omega
theorem esc_f (d : Int) (r : List Int) (hd : 0 ≤ d ∧ d < 256) (hr : inB r) (k : Nat) : wire_escape.f (k + 2) (d :: r) = some ((esc d r).1, ((esc d r).2 : Int)) := by
  unfold wire_escape.f
  rw [if_pos (by simp only [List.length_cons]; omega), show rd (d :: r) 0 = d from rfl]
  unfold esc
  by_cases h1 : d = 110
  · rw [if_pos h1, if_pos h1]; rfl
  rw [if_neg h1, if_neg h1]
  by_cases h2 : d = 114
  · rw [if_pos h2, if_pos h2]; rfl
  rw [if_neg h2, if_neg h2]
  by_cases h3 : d = 116
  · rw [if_pos h3, if_pos h3]; rfl
  rw [if_neg h3, if_neg h3]
  by_cases h4 : d = 98
  · rw [if_pos h4, if_pos h4]; rfl
  rw [if_neg h4, if_neg h4]
  by_cases h5 : d = 97
  · rw [if_pos h5, if_pos h5]; rfl
  rw [if_neg h5, if_neg h5]
  by_cases h6 : d = 120
  · rw [if_pos h6, if_pos h6]
    match r, hr with
    | [], _ => rfl
    | [x], _ => rfl
    | h :: l :: r, hr =>
      have hh := hr h (by simp)
      have hl := hr l (by simp)
      have e3 : ((d :: h :: l :: r).length : Int) > 2 := by simp only [List.length_cons]; omega
      rw [if_pos e3, if_pos (by omega), show rd (d :: h :: l :: r) 1 = h from rfl, show rd (d :: h :: l :: r) 2 = l from rfl, hex_f h hh, hex_f l hl]
      simp only [Option.bind_some]
      rw [if_pos (show (2 : Int) < _ from e3)]
      have := hexv_le h
      have := hexv_le l
      by_cases g1 : hexv h ≥ 0
      · by_cases g2 : hexv l ≥ 0
        · rw [if_pos g1, if_pos g2, if_pos ⟨g1, g2⟩]
          unfold wrap64
          simp only [Option.some.injEq, Prod.mk.injEq]
          exact ⟨by omega, rfl⟩
        · rw [if_pos g1, if_neg g2, if_neg (fun h => g2 h.2)]
          rfl
      · rw [if_neg g1, if_neg (fun h => g1 h.1)]
        rfl
  · rw [if_neg h6, if_neg h6]; rfl
/-- What quoted answers. -/
def qans (o : Option (List Int × Nat)) : List Int × Int := match o with | none => ([], 0) | some (p, n) => (p, n)
theorem esc_byte (d : Int) (r : List Int) (hd : 0 ≤ d ∧ d < 256) : 0 ≤ (esc d r).1 ∧ (esc d r).1 < 256 := by
  unfold esc
  repeat' split
  all_goals first | omega | (simp only; omega) | skip
  all_goals (next h l _ g => have := hexv_le h; have := hexv_le l; constructor <;> (simp only; omega))
theorem wr1 (n : Nat) (h : n ≤ 2000000000) : wrap64 ((n : Int) + 1) = ((n + 1 : Nat) : Int) := by unfold wrap64; omega
theorem wr2 (i n : Nat) (h : i ≤ 1000000000) (h2 : n ≤ 3) : wrap64 (wrap64 ((i : Int) + (n : Int)) + 1) = ((i + 1 + n : Nat) : Int) := by unfold wrap64; omega
theorem quoted_l (x : List Int) (hx : inB x) (hlen : x.length ≤ 1000000000) (q : Int) (hq : q = 34 ∨ q = 39) : ∀ (m : Nat) (i : Nat) (w : List Int) (k : Nat), x.length - i ≤ m → i ≤ x.length → w.length ≤ i → m + 3 ≤ k → wire_quoted.l0 k x q w (i : Int) = some (qans (qd q (x.drop i) w i)) := by
  intro m
  induction m with
  | zero =>
    intro i w k hm hi hw hk
    obtain ⟨k, rfl⟩ : ∃ k', k = k' + 1 := ⟨k - 1, by omega⟩
    rw [wire_quoted.l0, if_neg (by omega), List.drop_of_length_le (by omega), qd.eq_def]
    rfl
  | succ m ih =>
    intro i w k hm hi hw hk
    obtain ⟨k, rfl⟩ : ∃ k', k = k' + 1 := ⟨k - 1, by omega⟩
    rw [wire_quoted.l0]
    by_cases h : i < x.length
    · have hc := hx x[i] (List.getElem_mem h)
      have hrd : rd x (i : Int) = x[i] := by
        show x.getD (i : Int).toNat 0 = _
        rw [Int.toNat_natCast, List.getD_eq_getElem?_getD, List.getElem?_eq_getElem h]; rfl
      rw [if_pos (by omega), if_pos (by omega), hrd, List.drop_eq_getElem_cons h, qd.eq_def, wr1 i (by omega)]
      dsimp only
      by_cases h1 : x[i] = q
      · rw [if_pos h1, if_pos h1]; rfl
      rw [if_neg h1, if_neg h1]
      have hw1 : (w ++ [x[i]]).length ≤ i + 1 := by rw [List.length_append, List.length_singleton]; omega
      by_cases h2 : x[i] = 92
      · rw [if_pos h2, if_neg (Decidable.not_not.2 h2)]
        by_cases h3 : i + 1 < x.length
        · have hd := hx x[i + 1] (List.getElem_mem h3)
          have hrd1 : rd x ((i + 1 : Nat) : Int) = x[i + 1] := by
            show x.getD ((i + 1 : Nat) : Int).toNat 0 = _
            rw [Int.toNat_natCast, List.getD_eq_getElem?_getD, List.getElem?_eq_getElem h3]; rfl
          rw [List.drop_eq_getElem_cons h3]
          dsimp only
          by_cases h4 : q = 39
          · have p1 : ((i + 1 : Nat) : Int) < (x.length : Int) := by omega
            have p2 : (0 : Int) ≤ ((i + 1 : Nat) : Int) := by omega
            have p3 : w.length < 140737488355328 := by omega
            rw [if_pos h4, if_pos h4, if_pos p1, if_pos p2, hrd1, wr1 (i + 1) (by omega)]
            by_cases h5 : x[i + 1] = 39
            · rw [if_pos h5, if_pos h5, if_pos p3]
              exact ih (i + 2) _ k (by omega) (by omega) (by rw [List.length_append, List.length_singleton]; omega) (by omega)
            · rw [if_neg h5, if_neg h5, if_pos p3, ← List.drop_eq_getElem_cons h3, h2]
              exact ih (i + 1) _ k (by omega) (by omega) (by rw [List.length_append, List.length_singleton]; omega) (by omega)
          · have p1 : ¬ ((i + 1 : Nat) : Int) = (x.length : Int) := by omega
            have p2 : (0 : Int) ≤ ((i + 1 : Nat) : Int) := by omega
            have p4 : ((i + 1 : Nat) : Int) ≤ (x.length : Int) := by omega
            have p3 : w.length < 140737488355328 := by omega
            rw [if_neg h4, if_neg h4, if_neg p1, if_pos p2, if_pos p4, Int.toNat_natCast, List.drop_eq_getElem_cons h3]
            obtain ⟨k2, rfl⟩ : ∃ k', k = k' + 2 := ⟨k - 2, by omega⟩
            rw [esc_f _ _ hd (fun y hy => hx y (List.mem_of_mem_drop hy))]
            have hp := esc_pos x[i + 1] (x.drop (i + 1 + 1))
            have hl := esc_len x[i + 1] (x.drop (i + 1 + 1))
            rw [List.length_drop] at hl
            generalize esc x[i + 1] (x.drop (i + 1 + 1)) = E at hp hl ⊢
            obtain ⟨v, n⟩ := E
            simp only [Option.bind_some] at hp hl ⊢
            have e4 : (x.drop (i + 1 + 1)).drop (n - 1) = x.drop (i + 1 + n) := by rw [List.drop_drop]; congr 1; omega
            rw [if_pos p3, wr2 i n (by omega) (by omega), e4]
            exact ih _ _ (k2 + 2) (by omega) (by omega) (by rw [List.length_append, List.length_singleton]; omega) (by omega)
        · have e0 : x.drop (i + 1) = [] := List.drop_of_length_le (by omega)
          rw [e0]
          dsimp only
          by_cases h4 : q = 39
          · have p1 : ¬ ((i + 1 : Nat) : Int) < (x.length : Int) := by omega
            have p3 : w.length < 140737488355328 := by omega
            rw [if_pos h4, if_neg p1, if_pos p3]
            obtain ⟨k2, rfl⟩ : ∃ k', k = k' + 1 := ⟨k - 1, by omega⟩
            rw [wire_quoted.l0, if_neg (by omega)]
            rfl
          · have p1 : ((i + 1 : Nat) : Int) = (x.length : Int) := by omega
            rw [if_neg h4, if_pos p1]
            rfl
      · have p3 : w.length < 140737488355328 := by omega
        rw [if_neg h2, if_pos h2, if_pos p3]
        exact ih (i + 1) _ k (by omega) (by omega) hw1 (by omega)
    · rw [if_neg (by omega), List.drop_of_length_le (by omega), qd.eq_def]
      rfl
theorem quoted_f (q : Int) (r : List Int) (hq : q = 34 ∨ q = 39) (hr : inB r) (hlen : r.length ≤ 900000000) : wire_quoted.f (r.length + 5) (q :: r) = some (qans (qd q r [] 1)) := by
  unfold wire_quoted.f
  rw [if_pos (by simp only [List.length_cons]; omega), show rd (q :: r) 0 = q from rfl]
  exact quoted_l (q :: r) (fun y hy => by rcases List.mem_cons.1 hy with rfl | hy; omega; exact hr y hy) (by simp only [List.length_cons]; omega) q hq (r.length + 1) 1 [] _ (by simp) (by simp) (by simp) (by omega)
end Go.Proofs.Ytfdkcnbkoagmiaa.LinQ
