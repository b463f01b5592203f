/- Layer 8: Cmp, Eq, EqLists (printed) in plain words. (Out of RefE.) -/
import Derived.Test.YtfdkcnbkoagmiaaPAx7
import Derived.Test.YtfdkcnbkoagmiaaPAx8
namespace Go.Proofs.Ytfdkcnbkoagmiaa.CmpR
open Go Go.RowKit Go.Proofs.YtfdkcnbkoagmiaaW.PrintWords Go.Proofs.YtfdkcnbkoagmiaaW.PrintLast Go.Proofs.YtfdkcnbkoagmiaaW.PrintMore Go.Proofs.Ytfdkcnbkoagmiaa.PA
set_option linter.unusedVariables false
set_option maxRecDepth 100000

theorem rd_get {l : List Int} {i : Nat} (h : i < l.length) : rd l (i : Int) = l[i] := by
  unfold rd
  rw [Int.toNat_natCast, List.getD_eq_getElem?_getD, List.getElem?_eq_getElem h]
  rfl
theorem w1 (i : Nat) (h : i < 9223372036854775807) : wrap64 ((i : Int) + 1) = ((i + 1 : Nat) : Int) := by unfold wrap64; omega
/-- Bytes compared, the lesser byte first, a text ahead of its continuations. -/
def cmpL : List Int → List Int → Int
  | [], [] => 0
  | [], _ :: _ => -1
  | _ :: _, [] => 1
  | x :: a, y :: b => if x < y then -1 else if x > y then 1 else cmpL a b
theorem cmpL_zero : ∀ a b : List Int, cmpL a b = 0 ↔ a = b
  | [], [] => by simp [cmpL]
  | [], _ :: _ => by simp [cmpL]
  | _ :: _, [] => by simp [cmpL]
  | x :: a, y :: b => by
    have := cmpL_zero a b
    unfold cmpL
    split
    · simp; omega
    · split
      · simp; omega
      · rw [this]; simp; omega
theorem cmp_at (a b : List Int) (hn : a.length ≤ 140737488355328) (d : Nat) : ∀ i : Nat, i + d = a.length → i ≤ b.length → Ev (fun k => larderref0_Cmp.l0 k a b i) (cmpL (a.drop i) (b.drop i)) := by
  induction d with
  | zero =>
    intro i hi hb
    have ea : a.drop i = [] := List.drop_eq_nil_of_le (by omega)
    by_cases hl : i < b.length
    · refine Ev.step (f := fun k => larderref0_Cmp.j1 k a b i false) (fun k => by simp only [larderref0_Cmp.l0]; rw [if_neg (by omega)]) (Ev.step (f := fun _ => some (-1)) (fun k => by simp only [larderref0_Cmp.j1]; rw [if_neg (by simp), if_pos (by omega)]) ?_)
      rw [ea, List.drop_eq_getElem_cons hl]
      exact Ev.now _
    · have eb : b.drop i = [] := List.drop_eq_nil_of_le (by omega)
      refine Ev.step (f := fun k => larderref0_Cmp.j1 k a b i false) (fun k => by simp only [larderref0_Cmp.l0]; rw [if_neg (by omega)]) (Ev.step (f := fun _ => some 0) (fun k => by simp only [larderref0_Cmp.j1]; rw [if_neg (by simp), if_neg (by omega), if_neg (by omega)]) ?_)
      rw [ea, eb]
      exact Ev.now _
  | succ d ih =>
    intro i hi hb
    have hia : i < a.length := by omega
    by_cases hl : i < b.length
    · rw [List.drop_eq_getElem_cons hia, List.drop_eq_getElem_cons hl]
      refine Ev.step (f := fun k => larderref0_Cmp.j1 k a b i true) (fun k => by simp only [larderref0_Cmp.l0]; rw [if_pos (by omega), decide_eq_true (show (i : Int) < b.length by omega)]) ?_
      by_cases h1 : a[i] < b[i]
      · refine Ev.step (f := fun _ => some (-1)) (fun k => by simp only [larderref0_Cmp.j1, if_true]; rw [if_pos (by omega), if_pos (by omega), if_pos (by omega), rd_get hia, rd_get hl, if_pos h1]) ?_
        unfold cmpL; rw [if_pos h1]; exact Ev.now _
      · by_cases h2 : a[i] > b[i]
        · refine Ev.step (f := fun _ => some 1) (fun k => by simp only [larderref0_Cmp.j1, if_true]; rw [if_pos (by omega), if_pos (by omega), if_pos (by omega), rd_get hia, rd_get hl, if_neg h1, if_pos h2]) ?_
          unfold cmpL; rw [if_neg h1, if_pos h2]; exact Ev.now _
        · refine Ev.step (f := fun k => larderref0_Cmp.l0 k a b ((i + 1 : Nat) : Int)) (fun k => by simp only [larderref0_Cmp.j1, if_true]; rw [if_pos (by omega), if_pos (by omega), if_pos (by omega), rd_get hia, rd_get hl, if_neg h1, if_neg h2, w1 i (by omega)]) ?_
          have := ih (i + 1) (by omega) (by omega)
          rw [show cmpL (a[i] :: a.drop (i + 1)) (b[i] :: b.drop (i + 1)) = cmpL (a.drop (i + 1)) (b.drop (i + 1)) by rw [cmpL, if_neg h1, if_neg h2]]
          exact this
    · have eb : b.drop i = [] := List.drop_eq_nil_of_le (by omega)
      refine Ev.step (f := fun k => larderref0_Cmp.j1 k a b i false) (fun k => by simp only [larderref0_Cmp.l0]; rw [if_pos (by omega), decide_eq_false (show ¬ (i : Int) < b.length by omega)]) (Ev.step (f := fun _ => some 1) (fun k => by simp only [larderref0_Cmp.j1]; rw [if_neg (by simp), if_neg (by omega), if_pos (by omega)]) ?_)
      rw [eb, List.drop_eq_getElem_cons hia]
      exact Ev.now _
theorem cmp (a b : List Int) (hn : a.length ≤ 140737488355328) : Ev (fun k => larderref0_Cmp.f k a b) (cmpL a b) := by
  have := cmp_at a b hn a.length 0 (by omega) (by omega)
  rw [List.drop_zero, List.drop_zero] at this
  exact this
theorem eq (a b : List Int) (hn : a.length ≤ 140737488355328) : Ev (fun k => larderref0_Eq.f k a b) (decide (a = b)) := by
  have h := cmp a b hn
  refine Ev.congr (fun k => rfl) (Ev.bind h ?_)
  refine Ev.congr (fun k => ?_) (Ev.now _)
  congr 1
  rw [Bool.eq_iff_iff]
  simp [cmpL_zero]

theorem lists_at (xs ys : List (List Int)) (hn : xs.length ≤ 140737488355328) (hl : xs.length = ys.length) (hx : ∀ x ∈ xs, x.length ≤ 140737488355328) (d : Nat) : ∀ i : Nat, i + d = xs.length → Ev (fun k => larderref0_EqLists.l0 k xs ys i) (decide (xs.drop i = ys.drop i)) := by
  induction d with
  | zero =>
    intro i hi
    refine Ev.step (f := fun _ => some true) (fun k => by simp only [larderref0_EqLists.l0]; rw [if_neg (by omega)]) ?_
    rw [List.drop_of_length_le (by omega), List.drop_of_length_le (by omega), decide_eq_true rfl]
    exact Ev.now _
  | succ d ih =>
    intro i hi
    have hia : i < xs.length := by omega
    have hib : i < ys.length := by omega
    have r1 : rd_L1 xs (i : Int) = xs[i] := by
      unfold rd_L1
      rw [Int.toNat_natCast, List.getD_eq_getElem?_getD, List.getElem?_eq_getElem hia]; rfl
    have r2 : rd_L1 ys (i : Int) = ys[i] := by
      unfold rd_L1
      rw [Int.toNat_natCast, List.getD_eq_getElem?_getD, List.getElem?_eq_getElem hib]; rfl
    have hc := cmp xs[i] ys[i] (hx _ (List.getElem_mem hia))
    refine Ev.step (f := fun k => (larderref0_Cmp.f k xs[i] ys[i]).bind (fun v => if v = 0 then larderref0_EqLists.l0 k xs ys ((i + 1 : Nat) : Int) else some false)) (fun k => ?_) (Ev.bind hc ?_)
    · simp only [larderref0_EqLists.l0]
      rw [if_pos (show (i : Int) < (xs.length : Int) by omega), if_pos (show (0 : Int) ≤ (i : Int) by omega)]
      first
        | rw [if_pos (show (i : Int) < (ys.length : Int) by omega), r1, r2, w1 i (by omega)]
        | rw [r1, r2, w1 i (by omega)]
      try (congr 1; funext v; by_cases hv : v = 0 <;> simp [hv])
    · rw [List.drop_eq_getElem_cons hia, List.drop_eq_getElem_cons hib]
      by_cases he : cmpL xs[i] ys[i] = 0
      · refine Ev.congr (fun k => if_pos he) ?_
        have h1 := (cmpL_zero _ _).1 he
        rw [show decide (xs[i] :: xs.drop (i + 1) = ys[i] :: ys.drop (i + 1)) = decide (xs.drop (i + 1) = ys.drop (i + 1)) from decide_eq_decide.2 (by rw [List.cons.injEq]; exact ⟨And.right, fun h => ⟨h1, h⟩⟩)]
        exact ih (i + 1) (by omega)
      · refine Ev.congr (fun k => if_neg he) ?_
        have h1 : ¬ xs[i] = ys[i] := fun e => he ((cmpL_zero _ _).2 e)
        rw [show decide (xs[i] :: xs.drop (i + 1) = ys[i] :: ys.drop (i + 1)) = false from decide_eq_false (by rw [List.cons.injEq]; exact fun h => h1 h.1)]
        exact Ev.now _
theorem lists (xs ys : List (List Int)) (hn : xs.length ≤ 140737488355328) (hm : ys.length ≤ 140737488355328) (hx : ∀ x ∈ xs, x.length ≤ 140737488355328) : Ev (fun k => larderref0_EqLists.f k xs ys) (decide (xs = ys)) := by
  by_cases hl : xs.length = ys.length
  · have := lists_at xs ys hn hl hx xs.length 0 (by omega)
    rw [List.drop_zero, List.drop_zero] at this
    refine Ev.congr (fun k => ?_) this
    unfold larderref0_EqLists.f
    rw [if_pos (by omega)]
    rfl
  · rw [decide_eq_false (fun e => hl (by rw [e]))]
    refine Ev.congr (fun k => ?_) (Ev.now false)
    unfold larderref0_EqLists.f
    rw [if_neg (by omega)]
end Go.Proofs.Ytfdkcnbkoagmiaa.CmpR
