/- What quote, Cmp, Eq answer, in plain words. -/
import Derived.Test.YtdflblegdfpdpaaDoorPEx3
import Derived.Test.YtdflblegdfpdpaaDoorPEx5
import Derived.Test.YtdflblegdfpdpaaDoorQuoteS
namespace Go.Proofs.YtdflblegdfpdpaaDoor.RefE
open Go Go.RowKit Go.Proofs.YtdflblegdfpdpaaDoorW.PrintWords Go.Proofs.YtdflblegdfpdpaaDoorW.PrintLast Go.Proofs.YtdflblegdfpdpaaDoorW.PrintMore Go.Proofs.YtdflblegdfpdpaaDoor.PE Go.Proofs.YtdflblegdfpdpaaDoor.QuoteS
set_option linter.unusedVariables false

theorem rd_get {l : List Int} {i : Nat} (h : i < l.length) : rd l (i : Int) = l[i] := by
  unfold rd
  rw [Int.toNat_natCast, List.getD_eq_getElem?_getD, List.getElem?_eq_getElem h]
  rfl
theorem w1 (i : Nat) (h : i < 9223372036854775807) : wrap64 ((i : Int) + 1) = ((i + 1 : Nat) : Int) := by unfold wrap64; omega
theorem quote_at (t : List Int) (hn : t.length ≤ 1000000000000) (d : Nat) : ∀ i : Nat, i + d = t.length → Ev (fun k => larderlaw9_quote.l0 k t (quoteL (t.take i)) i) (quoteL t) := by
  induction d with
  | zero =>
    intro i hi
    refine Ev.step (f := fun _ => some (quoteL t)) (fun k => ?_) (Ev.now _)
    simp only [larderlaw9_quote.l0]
    rw [if_neg (by omega), List.take_of_length_le (by omega)]
  | succ d ih =>
    intro i hi
    refine Ev.step (f := fun k => larderlaw9_quote.l0 k t (quoteL (t.take (i + 1))) ((i + 1 : Nat) : Int)) (fun k => ?_) (ih (i + 1) (by omega))
    simp only [larderlaw9_quote.l0]
    have e : quoteL (t.take i) ++ [92, rd t (i : Int)] = quoteL (t.take (i + 1)) := by
      rw [List.take_succ_eq_append_getElem (show i < t.length by omega), quoteL_append, rd_get (show i < t.length by omega)]
      rfl
    have hl := quoteL_len (t.take i)
    rw [List.length_take] at hl
    rw [if_pos (by omega), if_pos (by omega), Option.bind_some, if_pos (by rw [hl]; simp only [List.length_cons, List.length_nil]; omega), e, w1 i (by omega)]
theorem quote (t : List Int) (hn : t.length ≤ 1000000000000) : Ev (fun k => larderlaw9_quote.f k t) (quoteL t) := quote_at t hn t.length 0 (by omega)

/-- Bytes compared, the lesser byte first, a text ahead of its continuations. -/
def cmpL : List Int → List Int → Int
  | [], [] => 0
  | [], _ :: _ => -1
  | _ :: _, [] => 1
  | x :: a, y :: b => if x < y then -1 else if x > y then 1 else cmpL a b
theorem cmpL_zero : ∀ a b : List Int, cmpL a b = 0 ↔ a = b
  | [], [] => by simp [cmpL]
  | [], _ :: _ => by simp [cmpL]
  | _ :: _, [] => by simp [cmpL]
  | x :: a, y :: b => by
    have := cmpL_zero a b
    unfold cmpL
    split
    · simp; omega
    · split
      · simp; omega
      · rw [this]; simp; omega
theorem cmp_at (a b : List Int) (hn : a.length ≤ 140737488355328) (d : Nat) : ∀ i : Nat, i + d = a.length → i ≤ b.length → Ev (fun k => larderref0_Cmp.l0 k a b i) (cmpL (a.drop i) (b.drop i)) := by
  induction d with
  | zero =>
    intro i hi hb
    have ea : a.drop i = [] := List.drop_eq_nil_of_le (by omega)
    by_cases hl : i < b.length
    · refine Ev.step (f := fun k => larderref0_Cmp.j1 k a b i false) (fun k => by simp only [larderref0_Cmp.l0]; rw [if_neg (by omega)]) (Ev.step (f := fun _ => some (-1)) (fun k => by simp only [larderref0_Cmp.j1]; rw [if_neg (by simp), if_pos (by omega)]) ?_)
      rw [ea, List.drop_eq_getElem_cons hl]
      exact Ev.now _
    · have eb : b.drop i = [] := List.drop_eq_nil_of_le (by omega)
      refine Ev.step (f := fun k => larderref0_Cmp.j1 k a b i false) (fun k => by simp only [larderref0_Cmp.l0]; rw [if_neg (by omega)]) (Ev.step (f := fun _ => some 0) (fun k => by simp only [larderref0_Cmp.j1]; rw [if_neg (by simp), if_neg (by omega), if_neg (by omega)]) ?_)
      rw [ea, eb]
      exact Ev.now _
  | succ d ih =>
    intro i hi hb
    have hia : i < a.length := by omega
    by_cases hl : i < b.length
    · rw [List.drop_eq_getElem_cons hia, List.drop_eq_getElem_cons hl]
      refine Ev.step (f := fun k => larderref0_Cmp.j1 k a b i true) (fun k => by simp only [larderref0_Cmp.l0]; rw [if_pos (by omega), decide_eq_true (show (i : Int) < b.length by omega)]) ?_
      by_cases h1 : a[i] < b[i]
      · refine Ev.step (f := fun _ => some (-1)) (fun k => by simp only [larderref0_Cmp.j1, if_true]; rw [if_pos (by omega), if_pos (by omega), if_pos (by omega), rd_get hia, rd_get hl, if_pos h1]) ?_
        unfold cmpL; rw [if_pos h1]; exact Ev.now _
      · by_cases h2 : a[i] > b[i]
        · refine Ev.step (f := fun _ => some 1) (fun k => by simp only [larderref0_Cmp.j1, if_true]; rw [if_pos (by omega), if_pos (by omega), if_pos (by omega), rd_get hia, rd_get hl, if_neg h1, if_pos h2]) ?_
          unfold cmpL; rw [if_neg h1, if_pos h2]; exact Ev.now _
        · refine Ev.step (f := fun k => larderref0_Cmp.l0 k a b ((i + 1 : Nat) : Int)) (fun k => by simp only [larderref0_Cmp.j1, if_true]; rw [if_pos (by omega), if_pos (by omega), if_pos (by omega), rd_get hia, rd_get hl, if_neg h1, if_neg h2, w1 i (by omega)]) ?_
          have := ih (i + 1) (by omega) (by omega)
          rw [show cmpL (a[i] :: a.drop (i + 1)) (b[i] :: b.drop (i + 1)) = cmpL (a.drop (i + 1)) (b.drop (i + 1)) by rw [cmpL, if_neg h1, if_neg h2]]
          exact this
    · have eb : b.drop i = [] := List.drop_eq_nil_of_le (by omega)
      refine Ev.step (f := fun k => larderref0_Cmp.j1 k a b i false) (fun k => by simp only [larderref0_Cmp.l0]; rw [if_pos (by omega), decide_eq_false (show ¬ (i : Int) < b.length by omega)]) (Ev.step (f := fun _ => some 1) (fun k => by simp only [larderref0_Cmp.j1]; rw [if_neg (by simp), if_neg (by omega), if_pos (by omega)]) ?_)
      rw [eb, List.drop_eq_getElem_cons hia]
      exact Ev.now _
theorem cmp (a b : List Int) (hn : a.length ≤ 140737488355328) : Ev (fun k => larderref0_Cmp.f k a b) (cmpL a b) := by
  have := cmp_at a b hn a.length 0 (by omega) (by omega)
  rw [List.drop_zero, List.drop_zero] at this
  exact this
theorem eq (a b : List Int) (hn : a.length ≤ 140737488355328) : Ev (fun k => larderref0_Eq.f k a b) (decide (a = b)) := by
  have h := cmp a b hn
  refine Ev.congr (fun k => rfl) (Ev.bind h ?_)
  refine Ev.congr (fun k => ?_) (Ev.now _)
  congr 1
  rw [Bool.eq_iff_iff]
  simp [cmpL_zero]
end Go.Proofs.YtdflblegdfpdpaaDoor.RefE
