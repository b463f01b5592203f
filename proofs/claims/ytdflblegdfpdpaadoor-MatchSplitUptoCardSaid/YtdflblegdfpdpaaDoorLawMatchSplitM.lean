-- JOINED by tailmerge.py: PatW AppB SplitS OpenB PartB SplitW LawMatchSplit
import Derived.Test.YtdflblegdfpdpaaDoorPartW
import Derived.Test.YtdflblegdfpdpaaDoorWriteW
import Derived.Test.YtdflblegdfpdpaaDoorClassS
import Derived.Test.YtdflblegdfpdpaaDoorOpen
import Derived.Test.YtdflblegdfpdpaaDoorRows
import Derived.OpenShut
import Derived.SizedLaws
import Derived.ChangeSlices
import Derived.DataElems
import Derived.Test.YtdflblegdfpdpaaDoorCards
import Derived.Test.YtdflblegdfpdpaaDoorTie
import Derived.WalkKit
import Derived.ProofKit
import Derived.ShutString
import Derived.ChangeOld
import Derived.Below
import Derived.Deep.DeepHandedRow
import Derived.Lib.LaidTab

section
/- larderlaw9.pattern: the machine's calls. -/
namespace Go.Proofs.YtdflblegdfpdpaaDoor.PatW
open Go Go.RowKit Go.Proofs.YtdflblegdfpdpaaDoorW.PrintWords Go.Proofs.YtdflblegdfpdpaaDoorW.PrintLast Go.Proofs.YtdflblegdfpdpaaDoorW.PrintMore Go.Proofs.YtdflblegdfpdpaaDoor.HeldW Go.Proofs.YtdflblegdfpdpaaDoor.ScoreW Go.Proofs.YtdflblegdfpdpaaDoor.ClassS Go.Proofs.YtdflblegdfpdpaaDoor.AskW Go.Proofs.YtdflblegdfpdpaaDoor.WriteW Go.Proofs.YtdflblegdfpdpaaDoor.FitW Go.Proofs.YtdflblegdfpdpaaDoor.PartW Go.Proofs.YtdflblegdfpdpaaDoor.GlobS Go.Proofs.YtdflblegdfpdpaaDoor.GlobW
set_option linter.unusedVariables false
set_option maxRecDepth 100000

def toPie (y : PieT) : Pie := toP y.1 y.2.1 y.2.2.1 y.2.2.2
/-- The bytes that pieces write. -/
def patL (l : List PieT) : List Int := patternL (l.map toPie)
theorem patL_succ (l : List PieT) (i : Nat) (y : PieT) (hy : l[i]? = some y) : patL (l.take (i + 1)) = patL (l.take i) ++ writeL (toPie y) := by
  unfold patL
  rw [List.take_add_one, hy, Option.toList_some, List.map_append]
  simp [patternL]
theorem patL_le (l : List PieT) (i : Nat) : (patL (l.take i)).length ≤ (patL l).length := by
  have h : patL l = patL (l.take i) ++ patL (l.drop i) := by
    unfold patL patternL
    rw [← List.flatMap_append, ← List.map_append, List.take_append_drop]
  rw [h, List.length_append]
  omega
theorem write_pos (x : Pie) : 0 < (writeL x).length := by
  unfold writeL
  split
  · simp
  split
  · simp
  split
  · simp
  · simp

set_option maxHeartbeats 3200000 in
theorem pattern.calls (A : Option Addr) (c : Nat) (l : List PieT) (w : World) (hC : kPie.C w A l.length l) (hlen : l.length ≤ 140737488355328) (hm : ∀ y ∈ l, y.2.2.2.length ≤ 35184372087808) (hs : (patL l).length ≤ 100000000000000) :
    Calls Tryd.prog 18 #[.slice A l.length c] w fun e w' => ∃ v, e = .returned v ∧ OwnB w' w.heap.size v (patL l) ∧ Below w.heap.size w w' := by
  have HC := Aside0.mk hC
  have HM := Aside0.mk hm
  clear hC hm
  go_enter Tryd.func18, Tryd.ntmps18
  go_wp2_with fail
  go_loopw [3, 4] (fun v3 v4 wr => ∃ i : Nat, v4 = .int .i64 i ∧ i ≤ l.length ∧ Aside0 (OwnB wr w.heap.size v3 (patL (l.take i)) ∧ Below w.heap.size w wr)) (fun v3 v4 wr => l.length - (intOf v4).toNat)
  case atStart => exact ⟨0, rfl, by omega, ⟨.inl (World.ownsRow_nil _ _ _ _), Below.refl _ _⟩⟩
  case round =>
    obtain ⟨i, rfl, hi2, HI⟩ := hrel
    by_cases hlt : i < l.length
    · have c1 : decide ((i : Int) < l.length) = true := decide_eq_true (by omega)
      have c1' : decide (i < l.length) = true := decide_eq_true hlt
      have HCr := Aside0.mk (Kd.C_below HC.out HI.out.2)
      obtain ⟨y, hy⟩ : ∃ y, l[i]? = some y := ⟨_, List.getElem?_eq_getElem hlt⟩
      obtain ⟨ad, hAd⟩ : ∃ ad, A = some ad := by
        obtain ⟨ad, _, hh, _⟩ := Kd.C_get HCr.out y (i : Int) (by omega) (by omega)
        exact ⟨ad, hh⟩
      subst hAd
      obtain ⟨Am, cm, hcm, hCm, hK⟩ := pie_cells HCr.out i y hy
      have HMY := Aside0.mk (HM.out y (List.mem_of_getElem? hy))
      have HPS := Aside0.mk (patL_succ l i y hy)
      have hle := patL_le l (i + 1)
      rw [HPS.out, List.length_append] at hle
      obtain ⟨d, b0, neg, ms⟩ := y
      have HK : Aside0 (∀ j u, ([.int .i64 d, .int .u8 b0, .bool neg, .slice Am ms.length cm] : List Value)[j]? = some u → wr.cell? ((ad.add (i * 4)).add j) = some u) := ⟨hK⟩
      have HSZ := Aside0.mk (show (Tryd.prog.info? 35).map (·.size) = some 4 by kernel_rfl)
      obtain ⟨P, hP⟩ : ∃ P, P = writeL (toPie (d, b0, neg, ms)) := ⟨_, rfl⟩
      have HWC : Aside0 (Calls Tryd.prog 16 #[.agg #[.int .i64 d, .int .u8 b0, .bool neg, .slice Am ms.length cm]] wr fun e w' => Gives wr P e w') := ⟨by
        rw [hP]
        exact write.calls d b0 neg Am cm ms wr hCm HMY.out⟩
      have HP0 : Aside0 (0 < P.length) := ⟨by rw [hP]; exact write_pos _⟩
      rw [← hP] at hle HPS
      have HLE := Aside0.mk hle
      clear hy hcm hCm hK hP hle
      go_wp2_with (first
        | ((with_reducible refine gate_dst (N := 15) rfl ?_); refine wpList_load_at rfl 35 (.tmp 14) rfl (ad.add (i * 4)) rfl [.int .i64 d, .int .u8 b0, .bool neg, .slice Am ms.length cm] _ HK.out Tryd.underlying35 rfl HSZ.out ?_)
        | (go_at_call 16; refine HWC.out.mono ?_; rintro e w9 ⟨As, cs, rfl, hcs, hCs, hb⟩; have HCS := Aside0.mk hCs; have HO9 := Aside0.mk (HI.out.1.below hb); have HW9 := Aside0.mk (PB.below_next HI.out.2 hb); clear hCs hb hcs)
        | ((with_reducible refine gate_builtin (b := .append) (xs := #[.tmp 11, .tmp 16]) rfl ?_); at_builtin; refine wpList_append_big (w0 := w) w.heap.size rfl (.tmp 11) (.tmp 16) rfl _ _ rfl HO9.out As cs P rfl HCS.out HW9.out HW9.out.size HP0.out ⟨by have := HLE.out; omega, by have := HLE.out; omega⟩ _ HPS.out ?_; intro v10 w10 ho hb hk; have HR : Aside0 (OwnB w10 w.heap.size v10 (patL (l.take (i + 1))) ∧ Below w.heap.size w w10) := ⟨ho, hb⟩; clear ho hb hk))
      go_roundw
      case rel => exact ⟨i + 1, by go_num, by omega, HR⟩
      case measure => simp [intOf]; omega
    · obtain rfl : i = l.length := by omega
      have c1 : decide ((l.length : Int) < l.length) = false := decide_eq_false (by omega)
      have HF : Aside0 (OwnB wr w.heap.size u3 (patL l) ∧ Below w.heap.size w wr) := ⟨by have := HI.out; rw [List.take_length] at this; exact this⟩
      clear HI
      go_wp2_with fail
      go_ret
      exact ⟨_, rfl, HF.out⟩
end Go.Proofs.YtdflblegdfpdpaaDoor.PatW
end

section
/- append of a list that may be empty onto the call's own list of bytes. No function of the program. -/
namespace Go.Proofs.YtdflblegdfpdpaaDoor.AppB
open Go Go.RowKit Go.Proofs.YtdflblegdfpdpaaDoorW.PrintWords Go.Proofs.YtdflblegdfpdpaaDoorW.PrintLast Go.Proofs.YtdflblegdfpdpaaDoorW.PrintMore Go.Proofs.YtdflblegdfpdpaaDoor.WriteW Go.Proofs.YtdflblegdfpdpaaDoor.AppF
set_option linter.unusedVariables false
set_option maxRecDepth 100000
theorem run_empty2 (w : World) (ty : TypeId) (A : Option Addr) (n c : Nat) (h : n ≤ c) (Ax : Option Addr) (cx : Nat) :
    (Builtin.append_ #[22, 22] ty #[.slice A n c, .slice Ax 0 cx]).run Tryd.prog w = .ok (.slice A n c) w := by
  obtain ⟨i, hi, h0, h1, h2⟩ := infoB
  have hu := Tryd.underlying22
  cases A <;> cases Ax <;> simp [Builtin.append_, run_underlying hu, sizeOf, typeInfo, hi, Builtin.lenOf, Builtin.firstCells, storeCells, loadCells, loadCellsFrom, h]
theorem wpList_append_b {ops : Array Oper} {rest : List Oper} {o : Oper} {a : Act} {w0 W : World} {Q : Exit → Act → World → Prop} (base : Nat)
    (hg : o.guard = none) (s x : Operand) (hop : o.op = Op.call { callee := Callee.builtin Builtin.append, args := #[s, x], argTypes := #[22, 22] })
    (v : Value) (l1 : List Int) (hs : a.eval s = v) (HO : OwnB W base v l1)
    (Ax : Option Addr) (c : Nat) (l2 : List Int) (hx : a.eval x = .slice Ax l2.length c) (hC2 : Kd.C (Kd.int .u8) W Ax l2.length l2) (HB : Below base w0 W) (hbase : base ≤ W.heap.size) (hb : l1.length + l2.length ≤ 200000000000000 ∧ l2.length ≤ 100000000000000) (l3 : List Int) (h3 : l3 = l1 ++ l2)
    (hK : ∀ v' w', OwnB w' base v' l3 → Below base w0 w' → MKept W w' → wpList Tryd.prog ops Q rest (a.put o.dst v') w') :
    wpList Tryd.prog ops Q (o :: rest) a W := by
  by_cases h0 : l2.length = 0
  · obtain rfl : l2 = [] := List.eq_nil_of_length_eq_zero h0
    rw [List.append_nil] at h3
    subst h3
    obtain ⟨A, n, rfl, hn, _⟩ := HO.reads
    refine wpList_plain hg fun K hK' => ?_
    have hrun := run_empty2 W o.type A l3.length n hn Ax c
    unfold Oper.wp
    simp only [List.length_nil] at hx
    simp [execOp, hop, resolve, invoke, builtin, hs, hx, hrun, Result.andThen]
    exact hK' _ _ (hK _ _ HO HB (fun _ _ _ h => h))
  · exact wpList_append_big base hg s x hop v l1 hs HO Ax c l2 hx hC2 HB hbase (by omega) hb l3 h3 hK
end Go.Proofs.YtdflblegdfpdpaaDoor.AppB
end

section
/- MatchSplit, in plain Lean: a pattern of two parts fits just the texts that can be cut for them. No program. -/
namespace Go.Proofs.YtdflblegdfpdpaaDoor.SplitS
open Go.Proofs.YtdflblegdfpdpaaDoor.GlobS Go.Proofs.YtdflblegdfpdpaaDoor.GlobT Go.Proofs.YtdflblegdfpdpaaDoor.QuoteS Go.Proofs.YtdflblegdfpdpaaDoor.ClassS
set_option linter.unusedVariables false

def canL (p q t : List Int) (i : Nat) : Bool := (List.range i).any fun k => globL p (t.take k) && globL q (t.drop k)
theorem canL_succ (p q t : List Int) (i : Nat) : canL p q t (i + 1) = (canL p q t i || (globL p (t.take i) && globL q (t.drop i))) := by
  simp [canL, List.range_succ]
def tailL (q t : List Int) (i j : Nat) : Bool := (List.range (j - i)).any fun k => globL q (t.drop (i + k))
theorem tailL_self (q t : List Int) (i : Nat) : tailL q t i i = false := by simp [tailL]
theorem tailL_succ (q t : List Int) (i j : Nat) (h : i ≤ j) : tailL q t i (j + 1) = (tailL q t i j || globL q (t.drop j)) := by
  unfold tailL
  rw [show j + 1 - i = (j - i) + 1 by omega, List.range_succ, List.any_append]
  simp [show i + (j - i) = j by omega]
def gapL (p q t : List Int) (i : Nat) : Bool := (List.range i).any fun k => globL p (t.take k) && tailL q t k (t.length + 1)
theorem gapL_succ (p q t : List Int) (i : Nat) : gapL p q t (i + 1) = (gapL p q t i || (globL p (t.take i) && tailL q t i (t.length + 1))) := by
  simp [gapL, List.range_succ]

theorem pieces_end (l : List Pie) : piecesL (patternL l) = l.map pieceOf := by
  have := pieces_pattern l []
  rw [List.append_nil] at this
  rw [this]
  have e : piecesL [] = [] := by rw [piecesL]
  rw [e, List.append_nil]
theorem split_both (a b : List Pie) (t : List Int) : globL (patternL a ++ patternL b) t = canL (patternL a) (patternL b) t (t.length + 1) := by
  unfold globL
  rw [pieces_pattern, Bool.eq_iff_iff, fits_append]
  unfold canL globL
  rw [List.any_eq_true]
  constructor
  · rintro ⟨i, hi, h1, h2⟩
    rw [← pieces_end a] at h1
    exact ⟨i, List.mem_range.2 (by omega), by rw [h1, h2]; rfl⟩
  · rintro ⟨i, hi, h⟩
    rw [Bool.and_eq_true, pieces_end a] at h
    exact ⟨i, by have := List.mem_range.1 hi; omega, h.1, h.2⟩
theorem gap_iff (a b : List Pie) (t : List Int) : (fits (a.map pieceOf ++ starP :: piecesL (patternL b)) t = true) ↔ gapL (patternL a) (patternL b) t (t.length + 1) = true := by
  rw [fits_append]
  unfold gapL tailL globL
  rw [List.any_eq_true]
  constructor
  · rintro ⟨i, hi, h1, h2⟩
    obtain ⟨k, hk, h3⟩ := (fits_star rfl).1 h2
    rw [List.length_drop] at hk
    rw [List.drop_drop] at h3
    rw [← pieces_end a] at h1
    refine ⟨i, List.mem_range.2 (by omega), ?_⟩
    rw [h1, Bool.true_and, List.any_eq_true]
    exact ⟨k, List.mem_range.2 (by omega), h3⟩
  · rintro ⟨i, hi, h⟩
    have hi' := List.mem_range.1 hi
    rw [Bool.and_eq_true, pieces_end a, List.any_eq_true] at h
    obtain ⟨h1, k, hk, h2⟩ := h
    have hk' := List.mem_range.1 hk
    refine ⟨i, by omega, h1, (fits_star rfl).2 ⟨k, by rw [List.length_drop]; omega, ?_⟩⟩
    rw [List.drop_drop]
    exact h2
theorem split_one (a b : List Pie) (t : List Int) : globL (patternL a ++ 42 :: patternL b) t = gapL (patternL a) (patternL b) t (t.length + 1) := by
  rw [Bool.eq_iff_iff]
  rw [← gap_iff]
  unfold globL
  rw [pieces_pattern, pieces_star]
theorem split_three (a b : List Pie) (t : List Int) : globL (patternL a ++ 42 :: 42 :: 42 :: patternL b) t = gapL (patternL a) (patternL b) t (t.length + 1) := by
  rw [Bool.eq_iff_iff]
  rw [← gap_iff]
  unfold globL
  rw [pieces_pattern, pieces_star, pieces_star, pieces_star, fits_stars]
end Go.Proofs.YtdflblegdfpdpaaDoor.SplitS
end

section
/- Opening an argument of the second form: as Open, with the bulk's bound (1,048,576) handed inwards; a slice's length is within it. No function of the program. -/
namespace Go.Proofs.YtdflblegdfpdpaaDoor.OpenB
open Go Go.RowKit Go.ChangeShapes Go.Proofs.YtdflblegdfpdpaaDoorW.PrintWords Go.Proofs.YtdflblegdfpdpaaDoor.Open

/-- What is read as data of type t, with at most F steps inwards, is of kind kd. -/
structure OpensAt {α : Type} (F : Nat) (P : Program) (t : TypeId) (kd : Kd α) (good : α → Prop) : Prop where
  sz : kd.sz = P.cellsOf t
  op : ∀ {H : Type} {enc : TypeId × Value → H} {W : World} {base : Nat} {spare : Nat → Bool} {held : Bool} {fuel : Nat} {cs : List Value} {x : DataW H × List MemPlace},
    fuel ≤ F → DataW.trod enc P W base spare held fuel t cs = some x → (∀ m ∈ x.1.weights P t, m ≤ reachBytes) → Rows.uptoBulk x.1 ≤ 1048576 → ∃ y : α, kd.K W y cs ∧ good y

def Opens {α : Type} (P : Program) (t : TypeId) (kd : Kd α) (good : α → Prop) : Prop := ∀ F, OpensAt F P t kd good

theorem one_le {H : Type} (d : DataW H) : 1 ≤ Rows.uptoBulk d := by
  cases d with
  | lit l => cases l <;> simp [Rows.uptoBulk]
  | nil => simp [Rows.uptoBulk]
  | ptr d => simp [Rows.uptoBulk]
  | slice elems spare => simp [Rows.uptoBulk]
  | agg parts => simp [Rows.uptoBulk]
  | iface t d => simp [Rows.uptoBulk]
  | map entries => simp [Rows.uptoBulk]
  | held h => simp [Rows.uptoBulk]
theorem part_le {H : Type} {d : DataW H} {l : List (DataW H)} (h : d ∈ l) : Rows.uptoBulk d ≤ Rows.uptoBulkAll l := by
  induction l with
  | nil => cases h
  | cons x r ih =>
    simp only [Rows.uptoBulkAll]
    cases List.mem_cons.1 h with
    | inl e => subst e; omega
    | inr e => have := ih e; omega
theorem length_le {H : Type} (l : List (DataW H)) : l.length ≤ Rows.uptoBulkAll l := by
  induction l with
  | nil => simp [Rows.uptoBulkAll]
  | cons x r ih => have := one_le x; simp only [Rows.uptoBulkAll, List.length_cons]; omega
theorem slice_le {H : Type} (elems spare : List (DataW H)) : Rows.uptoBulkAll elems + 1 ≤ Rows.uptoBulk (.slice elems spare) := by
  simp only [Rows.uptoBulk]
  omega
theorem bound {H : Type} {l : List (DataW H)} (hk : Rows.uptoSmall H l = true) : Rows.uptoBulkAll l ≤ 1048576 := of_decide_eq_true hk

variable {P : Program} {t e : TypeId} {F : Nat}

theorem at_int {k : IntKind} (hu : P.underlying t = some (.int k)) (hc : P.cellsOf t = 1) : OpensAt F P t (Kd.int k) (fun x => (Lit.int k x).wf = true) where
  sz := hc.symm
  op := fun _ h _ _ => by
    obtain ⟨n, rfl, _, hw⟩ := DataW.trod_int hu h
    exact ⟨n, rfl, hw⟩

theorem at_bool (hu : P.underlying t = some .bool) (hc : P.cellsOf t = 1) : OpensAt F P t Kd.bool (fun _ => True) where
  sz := hc.symm
  op := fun _ h _ _ => by
    obtain ⟨n, rfl, _⟩ := DataW.trod_bool hu h
    exact ⟨n, rfl, trivial⟩

/-- The bound on a slice's length, and its elements. -/
def GoodB {α : Type} (B : Nat) (g : α → Prop) (ys : List α) : Prop := ys.length ≤ 1048576 ∧ GoodL B g ys

theorem at_slice {α : Type} {kd : Kd α} {g : α → Prop} {B : Nat} (hu : P.underlying t = some (.slice e)) (hc : P.cellsOf t = 1) (hB : P.bytesOf e = B) (he : OpensAt F P e kd g) :
    OpensAt (F + 1) P t (Kd.slice e kd) (GoodB B g) where
  sz := hc.symm
  op := by
    intro H enc W base spare held fuel cs x hf h hw hk
    rcases DataW.trod_slice hu h with ⟨rfl, rfl⟩ | ⟨a, len, cap, elems, rest, n, rfl, rfl, rfl, hb, hl, hm, hlen, hel, _⟩
    · exact ⟨[], ⟨none, 0, rfl, Nat.le_refl _, Kd.C_nil kd W⟩, by simp [GoodB, GoodL]⟩
    · have hwt : ∀ m ∈ (elems.length + rest.length) * P.bytesOf e :: (DataW.weightsAll P e (elems.map (·.1)) ++ DataW.weightsAll P e (rest.map (·.1))), m ≤ reachBytes := by
        intro m hm'
        refine hw m ?_
        show m ∈ DataW.weights P t (DataW.slice (elems.map (·.1)) (rest.map (·.1)))
        simp only [DataW.weights, hu, List.length_map]
        exact hm'
      have each : ∀ i, i < len → ∃ y, g y ∧ ∃ c, c.length = kd.sz ∧ kd.K W y c ∧ ∀ j u, c[j]? = some u → W.cell? (a.add (i * kd.sz + j)) = some u := by
        intro i hi
        have h1 := hel i hi
        obtain ⟨x1, hx1⟩ : ∃ x1, elems[i]? = some x1 := ⟨elems[i]'(by omega), List.getElem?_eq_getElem (by omega)⟩
        rw [hx1, Option.bind_eq_some_iff] at h1
        obtain ⟨c, hcs, htr⟩ := h1
        obtain ⟨y, hy, hg⟩ := he.op (by omega) htr (fun m hm' => hwt m (List.mem_cons_of_mem _ (List.mem_append_left _
          (weightsAll_mem (List.mem_map.2 ⟨x1, List.mem_of_getElem? hx1, rfl⟩) m hm'))))
          (Nat.le_trans (part_le (List.mem_map.2 ⟨x1, List.mem_of_getElem? hx1, rfl⟩)) (Nat.le_of_succ_le (Nat.le_trans (slice_le _ _) hk)))
        refine ⟨y, hg, c, kd.K_len hy, hy, fun j u hj => ?_⟩
        unfold World.cells? at hcs
        split at hcs
        · have hjl : j < c.length := (List.getElem?_eq_some_iff.1 hj).1
          have hcl := kd.K_len hy
          have := mapM_some_get hcs j j (List.getElem?_range (by rw [← he.sz]; omega))
          rw [hj, Addr.add_add, ← he.sz] at this
          exact this
        · cases hcs
      obtain ⟨ys, hyl, hys⟩ := choose_list len _ each
      refine ⟨ys, ⟨some a, cap, by rw [hyl], by omega, ?_⟩, ?_, ?_, ?_⟩
      · refine ⟨rfl, by simp only [maxLen] at hm; omega, fun _ => ⟨a, rfl, fun j p hp => ?_⟩⟩
        obtain ⟨_, c, h1, h2, h3⟩ := hys j p hp
        exact ⟨c, h1, h2, h3⟩
      · have h1 := length_le (elems.map (·.1))
        have h2 := slice_le (elems.map (·.1)) (rest.map (·.1))
        rw [List.length_map] at h1
        have hk' : Rows.uptoBulk (DataW.slice (elems.map (·.1)) (rest.map (·.1))) ≤ 1048576 := hk
        omega
      · have := hwt _ (List.mem_cons_self ..)
        rw [hB] at this
        rw [hyl, ← hlen]
        have h2 : elems.length * B ≤ (elems.length + rest.length) * B := Nat.mul_le_mul_right _ (by omega)
        simp only [reachBytes] at this
        omega
      · intro y hy
        obtain ⟨i, hi⟩ := List.getElem?_of_mem hy
        exact (hys i y hi).1

/-- The fields of a struct, from the cell o on. -/
def FieldsAt {α : Type} (F : Nat) (P : Program) (fs : List Field) (o : Nat) (kd : Kd α) (good : α → Prop) : Prop :=
  ∀ {H : Type} {enc : TypeId × Value → H} {W : World} {base : Nat} {spare : Nat → Bool} {held : Bool} {n : Nat} {cs : List Value} {xs : List (DataW H × List MemPlace)},
    n ≤ F → cs.length = o + kd.sz → xs.length = fs.length →
    (∀ (i : Nat) (f : Field), fs[i]? = some f → DataW.trod enc P W base spare held n f.type ((cs.drop f.offset).take (P.cellsOf f.type)) = xs[i]?) →
    (∀ m ∈ DataW.weightsEach P (fs.map (·.type)) (xs.map (·.1)), m ≤ reachBytes) → Rows.uptoBulkAll (xs.map (·.1)) ≤ 1048576 → ∃ y : α, kd.K W y (cs.drop o) ∧ good y

theorem fields_one {α : Type} {f : Field} {o : Nat} {kd : Kd α} {g : α → Prop} (ho : f.offset = o) (h : OpensAt F P f.type kd g) : FieldsAt F P [f] o kd g := by
  intro H enc W base spare held n cs xs hn hl hx hf hw hk
  have h1 := hf 0 f rfl
  match xs, hx with
  | [x], _ =>
    rw [ho, List.take_of_length_le (by rw [List.length_drop, ← h.sz]; omega)] at h1
    exact h.op hn h1 (fun m hm => hw m (by simp only [List.map, DataW.weightsEach]; exact List.mem_append_left _ hm)) (Nat.le_trans (part_le (by simp)) hk)

theorem fields_cons {α β : Type} {f : Field} {fs : List Field} {o : Nat} {kd : Kd α} {kd' : Kd β} {g : α → Prop} {g' : β → Prop} (ho : f.offset = o) (h : OpensAt F P f.type kd g)
    (h' : FieldsAt F P fs (o + kd.sz) kd' g') : FieldsAt F P (f :: fs) o (Kd.pair kd kd') (fun y => g y.1 ∧ g' y.2) := by
  intro H enc W base spare held n cs xs hn hl hx hf hw hk
  match xs, hx with
  | x :: xs, hx =>
    have h1 := hf 0 f rfl
    rw [ho] at h1
    obtain ⟨y, hy, hg⟩ := h.op hn h1 (fun m hm => hw m (by simp only [List.map, DataW.weightsEach]; exact List.mem_append_left _ hm)) (Nat.le_trans (part_le (by simp)) hk)
    have hsz : (Kd.pair kd kd').sz = kd.sz + kd'.sz := rfl
    obtain ⟨z, hz, hg'⟩ := h' (xs := xs) hn (by rw [hl, hsz]; omega) (by simpa using hx) (fun i f' hf' => by simpa using hf (i + 1) f' (by simpa using hf'))
      (fun m hm => hw m (by simp only [List.map, DataW.weightsEach]; exact List.mem_append_right _ hm)) (by
      simp only [List.map, Rows.uptoBulkAll] at hk
      omega)
    refine ⟨(y, z), ⟨_, _, ?_, hy, hz⟩, hg, hg'⟩
    rw [← h.sz, ← List.drop_drop, List.take_append_drop]

theorem at_struct {α : Type} {fs : Array Field} {fl : List Field} {kd : Kd α} {g : α → Prop} (hu : P.underlying t = some (.struct fs)) (hl : fs.toList = fl) (hc : P.cellsOf t = kd.sz) (h : FieldsAt F P fl 0 kd g) : OpensAt (F + 1) P t kd g where
  sz := hc.symm
  op := by
    intro H enc W base spare held fuel cs x hf h0 hw hk
    obtain ⟨xs, n, rfl, rfl, hcl, hxl, hx⟩ := DataW.trod_struct hu h0
    have := h (xs := xs) (n := n) (by omega) (by rw [hcl, hc]; omega) (by rw [hxl, ← hl]; simp) (fun i f hf => hx i f (by rw [← hl] at hf; simpa using hf)) (fun m hm => hw m (by
      simp only [DataW.weights, hu]
      rw [hl]
      exact hm)) (by
      simp only [Rows.uptoBulk] at hk
      omega)
    simpa using this

theorem OpensAt.good_imp {α : Type} {kd : Kd α} {g g' : α → Prop} (h : OpensAt F P t kd g) (hg : ∀ x, g x → g' x) : OpensAt F P t kd g' where
  sz := h.sz
  op := fun hf h0 hw hk => by
    obtain ⟨y, hy, hgy⟩ := h.op hf h0 hw hk
    exact ⟨y, hy, hg y hgy⟩

theorem OpensAt.weaken {α : Type} {kd : Kd α} {g : α → Prop} (h : OpensAt (F + 1) P t kd g) : OpensAt F P t kd g where
  sz := h.sz
  op := fun hf h0 hw hk => h.op (Nat.le_succ_of_le hf) h0 hw hk

theorem opens_int {k : IntKind} (hu : P.underlying t = some (.int k)) (hc : P.cellsOf t = 1) : Opens P t (Kd.int k) (fun x => (Lit.int k x).wf = true) := fun _ => at_int hu hc
theorem opens_bool (hu : P.underlying t = some .bool) (hc : P.cellsOf t = 1) : Opens P t Kd.bool (fun _ => True) := fun _ => at_bool hu hc
theorem opens_slice {α : Type} {kd : Kd α} {g : α → Prop} {B : Nat} (hu : P.underlying t = some (.slice e)) (hc : P.cellsOf t = 1) (hB : P.bytesOf e = B) (he : Opens P e kd g) :
    Opens P t (Kd.slice e kd) (GoodB B g) := fun F => (at_slice hu hc hB (he F)).weaken
def Fields {α : Type} (P : Program) (fs : List Field) (o : Nat) (kd : Kd α) (good : α → Prop) : Prop := ∀ F, FieldsAt F P fs o kd good
theorem fields1 {α : Type} {f : Field} {o : Nat} {kd : Kd α} {g : α → Prop} (ho : f.offset = o) (h : Opens P f.type kd g) : Fields P [f] o kd g := fun F => fields_one ho (h F)
theorem fields2 {α β : Type} {f : Field} {fs : List Field} {o : Nat} {kd : Kd α} {kd' : Kd β} {g : α → Prop} {g' : β → Prop} (ho : f.offset = o) (h : Opens P f.type kd g)
    (h' : Fields P fs (o + kd.sz) kd' g') : Fields P (f :: fs) o (Kd.pair kd kd') (fun y => g y.1 ∧ g' y.2) := fun F => fields_cons ho (h F) (h' F)
theorem opens_struct {α : Type} {fs : Array Field} {fl : List Field} {kd : Kd α} {g : α → Prop} (hu : P.underlying t = some (.struct fs)) (hl : fs.toList = fl) (hc : P.cellsOf t = kd.sz) (h : Fields P fl 0 kd g) : Opens P t kd g :=
  fun F => (at_struct hu hl hc (h F)).weaken

/-- An argument, opened. -/
theorem open_arg {α : Type} {kd : Kd α} {g : α → Prop} (h : ∀ F, OpensAt F P t kd g) {H : Type} {enc : TypeId × Value → H} {W : World} {base : Nat} {spare : Nat → Bool} {held : Bool} {v : Value} {d : DataW H} {ps : List MemPlace}
    {ts : List TypeId} {ds : List (DataW H)} {j : Nat} (hsz : (DataW.weightsEach P ts ds).all (· ≤ reachBytes) = true) (ht : ts[j]? = some t) (hd : ds[j]? = some d) (hk : Rows.uptoBulkAll ds ≤ 1048576)
    (hr : DataW.Trod enc P W base spare held t v d ps) : ∃ y : α, kd.K W y v.cells.toList ∧ g y := by
  obtain ⟨fuel, hf⟩ := hr
  exact (h fuel).op (Nat.le_refl _) hf (fun m hm => by
    have := List.all_eq_true.1 hsz m (DataW.weights_mem_each ht hd m hm)
    simpa using this) (Nat.le_trans (part_le (List.mem_of_getElem? hd)) hk)

end Go.Proofs.YtdflblegdfpdpaaDoor.OpenB
end

section
/- The laws' parameter Parts, opened with the second form's bound. -/
namespace Go.Proofs.YtdflblegdfpdpaaDoor.PartB
open Go Go.RowKit Go.Proofs.YtdflblegdfpdpaaDoorW.PrintWords Go.Proofs.YtdflblegdfpdpaaDoor.AskW Go.Proofs.YtdflblegdfpdpaaDoor.WriteW Go.Proofs.YtdflblegdfpdpaaDoor.ClassS Go.Proofs.YtdflblegdfpdpaaDoor.PartW Go.Proofs.YtdflblegdfpdpaaDoor.OpenB
set_option linter.unusedVariables false
theorem b_u8 : OpenB.Opens Tryd.prog 5 (Kd.int .u8) gB := OpenB.opens_int Tryd.underlying5 (by kernel_rfl)
theorem b_int : OpenB.Opens Tryd.prog 3 (Kd.int .i64) gI := OpenB.opens_int Tryd.underlying3 (by kernel_rfl)
theorem b_bool : OpenB.Opens Tryd.prog 4 Kd.bool gT := fun F => ⟨(OpenB.opens_bool Tryd.underlying4 (by kernel_rfl) F).sz, fun hf h hw hk => by
  obtain ⟨y, hy, _⟩ := (OpenB.opens_bool (P := Tryd.prog) Tryd.underlying4 (by kernel_rfl) F).op hf h hw hk
  exact ⟨y, hy, rfl⟩⟩
def gBytesB (l : List Int) : Prop := GoodB 1 (fun x => (Lit.int .u8 x).wf = true) l
theorem b_bytes : OpenB.Opens Tryd.prog 22 kBytes gBytesB := OpenB.opens_slice Tryd.underlying22 (by kernel_rfl) (by kernel_rfl) b_u8
theorem b_mem : OpenB.Opens Tryd.prog 72 kMem gMem :=
  OpenB.opens_struct Tryd.underlying72 rfl (by kernel_rfl) (OpenB.fields2 rfl b_u8 (OpenB.fields2 rfl b_u8 (OpenB.fields2 rfl b_bool (OpenB.fields1 rfl b_bool))))
def gMemsB (l : List MemT) : Prop := GoodB 4 gMem l
theorem b_mems : OpenB.Opens Tryd.prog 33 kMems gMemsB := OpenB.opens_slice Tryd.underlying33 (by kernel_rfl) (by kernel_rfl) b_mem
def gPieB (y : PieT) : Prop := gI y.1 ∧ gB y.2.1 ∧ gT y.2.2.1 ∧ gMemsB y.2.2.2
theorem b_pie : OpenB.Opens Tryd.prog 35 kPie gPieB :=
  OpenB.opens_struct Tryd.underlying35 rfl (by kernel_rfl) (OpenB.fields2 rfl b_int (OpenB.fields2 rfl b_u8 (OpenB.fields2 rfl b_bool (OpenB.fields1 rfl b_mems))))
def gPiesB (l : List PieT) : Prop := GoodB 40 gPieB l
theorem b_pies : OpenB.Opens Tryd.prog 30 kPies gPiesB := OpenB.opens_slice Tryd.underlying30 (by kernel_rfl) (by kernel_rfl) b_pie
def gPartsB (y : PartT) : Prop := gPiesB y.1 ∧ gPiesB y.2.1 ∧ gBytesB y.2.2
theorem b_parts : OpenB.Opens Tryd.prog 32 kParts gPartsB :=
  OpenB.opens_struct Tryd.underlying32 rfl (by kernel_rfl) (OpenB.fields2 rfl b_pies (OpenB.fields2 rfl b_pies (OpenB.fields1 rfl b_bytes)))
end Go.Proofs.YtdflblegdfpdpaaDoor.PartB
end

section
/- larderlaw9.MatchSplit: walked. -/
namespace Go.Proofs.YtdflblegdfpdpaaDoor.SplitW
open Go Go.RowKit Go.Proofs.YtdflblegdfpdpaaDoorW.PrintWords Go.Proofs.YtdflblegdfpdpaaDoorW.PrintLast Go.Proofs.YtdflblegdfpdpaaDoorW.PrintMore Go.Proofs.YtdflblegdfpdpaaDoor.HeldW Go.Proofs.YtdflblegdfpdpaaDoor.ScoreW Go.Proofs.YtdflblegdfpdpaaDoor.ClassS Go.Proofs.YtdflblegdfpdpaaDoor.AskW Go.Proofs.YtdflblegdfpdpaaDoor.WriteW Go.Proofs.YtdflblegdfpdpaaDoor.FitW Go.Proofs.YtdflblegdfpdpaaDoor.PartW Go.Proofs.YtdflblegdfpdpaaDoor.GlobS Go.Proofs.YtdflblegdfpdpaaDoor.GlobW Go.Proofs.YtdflblegdfpdpaaDoor.PatW Go.Proofs.YtdflblegdfpdpaaDoor.AppB Go.Proofs.YtdflblegdfpdpaaDoor.SplitS Go.Proofs.YtdflblegdfpdpaaDoor.PartB
set_option linter.unusedVariables false
set_option maxRecDepth 100000

theorem cut_at (l : List Int) (A : Option Addr) (c : Nat) (hc : l.length ≤ c) (m : Nat) (hm : m ≤ l.length) :
    (∀ W : World, (Instr.slice 22 (.slice A l.length c) none (some (.int .i64 (m : Int))) none).run Tryd.prog W = .ok (.slice A (l.take m).length c) W) ∧ (∀ w : World, Kd.C (Kd.int .u8) w A l.length l → Kd.C (Kd.int .u8) w A (l.take m).length (l.take m)) := by
  obtain ⟨i, hi, _, hz, _⟩ := AppF.infoB
  obtain ⟨h1, h2, _⟩ := print_take_of (P := Tryd.prog) (Value.int .u8) (0 : Int) 22 5 .i64 Tryd.underlying22 hi hz A c l m (by omega) (by omega) hc
  rw [Int.toNat_natCast] at h1 h2
  exact ⟨h1, fun w hC => Kd.C_of_reads (d := (0 : Int)) (h1 := fun _ => rfl) (h2 w (Kd.reads_of_C (d := (0 : Int)) (h1 := fun _ => rfl) hC))⟩
theorem write_len (y : PieT) (h : y.2.2.2.length ≤ 1048576) : (writeL (toPie y)).length ≤ 5242890 := by
  have h1 := mems_len y.2.2.2 y.2.2.2.length (Nat.le_refl _)
  rw [List.take_length] at h1
  unfold writeL
  split
  · simp
  split
  · simp
  split
  · simp
  · show ((([91] ++ (if (toPie y).neg then [94] else [])) ++ memsL (y.2.2.2.map toM)) ++ [93]).length ≤ _
    have : ((if (toPie y).neg then [94] else []) : List Int).length ≤ 1 := by split <;> simp
    simp only [List.length_append, List.length_singleton]
    omega
theorem pat_len (l : List PieT) (h : ∀ y ∈ l, y.2.2.2.length ≤ 1048576) : (patL l).length ≤ l.length * 5242890 := by
  induction l with
  | nil => simp [patL, patternL]
  | cons y l ih =>
    have h1 := ih (fun z hz => h z (List.mem_cons_of_mem _ hz))
    have h2 := write_len y (h y (List.mem_cons_self ..))
    have e : patL (y :: l) = writeL (toPie y) ++ patL l := by simp [patL, patternL]
    rw [e, List.length_append, List.length_cons, Nat.add_mul]
    omega
theorem pat_in (l : List PieT) (h : ∀ y ∈ l, gPieB y) : ∀ x ∈ patL l, 0 ≤ x ∧ x < 256 := by
  intro x hx
  unfold patL patternL at hx
  obtain ⟨p, hp, hx⟩ := List.mem_flatMap.1 hx
  obtain ⟨y, hy, rfl⟩ := List.mem_map.1 hp
  have hg := h y hy
  exact in_write (toPie y) (wf_u8 hg.2.1) (good_mems hg.2.2.2.2) x hx

/-- What stays from world to world: the box, what the argument holds. -/
structure St (w W : World) (gb : Nat) (Ap Aq At : Option Addr) (cp cq ct : Nat) (P Q : List PieT) (T : List Int) : Prop where
  bel : Below w.heap.size w W
  blk : W.heap[gb]? = some (.cells #[.slice Ap P.length cp, .slice Aq Q.length cq, .slice At T.length ct] 32 (0, 0))
  p : kPie.C W Ap P.length P
  q : kPie.C W Aq Q.length Q
  t : Kd.C (Kd.int .u8) W At T.length T
  gl : GL W
theorem St.next {w W W' : World} {gb : Nat} {Ap Aq At : Option Addr} {cp cq ct : Nat} {P Q : List PieT} {T : List Int} (h : St w W gb Ap Aq At cp cq ct P Q T) (hb : Below W.heap.size W W') : St w W' gb Ap Aq At cp cq ct P Q T :=
  ⟨PB.below_next h.bel hb, blk_below h.blk hb, Kd.C_below h.p hb, Kd.C_below h.q hb, Kd.C_below h.t hb, h.gl.below hb⟩
theorem St.z {w W : World} {gb : Nat} {Ap Aq At : Option Addr} {cp cq ct : Nat} {P Q : List PieT} {T : List Int} (h : St w W gb Ap Aq At cp cq ct P Q T) : W.cell? ⟨gb, 0, none⟩ = some (.slice Ap P.length cp) ∧ W.cell? ⟨gb, 1, none⟩ = some (.slice Aq Q.length cq) ∧ W.cell? ⟨gb, 2, none⟩ = some (.slice At T.length ct) :=
  ⟨blk_cell h.blk 0, blk_cell h.blk 1, blk_cell h.blk 2⟩
/-- A list that the call made. -/
structure Li (W : World) (A : Option Addr) (c : Nat) (l : List Int) : Prop where
  len : l.length ≤ c
  C : Kd.C (Kd.int .u8) W A l.length l
theorem Li.next {W W' : World} {A : Option Addr} {c : Nat} {l : List Int} (h : Li W A c l) (hb : Below W.heap.size W W') : Li W' A c l := ⟨h.len, Kd.C_below h.C hb⟩
theorem li_of {W : World} {base : Nat} {v : Value} {l : List Int} (h : OwnB W base v l) : ∃ A c, v = .slice A l.length c ∧ Li W A c l := by
  obtain ⟨A, c, h1, h2, h3⟩ := h.reads
  exact ⟨A, c, h1, h2, h3⟩
theorem li_glob {W : World} {A A1 : Option Addr} {c c1 : Nat} {p t : List Int} (h : Li W A c p) (hp : ∀ x ∈ p, 0 ≤ x ∧ x < 256) (hpl : p.length ≤ 1000000000000) (h1 : Li W A1 c1 t) (ht : ∀ x ∈ t, 0 ≤ x ∧ x < 256) (htl : t.length ≤ 100) (hG : GL W) (r : Bool) (hr : globL p t = r) :
    Calls Tryd.prog 14 #[.slice A p.length c, .slice A1 t.length c1] W fun e w' => e = .returned (.bool r) ∧ Below W.heap.size W w' :=
  hr ▸ glob.calls A c p A1 c1 t W h.C h.len hp hpl h1.C h1.len ht (by omega) hG

section
variable (P Q : List PieT) (T : List Int) (Ap Aq At : Option Addr) (cp cq ct : Nat) (w : World)
set_option maxHeartbeats 8000000 in
theorem split (hP : kPie.C w Ap P.length P) (hQ : kPie.C w Aq Q.length Q) (hT : Kd.C (Kd.int .u8) w At T.length T) (hct : T.length ≤ ct) (hlP : P.length ≤ 1048576) (hlQ : Q.length ≤ 1048576) (hlT : T.length ≤ 1048576) (hgP : ∀ y ∈ P, gPieB y) (hgQ : ∀ y ∈ Q, gPieB y) (hTi : ∀ x ∈ T, 0 ≤ x ∧ x < 256) (hG : GL w) :
    Calls Tryd.prog 5 #[.agg #[.slice Ap P.length cp, .slice Aq Q.length cq, .slice At T.length ct]] w fun e w' => e = .returned (.bool true) ∧ Below w.heap.size w w' := by
  have HP := Aside0.mk hP
  have HQ := Aside0.mk hQ
  have HT := Aside0.mk hT
  have HG := Aside0.mk hG
  have HGP := Aside0.mk hgP
  have HGQ := Aside0.mk hgQ
  have HTI := Aside0.mk hTi
  clear hP hQ hT hG hgP hgQ hTi
  go_enter Tryd.func5, Tryd.ntmps5
  go_wp2_with (first | ((with_reducible refine gate_dst (N := 1) rfl ?_); refine box_event ?hg (N := 1) ?hd (cs := #[.slice Ap P.length cp, .slice Aq Q.length cq, .slice At T.length ct]) (t := 32) ?hr ?_; (case hd => rfl); (case hg => rfl); (case hr => first | (go_simp; done) | (go_simp; rfl)); intro gb hg w5 hbox hb; have HS := Aside0.mk (St.mk (w := w) hb hbox (Kd.C_below HP.out hb) (Kd.C_below HQ.out hb) (Kd.C_below HT.out hb) (HG.out.below hb)); clear hb hbox hg))
  refine (PB.wakes_walk w5 HS.out.gl).mono ?_
  rintro e w6 ⟨rfl, hb⟩
  have HS6 := Aside0.mk (HS.out.next hb)
  clear HS hb HP HQ HT HG
  obtain ⟨z0, z1, z2⟩ := HS6.out.z
  by_cases h60 : P.length + Q.length ≤ 60
  · have c1 : decide ((60 : Int) < (P.length : Int) + Q.length) = false := decide_eq_false (by omega)
    have c1' : decide (60 < P.length + Q.length) = false := decide_eq_false (by omega)
    by_cases h100 : T.length ≤ 100
    · have d1 : decide ((100 : Int) < T.length) = false := decide_eq_false (by omega)
      have d1' : decide (100 < T.length) = false := decide_eq_false (by omega)
      obtain ⟨pl, hpl⟩ : ∃ pl, pl = patL P := ⟨_, rfl⟩
      obtain ⟨ql, hql⟩ : ∃ ql, ql = patL Q := ⟨_, rfl⟩
      have hp1 : pl.length ≤ 400000000 := by
        have := pat_len P (fun y hy => (HGP.out y hy).2.2.2.1)
        rw [hpl]; omega
      have hq1 : ql.length ≤ 400000000 := by
        have := pat_len Q (fun y hy => (HGQ.out y hy).2.2.2.1)
        rw [hql]; omega
      have HPL := Aside0.mk hpl
      have HQL := Aside0.mk hql
      have HPI : Aside0 (∀ x ∈ pl, 0 ≤ x ∧ x < 256) := ⟨by rw [hpl]; exact pat_in P HGP.out⟩
      have HQI : Aside0 (∀ x ∈ ql, 0 ≤ x ∧ x < 256) := ⟨by rw [hql]; exact pat_in Q HGQ.out⟩
      have HPC : Aside0 (∀ W, St w W gb Ap Aq At cp cq ct P Q T → Calls Tryd.prog 18 #[.slice Ap P.length cp] W fun e w' => ∃ v, e = .returned v ∧ OwnB w' W.heap.size v pl ∧ Below W.heap.size W w') := ⟨by
        intro W hs
        have := pattern.calls Ap cp P W hs.p (by omega) (fun y hy => by have := (HGP.out y hy).2.2.2.1; omega) (by rw [← HPL.out]; omega)
        rw [← HPL.out] at this
        exact this⟩
      have HQC : Aside0 (∀ W, St w W gb Ap Aq At cp cq ct P Q T → Calls Tryd.prog 18 #[.slice Aq Q.length cq] W fun e w' => ∃ v, e = .returned v ∧ OwnB w' W.heap.size v ql ∧ Below W.heap.size W w') := ⟨by
        intro W hs
        have := pattern.calls Aq cq Q W hs.q (by omega) (fun y hy => by have := (HGQ.out y hy).2.2.2.1; omega) (by rw [← HQL.out]; omega)
        rw [← HQL.out] at this
        exact this⟩
      clear hpl hql
      go_wp2_with fail
      refine (HPC.out _ HS6.out).mono ?_
      rintro e w7 ⟨v7, rfl, ho, hb⟩
      obtain ⟨A1, k1, rfl, hL⟩ := li_of ho
      have HS7 := Aside0.mk (HS6.out.next hb)
      have HLP := Aside0.mk hL
      clear HS6 hb ho hL z0 z1 z2
      obtain ⟨z0, z1, z2⟩ := HS7.out.z
      go_wp2_with fail
      refine (HQC.out _ HS7.out).mono ?_
      rintro e w8 ⟨v8, rfl, ho, hb⟩
      obtain ⟨A2, k2, rfl, hL⟩ := li_of ho
      have HS8 := Aside0.mk (HS7.out.next hb)
      have HLP8 := Aside0.mk (HLP.out.next hb)
      have HLQ := Aside0.mk hL
      clear HS7 HLP hb ho hL z0 z1 z2
      obtain ⟨z0, z1, z2⟩ := HS8.out.z
      by_cases hbig : pl.length + ql.length ≤ 5000
      · have e1 : decide ((5000 : Int) < (pl.length : Int) + ql.length) = false := decide_eq_false (by omega)
        have e1' : decide (5000 < pl.length + ql.length) = false := decide_eq_false (by omega)
        obtain ⟨lb, hlb⟩ : ∃ lb, lb = pl ++ ql := ⟨_, rfl⟩
        obtain ⟨l1, hl1⟩ : ∃ l1, l1 = (pl ++ [42]) ++ ql := ⟨_, rfl⟩
        obtain ⟨l3, hl3⟩ : ∃ l3, l3 = (pl ++ [42, 42, 42]) ++ ql := ⟨_, rfl⟩
        have HLB := Aside0.mk hlb
        have HL1 := Aside0.mk hl1
        have HL3 := Aside0.mk hl3
        have b1 : lb.length ≤ 10000 := by rw [hlb, List.length_append]; omega
        have b2 : l1.length ≤ 10000 := by rw [hl1]; simp only [List.length_append, List.length_singleton]; omega
        have b3 : l3.length ≤ 10000 := by rw [hl3]; simp only [List.length_append, List.length_cons, List.length_nil]; omega
        have HIB : Aside0 (∀ x ∈ lb, 0 ≤ x ∧ x < 256) := ⟨by rw [hlb]; intro x hx; exact (List.mem_append.1 hx).elim (HPI.out x) (HQI.out x)⟩
        have HI1 : Aside0 (∀ x ∈ l1, 0 ≤ x ∧ x < 256) := ⟨by rw [hl1]; intro x hx; exact (List.mem_append.1 hx).elim (fun h => (List.mem_append.1 h).elim (HPI.out x) (fun h => by simp at h; omega)) (HQI.out x)⟩
        have HI3 : Aside0 (∀ x ∈ l3, 0 ≤ x ∧ x < 256) := ⟨by rw [hl3]; intro x hx; exact (List.mem_append.1 hx).elim (fun h => (List.mem_append.1 h).elim (HPI.out x) (fun h => by simp at h; omega)) (HQI.out x)⟩
        clear hlb hl1 hl3
        go_wp2_with fail
        refine (HPC.out _ HS8.out).mono ?_
        rintro e w9 ⟨v9, rfl, ho, hb⟩
        have HO9 := Aside0.mk ho
        have HB9 := Aside0.mk hb
        clear ho hb z0 z1 z2
        go_wp2_with (first
          | ((with_reducible refine gate_builtin (b := .append) (xs := #[.tmp 43, .tmp 44]) rfl ?_); at_builtin; refine wpList_append_b (w0 := w8) w8.heap.size rfl (.tmp 43) (.tmp 44) rfl _ _ rfl HO9.out A2 k2 ql rfl (HLQ.out.next HB9.out).C HB9.out HB9.out.size (by omega) lb HLB.out ?_; intro v10 w10 ho hb hk; obtain ⟨A3, k3, rfl, hL⟩ := li_of ho; have HSx := Aside0.mk (HS8.out.next hb); have HLPx := Aside0.mk (HLP8.out.next hb); have HLQx := Aside0.mk (HLQ.out.next hb); have HLBx := Aside0.mk hL; clear ho hb hk hL HO9 HB9 HS8 HLP8 HLQ))
        go_loopw [6, 7] (fun v6 v7 wr => ∃ (i : Nat) (b : Bool), v6 = .bool b ∧ v7 = .int .i64 i ∧ i ≤ T.length + 1 ∧ Aside0 (b = canL pl ql T i ∧ Below w10.heap.size w10 wr)) (fun v6 v7 wr => T.length + 1 - (intOf v7).toNat)
        case atStart => exact ⟨0, false, rfl, rfl, by omega, ⟨rfl, Below.refl _ _⟩⟩
        case round =>
          obtain ⟨i, b, rfl, rfl, hi, HI⟩ := hrel
          have HSr := Aside0.mk (HSx.out.next HI.out.2)
          have HLPr := Aside0.mk (HLPx.out.next HI.out.2)
          have HLQr := Aside0.mk (HLQx.out.next HI.out.2)
          obtain ⟨z0, z1, z2⟩ := HSr.out.z
          by_cases hle : i ≤ T.length
          · have c1 : decide ((i : Int) ≤ T.length) = true := decide_eq_true (by omega)
            have c1' : decide (i ≤ T.length) = true := decide_eq_true hle
            obtain ⟨hrt, hCt⟩ := cut_at T At ct hct i hle
            obtain ⟨Atd, hrd, hCd, hcd⟩ := cut_drop2 T At ct hct i hle
            obtain ⟨r1, hr1⟩ : ∃ r1, r1 = globL pl (T.take i) := ⟨_, rfl⟩
            obtain ⟨r2, hr2⟩ : ∃ r2, r2 = globL ql (T.drop i) := ⟨_, rfl⟩
            have HN := Aside0.mk (canL_succ pl ql T i)
            rw [← hr1, ← hr2, ← HI.out.1] at HN
            have hl1 : (T.take i).length ≤ 100 := by rw [List.length_take]; omega
            have hl2 : (T.drop i).length ≤ 100 := by rw [List.length_drop]; omega
            have HC1 : Aside0 (∀ W, Below wr.heap.size wr W → Calls Tryd.prog 14 #[.slice A1 pl.length k1, .slice At (T.take i).length ct] W fun e w' => e = .returned (.bool r1) ∧ Below W.heap.size W w') := ⟨fun W hb =>
              li_glob (HLPr.out.next hb) HPI.out (by omega) ⟨by rw [List.length_take]; omega, Kd.C_below (hCt _ HSr.out.t) hb⟩ (fun x hx => HTI.out x (List.mem_of_mem_take hx)) hl1 (HSr.out.gl.below hb) r1 hr1.symm⟩
            have HC2 : Aside0 (∀ W, Below wr.heap.size wr W → Calls Tryd.prog 14 #[.slice A2 ql.length k2, .slice Atd (T.drop i).length (ct - i)] W fun e w' => e = .returned (.bool r2) ∧ Below W.heap.size W w') := ⟨fun W hb =>
              li_glob (HLQr.out.next hb) HQI.out (by omega) ⟨hcd, Kd.C_below (hCd _ HSr.out.t) hb⟩ (fun x hx => HTI.out x (List.mem_of_mem_drop hx)) hl2 (HSr.out.gl.below hb) r2 hr2.symm⟩
            generalize T.take i = ta at *
            generalize T.drop i = tb at *
            clear hr1 hr2 hCt hCd
            cases b
            · cases r1
              · go_wp2_with fail
                refine (HC1.out _ (Below.refl _ _)).mono ?_
                rintro e w12 ⟨rfl, hb⟩
                go_wp2_with fail
                go_roundw
                case rel => exact ⟨i + 1, false, rfl, by go_num, by omega, ⟨by rw [HN.out]; rfl, PB.below_next HI.out.2 hb⟩⟩
                case measure => simp [intOf]; omega
              · go_wp2_with fail
                refine (HC1.out _ (Below.refl _ _)).mono ?_
                rintro e w12 ⟨rfl, hb⟩
                have HB12 := Aside0.mk hb
                have z2' := (HSr.out.next hb).z.2.2
                clear hb
                go_wp2_with fail
                refine (HC2.out _ HB12.out).mono ?_
                rintro e w13 ⟨rfl, hb⟩
                go_wp2_with fail
                go_roundw
                case rel => exact ⟨i + 1, r2, rfl, by go_num, by omega, ⟨by rw [HN.out]; simp, PB.below_next (PB.below_next HI.out.2 HB12.out) hb⟩⟩
                case measure => simp [intOf]; omega
            · go_wp2_with fail
              go_roundw
              case rel => exact ⟨i + 1, true, rfl, by go_num, by omega, ⟨by rw [HN.out]; rfl, HI.out.2⟩⟩
              case measure => simp [intOf]; omega
          · obtain rfl : i = T.length + 1 := by omega
            have c1 : decide (((T.length + 1 : Nat) : Int) ≤ T.length) = false := decide_eq_false (by omega)
            have c1' : decide (T.length + 1 ≤ T.length) = false := decide_eq_false (by omega)
            have c1'' : decide ((T.length : Int) + 1 ≤ T.length) = false := decide_eq_false (by omega)
            have HLBr := Aside0.mk (HLBx.out.next HI.out.2)
            have HC1 : Aside0 (Calls Tryd.prog 14 #[.slice A3 lb.length k3, .slice At T.length ct] wr fun e w' => e = .returned (.bool b) ∧ Below wr.heap.size wr w') := ⟨
              li_glob HLBr.out HIB.out (by omega) ⟨hct, HSr.out.t⟩ HTI.out h100 HSr.out.gl b (by
                rw [HI.out.1, HLB.out, HPL.out, HQL.out]
                exact split_both _ _ _)⟩
            have n1 : (b != b) = false := by simp
            go_wp2_with fail
            refine HC1.out.mono ?_
            rintro e w14 ⟨rfl, hb⟩
            have HS14 := Aside0.mk (HSr.out.next hb)
            have HLP14 := Aside0.mk (HLPr.out.next hb)
            have HLQ14 := Aside0.mk (HLQr.out.next hb)
            clear hb HC1 z0 z1 z2 HSr HLPr HLQr HSx HLPx HLQx HLBx HLBr HI
            obtain ⟨z0, z1, z2⟩ := HS14.out.z
            go_wp2_with fail
            refine (HPC.out _ HS14.out).mono ?_
            rintro e w15 ⟨v15, rfl, ho, hb⟩
            have HO15 := Aside0.mk ho
            have HB15 := Aside0.mk hb
            clear ho hb z0 z1 z2
            go_wp2_with (first
              | ((with_reducible refine gate_builtin (b := .append) (xs := #[.tmp 78, .tmp 79]) rfl ?_); at_builtin; refine wpList_append_b (w0 := w14) w14.heap.size rfl (.tmp 78) (.tmp 79) rfl _ _ rfl (HO15.out.below (below_alloc (Below.refl _ _) _)) _ 1 [42] rfl (got_const w15 _ rfl [42] _ (by decide)) (PB.below_next HB15.out (below_alloc (Below.refl _ _) _)) (PB.below_next HB15.out (below_alloc (Below.refl _ _) _)).size (by simp only [List.length_singleton]; omega) _ rfl ?_; intro v16 w16 ho hb hk; have HO16 := Aside0.mk ho; have HB16 := Aside0.mk hb; clear ho hb hk)
              | ((with_reducible refine gate_builtin (b := .append) (xs := #[.tmp 80, .tmp 81]) rfl ?_); at_builtin; refine wpList_append_b (w0 := w14) w14.heap.size rfl (.tmp 80) (.tmp 81) rfl _ _ rfl HO16.out A2 k2 ql rfl (HLQ14.out.next HB16.out).C HB16.out HB16.out.size (by simp only [List.length_append, List.length_singleton]; omega) l1 HL1.out ?_; intro v17 w17 ho hb hk; obtain ⟨A4, k4, rfl, hL⟩ := li_of ho; have HS17 := Aside0.mk (HS14.out.next hb); have HLP17 := Aside0.mk (HLP14.out.next hb); have HLQ17 := Aside0.mk (HLQ14.out.next hb); have HLO17 := Aside0.mk hL; clear ho hb hk hL HO15 HB15 HO16 HB16 HS14 HLP14 HLQ14; obtain ⟨z0, z1, z2⟩ := HS17.out.z))
            refine (HPC.out _ HS17.out).mono ?_
            rintro e w18 ⟨v18, rfl, ho, hb⟩
            have HO18 := Aside0.mk ho
            have HB18 := Aside0.mk hb
            clear ho hb z0 z1 z2
            go_wp2_with (first
              | ((with_reducible refine gate_builtin (b := .append) (xs := #[.tmp 85, .tmp 86]) rfl ?_); at_builtin; refine wpList_append_b (w0 := w17) w17.heap.size rfl (.tmp 85) (.tmp 86) rfl _ _ rfl (HO18.out.below (below_alloc (Below.refl _ _) _)) _ 3 [42, 42, 42] rfl (got_const w18 _ rfl [42, 42, 42] _ (by decide)) (PB.below_next HB18.out (below_alloc (Below.refl _ _) _)) (PB.below_next HB18.out (below_alloc (Below.refl _ _) _)).size (by simp only [List.length_cons, List.length_nil]; omega) _ rfl ?_; intro v19 w19 ho hb hk; have HO19 := Aside0.mk ho; have HB19 := Aside0.mk hb; clear ho hb hk)
              | ((with_reducible refine gate_builtin (b := .append) (xs := #[.tmp 87, .tmp 88]) rfl ?_); at_builtin; refine wpList_append_b (w0 := w17) w17.heap.size rfl (.tmp 87) (.tmp 88) rfl _ _ rfl HO19.out A2 k2 ql rfl (HLQ17.out.next HB19.out).C HB19.out HB19.out.size (by simp only [List.length_append, List.length_cons, List.length_nil]; omega) l3 HL3.out ?_; intro v20 w20 ho hb hk; obtain ⟨A5, k5, rfl, hL⟩ := li_of ho; have HS20 := Aside0.mk (HS17.out.next hb); have HLP20 := Aside0.mk (HLP17.out.next hb); have HLQ20 := Aside0.mk (HLQ17.out.next hb); have HLO20 := Aside0.mk (HLO17.out.next hb); have HLT20 := Aside0.mk hL; clear ho hb hk hL HO18 HB18 HO19 HB19 HS17 HLP17 HLQ17 HLO17))
            clear n1 c1 c1' c1'' hi
            go_loopw [10, 11] (fun v10 v11 wr => ∃ (i : Nat) (b : Bool), v10 = .bool b ∧ v11 = .int .i64 i ∧ i ≤ T.length + 1 ∧ Aside0 (b = gapL pl ql T i ∧ Below w20.heap.size w20 wr)) (fun v10 v11 wr => T.length + 1 - (intOf v11).toNat)
            case atStart => exact ⟨0, false, rfl, rfl, by omega, ⟨rfl, Below.refl _ _⟩⟩
            case round =>
              obtain ⟨i, b, rfl, rfl, hi, HI⟩ := hrel
              have HSr := Aside0.mk (HS20.out.next HI.out.2)
              have HLPr := Aside0.mk (HLP20.out.next HI.out.2)
              obtain ⟨z0, z1, z2⟩ := HSr.out.z
              by_cases hle : i ≤ T.length
              · have c1 : decide ((i : Int) ≤ T.length) = true := decide_eq_true (by omega)
                have c1' : decide (i ≤ T.length) = true := decide_eq_true hle
                obtain ⟨hrt, hCt⟩ := cut_at T At ct hct i hle
                obtain ⟨r1, hr1⟩ : ∃ r1, r1 = globL pl (T.take i) := ⟨_, rfl⟩
                have HN := Aside0.mk (gapL_succ pl ql T i)
                rw [← hr1, ← HI.out.1] at HN
                have hl1 : (T.take i).length ≤ 100 := by rw [List.length_take]; omega
                have HC1 : Aside0 (Calls Tryd.prog 14 #[.slice A1 pl.length k1, .slice At (T.take i).length ct] wr fun e w' => e = .returned (.bool r1) ∧ Below wr.heap.size wr w') := ⟨
                  li_glob HLPr.out HPI.out (by omega) ⟨by rw [List.length_take]; omega, hCt _ HSr.out.t⟩ (fun x hx => HTI.out x (List.mem_of_mem_take hx)) hl1 HSr.out.gl r1 hr1.symm⟩
                generalize T.take i = ta at *
                clear hr1 hCt
                go_wp2_with fail
                refine HC1.out.mono ?_
                rintro e w21 ⟨rfl, hb⟩
                have HS21 := Aside0.mk (HSr.out.next hb)
                have HB21 := Aside0.mk (PB.below_next HI.out.2 hb)
                have HLQ21 := Aside0.mk (HLQ20.out.next HB21.out)
                have HBI := Aside0.mk HI.out.1
                clear hb HC1 HSr HI z0 z1 z2 hrt HLPr
                cases r1
                · go_wp2_with fail
                  go_roundw
                  case rel => exact ⟨i + 1, b, rfl, by go_num, by omega, ⟨by rw [HN.out]; simp, HB21.out⟩⟩
                  case measure => simp [intOf]; omega
                · go_wp2_with fail
                  go_loopw [10, 12] (fun v10 v12 wq => ∃ (j : Nat) (d : Bool), v10 = .bool d ∧ v12 = .int .i64 j ∧ i ≤ j ∧ j ≤ T.length + 1 ∧ Aside0 (d = (b || tailL ql T i j) ∧ Below w21.heap.size w21 wq)) (fun v10 v12 wq => T.length + 1 - (intOf v12).toNat)
                  case atStart => exact ⟨i, b, rfl, rfl, by omega, by omega, ⟨by rw [tailL_self]; simp, Below.refl _ _⟩⟩
                  case round =>
                    obtain ⟨j, d, rfl, rfl, hij, hj, HJ⟩ := hrel
                    have HSq := Aside0.mk (HS21.out.next HJ.out.2)
                    have HLQq := Aside0.mk (HLQ21.out.next HJ.out.2)
                    obtain ⟨z0, z1, z2⟩ := HSq.out.z
                    by_cases hje : j ≤ T.length
                    · have f1 : decide ((j : Int) ≤ T.length) = true := decide_eq_true (by omega)
                      have f1' : decide (j ≤ T.length) = true := decide_eq_true hje
                      obtain ⟨Atd, hrd, hCd, hcd⟩ := cut_drop2 T At ct hct j hje
                      obtain ⟨r2, hr2⟩ : ∃ r2, r2 = globL ql (T.drop j) := ⟨_, rfl⟩
                      have HM := Aside0.mk (tailL_succ ql T i j hij)
                      rw [← hr2] at HM
                      have hl2 : (T.drop j).length ≤ 100 := by rw [List.length_drop]; omega
                      have HC2 : Aside0 (Calls Tryd.prog 14 #[.slice A2 ql.length k2, .slice Atd (T.drop j).length (ct - j)] wr fun e w' => e = .returned (.bool r2) ∧ Below wr.heap.size wr w') := ⟨
                        li_glob HLQq.out HQI.out (by omega) ⟨hcd, hCd _ HSq.out.t⟩ (fun x hx => HTI.out x (List.mem_of_mem_drop hx)) hl2 HSq.out.gl r2 hr2.symm⟩
                      generalize T.drop j = tb at *
                      clear hr2 hCd
                      cases d
                      · go_wp2_with fail
                        refine HC2.out.mono ?_
                        rintro e w22 ⟨rfl, hb⟩
                        go_wp2_with fail
                        go_roundw
                        case rel => exact ⟨j + 1, r2, rfl, by go_num, by omega, by omega, ⟨by rw [HM.out, ← Bool.or_assoc, ← HJ.out.1]; rfl, PB.below_next HJ.out.2 hb⟩⟩
                        case measure => simp [intOf]; omega
                      · go_wp2_with fail
                        go_roundw
                        case rel => exact ⟨j + 1, true, rfl, by go_num, by omega, by omega, ⟨by rw [HM.out, ← Bool.or_assoc, ← HJ.out.1]; rfl, HJ.out.2⟩⟩
                        case measure => simp [intOf]; omega
                    · obtain rfl : j = T.length + 1 := by omega
                      have f1 : decide (((T.length + 1 : Nat) : Int) ≤ T.length) = false := decide_eq_false (by omega)
                      have f1' : decide (T.length + 1 ≤ T.length) = false := decide_eq_false (by omega)
                      have f1'' : decide ((T.length : Int) + 1 ≤ T.length) = false := decide_eq_false (by omega)
                      go_wp2_with fail
                      go_roundw
                      case rel => exact ⟨i + 1, d, rfl, by go_num, by omega, ⟨by rw [HN.out, HJ.out.1]; simp, PB.below_next HB21.out HJ.out.2⟩⟩
                      case measure => simp [intOf]; omega
              · obtain rfl : i = T.length + 1 := by omega
                have c1 : decide (((T.length + 1 : Nat) : Int) ≤ T.length) = false := decide_eq_false (by omega)
                have c1' : decide (T.length + 1 ≤ T.length) = false := decide_eq_false (by omega)
                have c1'' : decide ((T.length : Int) + 1 ≤ T.length) = false := decide_eq_false (by omega)
                have HC1 : Aside0 (∀ W, Below w20.heap.size w20 W → Calls Tryd.prog 14 #[.slice A4 l1.length k4, .slice At T.length ct] W fun e w' => e = .returned (.bool b) ∧ Below W.heap.size W w') := ⟨fun W hb =>
                  li_glob (HLO20.out.next hb) HI1.out (by omega) ⟨hct, (HS20.out.next hb).t⟩ HTI.out h100 (HS20.out.next hb).gl b (by
                    rw [HI.out.1, HL1.out, HPL.out, HQL.out, List.append_assoc]
                    exact split_one _ _ _)⟩
                have HC3 : Aside0 (∀ W, Below w20.heap.size w20 W → Calls Tryd.prog 14 #[.slice A5 l3.length k5, .slice At T.length ct] W fun e w' => e = .returned (.bool b) ∧ Below W.heap.size W w') := ⟨fun W hb =>
                  li_glob (HLT20.out.next hb) HI3.out (by omega) ⟨hct, (HS20.out.next hb).t⟩ HTI.out h100 (HS20.out.next hb).gl b (by
                    rw [HI.out.1, HL3.out, HPL.out, HQL.out, List.append_assoc]
                    exact split_three _ _ _)⟩
                have n1 : (b == b) = true := by simp
                go_wp2_with fail
                refine (HC1.out _ HI.out.2).mono ?_
                rintro e w23 ⟨rfl, hb⟩
                have HB23 := Aside0.mk (PB.below_next HI.out.2 hb)
                have z2' := (HS20.out.next HB23.out).z.2.2
                clear hb
                go_wp2_with fail
                refine (HC3.out _ HB23.out).mono ?_
                rintro e w24 ⟨rfl, hb⟩
                go_wp2_with fail
                go_ret
                exact ⟨rfl, PB.below_next (PB.below_next HS20.out.bel HB23.out) hb⟩
      · have e1 : decide ((5000 : Int) < (pl.length : Int) + ql.length) = true := decide_eq_true (by omega)
        have e1' : decide (5000 < pl.length + ql.length) = true := decide_eq_true (by omega)
        go_wp2_with fail
        go_ret
        exact ⟨rfl, HS8.out.bel⟩
    · have d1 : decide ((100 : Int) < T.length) = true := decide_eq_true (by omega)
      have d1' : decide (100 < T.length) = true := decide_eq_true (by omega)
      go_wp2_with fail
      go_ret
      exact ⟨rfl, HS6.out.bel⟩
  · have c1 : decide ((60 : Int) < (P.length : Int) + Q.length) = true := decide_eq_true (by omega)
    have c1' : decide (60 < P.length + Q.length) = true := decide_eq_true (by omega)
    go_wp2_with fail
    go_ret
    exact ⟨rfl, HS6.out.bel⟩
end
theorem walk (y : PartT) (ca : Array Value) (W : World) (hK : kParts.K W y ca.toList) (hg : gPartsB y) (hG : GL W) :
    Calls Tryd.prog 5 #[.agg ca] W fun e w' => e = .returned (.bool true) ∧ Below W.heap.size W w' := by
  obtain ⟨Ap, cp, Aq, cq, At, ct, he, hp, hP, hq, hQ, ht, hT⟩ := parts_cells hK
  obtain rfl : ca = #[.slice Ap y.1.length cp, .slice Aq y.2.1.length cq, .slice At y.2.2.length ct] := by cases ca; simp_all
  exact split y.1 y.2.1 y.2.2 Ap Aq At cp cq ct W hP hQ hT ht hg.1.1 hg.2.1.1 hg.2.2.1 hg.1.2.2 hg.2.1.2.2 (fun x hx => wf_u8 (hg.2.2.2.2 x hx)) hG
end Go.Proofs.YtdflblegdfpdpaaDoor.SplitW
end

section
/- The law MatchSplit as its given card says it: for every argument that can be read as data the call returns true, and what the argument leads to reads as before; the two listed variables are tied to the program's text. Condition: the argument's bulk is at most the row's bound. -/
namespace Go.Proofs.YtdflblegdfpdpaaDoor.LawMatchSplit
open Go.ChangeShapes Go.WideShapes Go.ChangeAt Go.RowKit
theorem own : ownKnob Tryd.prog.godebug = none := by kernel_rfl
theorem laidOut : laidOutB Tryd.prog = true := by kernel_rfl
set_option maxRecDepth 100000 in
theorem contract (H : Type) (enc : TypeId × Value → H) (W : World) (base : Nat) (args : Array Value) (ds gs : List (DataW H)) (before : List MemPlace)
    (hval0 : ∀ (j : Nat) t v, Tryd.f5.params[j]? = some t → args[j]? = some v → Value.okWide Tryd.prog W .any base t v)
    (hW : DataW.Whole enc Tryd.prog Tryd.f5.params.toList Rows.matchSplitSpec.vars false W args.toList ds gs before)
    (hsz0 : (DataW.weightsEach Tryd.prog (Tryd.f5.params.toList ++ (OpenSpec.ofChange Rows.matchSplitSpec).bare.plain.varTypes Tryd.prog) (ds ++ gs)).all (· ≤ reachBytes) = true) (hL : laidMetH Tryd.prog Rows.matchSplitUptoRow.laid W) (hk : Rows.uptoSmall H (ds ++ gs) = true) :
    Calls Tryd.prog 5 args W fun e W' => ∃ v, e = .returned v ∧ Rows.matchSplitSpec.post enc Tryd.prog Tryd.f5 false true false false W args v W' := by
  have hsz : (DataW.weightsEach Tryd.prog (Tryd.f5.params.toList ++ Rows.matchSplitSpec.plain.varTypes Tryd.prog) (ds ++ gs)).all (· ≤ reachBytes) = true := hsz0
  have hG : GlobW.GL W := AskW.gl hL
  have hval : ∀ (j : Nat) t v, Tryd.f5.params[j]? = some t → args[j]? = some v → Value.okWide Tryd.prog W .any base t v := hval0
  have hW' := hW
  obtain ⟨p, q, hA0, hV, rfl, _, _⟩ := hW
  have hA : DataW.TrodAll enc Tryd.prog W 0 (fun _ => true) true Tryd.f5.params.toList args.toList ds p := hA0
  rw [Tryd.params5] at hA hval hsz
  obtain ⟨v0, vs0, d0, ds0, p0, q0, hargs, rfl, rfl, h0, r0⟩ := trodAll_cons hA
  obtain ⟨rfl, rfl, rfl⟩ := trodAll_nil r0
  obtain rfl : args = #[v0] := by cases args; simp_all
  obtain ⟨rfl, rfl⟩ := trodVars_none hV
  have k0 := h0
  have lt0 : ∀ x ∈ p0, x.block < W.heap.size := by obtain ⟨m, hm⟩ := k0; exact DataW.trod_lt m _ _ _ hm
  have hk0 : Rows.uptoBulkAll [d0] ≤ 1048576 := OpenB.bound (by simpa only [List.append_nil] using hk)
  obtain ⟨y, hK, hg⟩ := OpenB.open_arg PartB.b_parts hsz (j := 0) rfl rfl hk0 h0
  obtain ⟨ca, rfl, _⟩ := okWide_struct Tryd.underlying32 (hval 0 _ v0 rfl rfl)
  clear hA0 hval0 hsz0 hsz
  refine (SplitW.walk y ca W hK hg hG).mono fun e W' ⟨he, bel⟩ => ?_
  subst he
  exact ⟨_, rfl, _, _, _, [], _, [], hW', trodAll_mk1 (shut_bool Tryd.underlying4 _), (trodAll_cons_mk (Below.trod laidOut (by kernel_rfl) (of_decide_eq_true (by kernel_rfl)) k0 bel lt0) trodAll_mk0), rfl, bel.frame _, fun h => by cases h⟩
/-- A world for the witness: the settled one, the variables holding what their initialisers lay. -/
noncomputable def laidWorld (os : Os) : World :=
  { World.holding Tryd.prog os ⟨#[], #[], []⟩ with heap := (World.holding Tryd.prog os ⟨#[], #[], []⟩).heap.modify 1 fun
      | .cells _ t frozen => .cells #[.int .u64 18446744073709551615, .int .u64 18446744073709551615, .int .u64 18446744073709551615, .int .u64 18446744073709551615] t frozen
      | o => o }
theorem laid_met (os : Os) : laidMet Tryd.prog Rows.matchSplitUptoRow.laid ((laidWorld os).forCall (fun _ _ => 0) ⟨#[], #[.agg #[.slice none 0 0, .slice none 0 0, .slice none 0 0]], []⟩).memory :=
  laidMet_of_run' 8 (by kernel_rfl) (by kernel_rfl)
theorem reads (os : Os) {H : Type} (enc : TypeId × Value → H) : ∃ places, DataW.whole enc Tryd.prog ((laidWorld os).forCall (fun _ _ => 0) ⟨#[], #[.agg #[.slice none 0 0, .slice none 0 0, .slice none 0 0]], []⟩).memory Tryd.f5.params.toList Rows.matchSplitSpec.vars false (#[.agg #[.slice none 0 0, .slice none 0 0, .slice none 0 0]] : Array Value).toList 8 = some ([.agg [.nil, .nil, .nil]], [], places) :=
  ⟨[], by kernel_rfl⟩
set_option maxRecDepth 100000 in
theorem lifted (os : Os) (started : os.Started) (H : Type) (enc : TypeId × Value → H) (F : Stop.Interp) :
    ReturnsInHanded {} Tryd.checked os 5 .any ((Rows.OpenSpec.upto Rows.matchSplitSpec).preRow enc Tryd.prog Tryd.f5 Rows.matchSplitUptoRow.domain false Rows.matchSplitUptoRow.laid) (((Rows.OpenSpec.upto Rows.matchSplitSpec).at F).post enc Tryd.prog Tryd.f5 false true false false) := by
  obtain ⟨places, hx⟩ := reads os enc
  refine returnsInHanded_of_row (C := Tryd.checked) (s := Rows.OpenSpec.upto Rows.matchSplitSpec) own started (by kernel_rfl) Tryd.func5
    (witness_row_at (enc := enc) (C := Tryd.checked) false (laidWorld os) #[.agg #[.slice none 0 0, .slice none 0 0, .slice none 0 0]] rfl (by kernel_rfl) (by kernel_rfl) (by kernel_rfl)
      (OpenSpec.preRow_of_cond 8 hx (by kernel_rfl) (fun k hk => by cases hk; kernel_rfl) (by kernel_rfl) (laid_met os))) ?_
  intro W base args ds gs before hval hW _ hcond hsz hL _ _
  exact contract H enc W base args ds gs before hval hW hsz hL (hcond _ rfl)
theorem said : Rows.MatchSplitUptoSaid :=
  OpenClaim.holds_of_cond 5 Tryd.f5 rfl rfl rfl rfl rfl rfl rfl ⟨rfl, rfl, rfl, rfl, rfl⟩ rfl rfl rfl rfl rfl (by kernel_rfl) Tryd.func5 (by kernel_rfl)
    (of_decide_eq_true (by kernel_rfl)) (by unfold Func.isWrapper; first | (rw [if_pos (by decide +kernel)]; kernel_rfl) | (rw [if_neg (by decide +kernel)]; exact ⟨rfl, rfl⟩))
    (fun os started H enc _ F => by rw [OpenClaim.pre_eq_preRow]; exact lifted os started H enc F)
theorem plain (f : FuncId) (fn : Func) (hf : Tryd.pinned.checked.prog.funcNamed "larder/larderlaw9.MatchSplit" = some f) (hfn : Tryd.pinned.checked.prog.funcs[f]? = some fn) :
    false = Tryd.pinned.checked.prog.looks [] ∧ ∀ (j : Nat) t, fn.params[j]? = some t → Tryd.pinned.checked.prog.wantsStandIn t = false := by
  obtain rfl : f = 5 := Option.some.inj ((show Tryd.prog.funcNamed "larder/larderlaw9.MatchSplit" = some 5 by kernel_rfl).symm.trans hf) |>.symm
  obtain rfl : fn = Tryd.f5 := (Option.some.inj (Tryd.func5.symm.trans hfn)).symm
  refine ⟨by kernel_rfl, fun j t ht => ?_⟩
  rw [Tryd.params5] at ht
  obtain rfl : t = 32 := by simpa using Array.mem_of_getElem? ht
  exact (show Tryd.prog.wantsStandIn 32 = false by kernel_rfl)
theorem card : Rows.MatchSplitUptoCardSaid :=
  Claim7.holds_tied_plain_at .later [] _ _ _ _ said (fun _ h => by cases h) (by kernel_rfl) (fun _ h => by cases h) matchSplitUpto_row_tie rfl ⟨rfl, rfl⟩ (by kernel_rfl) rfl plain (by kernel_rfl)
#print axioms card
end Go.Proofs.YtdflblegdfpdpaaDoor.LawMatchSplit
namespace Go.Proofs.YtdflblegdfpdpaaDoor
/-- The card, under a short name, for the claim. -/
theorem matchSplit_holds : Rows.MatchSplitUptoCardSaid := LawMatchSplit.card
end Go.Proofs.YtdflblegdfpdpaaDoor
end
