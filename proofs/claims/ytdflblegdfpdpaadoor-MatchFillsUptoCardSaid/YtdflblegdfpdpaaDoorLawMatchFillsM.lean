-- JOINED by tailmerge.py: CopyW FoldW ShelfB FillS FillA FillW ClassS AppG WriteW AppB HoldW FillR HeldM OpenB FitW PartW PartB AskB AnsF LawMatchFills
import Derived.Test.YtdflblegdfpdpaaDoorCloneW
import Derived.Laws.CopyOwn
import Derived.Laws.MakeOwn
import Derived.Laws.OwnMore
import Derived.Shelf.Strings.Search1
import Derived.Shelf.Bytes.SlIndexSmall
import Derived.Shelf.Bytes.SlIndexAt
import Derived.Shelf.Bytes.SlSearch0
import Derived.Shelf.Bytes.SlSearch1
import Derived.Shelf.Bytes.SlSearch2
import Derived.Shelf.Bytes.SlIndexWhole
import Derived.Shelf.LaysM
import Derived.Ground.SlbNamesProg
import Derived.Shelf.Bytes.SlJoin
import Derived.Shelf.Bytes.Small
import Derived.Shelf.Bytes.IndexByte
import Derived.Test.YtdflblegdfpdpaaDoorProg
import Derived.Test.YtdflblegdfpdpaaDoorNumS
import Derived.Lib.Bytealg
import Derived.Lib.Index
import Derived.Lib.Bytes
import Derived.Test.YtdflblegdfpdpaaDoorQuoteS
import Derived.Test.YtdflblegdfpdpaaDoorAppF
import Derived.Test.YtdflblegdfpdpaaDoorAskW
import Derived.Test.YtdflblegdfpdpaaDoorHeldW
import Derived.Deep.DeepCutAuto
import Derived.Deep.CutRange
import Derived.Deep.DeepAppendWide
import Derived.Laws.Tables
import Derived.Laws.Cells
import Derived.Test.YtdflblegdfpdpaaDoorPEx5
import Derived.Test.YtdflblegdfpdpaaDoorRefE
import Derived.Test.YtdflblegdfpdpaaDoorScoreW
import Derived.Test.YtdflblegdfpdpaaDoorOpen
import Derived.Test.YtdflblegdfpdpaaDoorRows
import Derived.OpenShut
import Derived.SizedLaws
import Derived.ChangeSlices
import Derived.DataElems
import Derived.Deep.RegionHeld3
import Derived.Shelf.Vars
import Derived.Test.YtdflblegdfpdpaaDoorCards
import Derived.Test.YtdflblegdfpdpaaDoorTie
import Derived.WalkKit
import Derived.ProofKit
import Derived.ShutString
import Derived.ChangeOld
import Derived.Below
import Derived.Deep.DeepHandedRow
import Derived.Lib.LaidTab

section
/- larderref0.Copy, larderlaw3.Twin: the machine's calls; rows of bytes of the call's own. -/
namespace Go.Proofs.YtdflblegdfpdpaaDoor.CopyW
open Go Go.RowKit Go.Proofs.YtdflblegdfpdpaaDoorW.PrintWords Go.Proofs.YtdflblegdfpdpaaDoorW.PrintLast Go.Proofs.YtdflblegdfpdpaaDoorW.PrintMore Go.Proofs.YtdflblegdfpdpaaDoor.ScoreW Go.Proofs.YtdflblegdfpdpaaDoor.AppF Go.Proofs.YtdflblegdfpdpaaDoor.CloneW
set_option linter.unusedVariables false
set_option maxRecDepth 100000

/-- A whole block of bytes that begins with a list. -/
def RowAt (W : World) (g cap : Nat) (l : List Int) : Prop :=
  ∃ cur : List Value, W.heap[g]? = some (.cells cur.toArray 5 (0, 0)) ∧ cur.length = cap ∧ l.length ≤ cap ∧ l.length ≤ maxLen ∧ cur.take l.length = l.map (Value.int .u8)
theorem RowAt.get {W : World} {g cap : Nat} {l : List Int} (h : RowAt W g cap l) (j : Nat) (x : Int) (hx : l[j]? = some x) : W.cell? ⟨g, j, none⟩ = some (.int .u8 x) := by
  obtain ⟨cur, h1, h2, h3, _, h4⟩ := h
  have hj : j < l.length := (List.getElem?_eq_some_iff.1 hx).1
  have : cur.toArray[j]? = some (.int .u8 x) := by
    have h5 := congrArg (fun r => r[j]?) h4
    simp only [List.getElem?_take, if_pos hj, List.getElem?_map, hx, Option.map_some] at h5
    simpa using h5
  exact (blk_cell h1 j).trans this
theorem RowAt.C {W : World} {g cap : Nat} {l : List Int} (h : RowAt W g cap l) : Kd.C (Kd.int .u8) W (some ⟨g, 0, none⟩) l.length l := by
  refine ⟨rfl, ?_, fun h0 => ⟨_, rfl, fun j p hp => ⟨[.int .u8 p], rfl, rfl, fun i u hu => ?_⟩⟩⟩
  · obtain ⟨_, _, _, _, h5, _⟩ := h
    exact h5
  · have hi : i = 0 := by
      have := (List.getElem?_eq_some_iff.1 hu).1
      simp at this
      exact this
    subst hi
    obtain rfl : u = .int .u8 p := by simpa using hu.symm
    have e : (⟨g, 0, none⟩ : Addr).add (j * (Kd.int .u8).sz + 0) = ⟨g, j, none⟩ := by
      show (⟨g, 0, none⟩ : Addr).add (j * 1 + 0) = _
      rw [Nat.mul_one, Nat.add_zero, PA.add_off, Nat.zero_add]
    rw [e]
    exact h.get j p hp
theorem RowAt.below {W W' : World} {g cap : Nat} {l : List Int} (h : RowAt W g cap l) (hb : Below W.heap.size W W') : RowAt W' g cap l := by
  obtain ⟨cur, h1, h2⟩ := h
  exact ⟨cur, blk_below h1 hb, h2⟩
theorem RowAt.frozen {W : World} {g cap : Nat} {l : List Int} (h : RowAt W g cap l) (j : Nat) : W.frozen? ⟨g, j, none⟩ = false := by
  obtain ⟨cur, h1, h2⟩ := h
  exact blk_frozen h1 j
theorem RowAt.set {W : World} {g cap : Nat} {l : List Int} (h : RowAt W g cap l) (j : Nat) (hj : j < l.length) (y : Int) : RowAt (W.setCell ⟨g, j, none⟩ (.int .u8 y)) g cap (l.set j y) := by
  obtain ⟨cur, h1, h2, h3, h5, h4⟩ := h
  refine ⟨cur.set j (.int .u8 y), ?_, by simpa using h2, by simpa using h3, by simpa using h5, ?_⟩
  · have := blk_set h1 j (.int .u8 y)
    simpa using this
  · rw [List.length_set, List.take_set, h4, List.map_set]
theorem RowAt.take {W : World} {g cap : Nat} {l : List Int} (h : RowAt W g cap l) (n : Nat) : RowAt W g cap (l.take n) := by
  obtain ⟨cur, h1, h2, h3, h5, h4⟩ := h
  refine ⟨cur, h1, h2, by rw [List.length_take]; omega, by rw [List.length_take]; omega, ?_⟩
  rw [List.length_take, List.map_take, ← h4, List.take_take]
theorem row_made (w : World) (n : Nat) (hn : n ≤ maxLen) : RowAt (w.alloc (.cells (madeCells #[.int .u8 0] n) 5)) w.heap.size n (List.replicate n 0) := by
  refine ⟨List.replicate n (.int .u8 0), ?_, by simp, by simp, by simpa using hn, by simp⟩
  have := blk_new w (.cells (madeCells #[.int .u8 0] n) 5)
  rw [this]
  congr 2
  apply Array.toList_inj.1
  rw [toList_madeCells_one]

theorem make_u8 (n : Nat) (hn : n ≤ 140737488355328) (u : World) : (Instr.makeSlice 22 (.int .i64 (n : Int)) (.int .i64 (n : Int))).run Tryd.prog u =
    .ok (.slice (some ⟨u.heap.size, 0, none⟩) n n) (u.alloc (.cells (madeCells #[.int .u8 0] n) 5)) := by
  obtain ⟨i0, hi, hz0, hz1, hz2⟩ := infoB
  have h := run_make (P := Tryd.prog) u 22 5 i0 (.int .u8 0) Tryd.underlying22 hi hz0 .i64 .i64 (n : Int) (n : Int) (by omega) (Int.le_refl _) (by rw [hz2]; omega) (by omega)
  simpa [hz1, Value.cells] using h

theorem srcs {w : World} {A : Option Addr} {l : List Int} (h : Kd.C (Kd.int .u8) w A l.length l) (h0 : 0 < l.length) : ∃ ad, A = some ad ∧ ∀ j v, (l.map (Value.int .u8))[j]? = some v → w.cell? (ad.add j) = some v := by
  obtain ⟨ad, rfl, _⟩ := Kd.at_int h (0 : Int) (by omega) (by omega)
  exact ⟨ad, rfl, cells_of h⟩
theorem copy_run {w0 w1 : World} {base g d c : Nat} {A : Option Addr} {l : List Int} {cur : List Value} {ty : TypeId} (HB : Below base w0 w1) (hg : base ≤ g) (hrow : w1.heap[g]? = some (.cells cur.toArray 5 (0, 0))) (hn : cur.length = l.length) (hr : Kd.C (Kd.int .u8) w1 A l.length l) :
    ∃ w2, (Builtin.copy_ #[22, 22] ty #[.slice (some ⟨g, 0, none⟩) l.length d, .slice A l.length c]).run Tryd.prog w1 = .ok (.int .i64 l.length) w2 ∧ w2.heap[g]? = some (.cells (l.map (Value.int .u8)).toArray 5 (0, 0)) ∧ Below base w0 w2 := by
  have hs : (Tryd.prog.info? 5).map (·.size) = some 1 := by obtain ⟨i, hi, _, h2, _⟩ := infoB; rw [hi]; exact congrArg some h2
  by_cases h0 : l.length = 0
  · obtain rfl : l = [] := List.eq_nil_of_length_eq_zero h0
    obtain rfl : cur = [] := List.eq_nil_of_length_eq_zero hn
    exact ⟨w1, run_copy_none (P := Tryd.prog) w1 _ _ ty _ _ A _ d _ c Tryd.underlying22 hs rfl, hrow, HB⟩
  · obtain ⟨ad, rfl, hsrc⟩ := srcs hr (by omega)
    have := run_copy_row (P := Tryd.prog) w1 22 22 ty 5 g 0 l.length d ad l.length c cur.toArray 5 (l.map (Value.int .u8)) Tryd.underlying22 hs hrow (by rw [List.length_map]; exact (Nat.min_self _).symm) hsrc (by simp; omega) (fun v hv => by obtain ⟨y, _, rfl⟩ := List.mem_map.1 hv; rfl)
    rw [show goInt ((l.map (Value.int .u8)).length : Int) = .int .i64 l.length by simp [goInt]] at this
    refine ⟨_, this, ?_, below_setRow HB hg _⟩
    rw [setRow_heap _ _ _ _ _ _ hrow]
    congr 2
    simp [hn]
set_option maxHeartbeats 1600000 in
theorem copy.calls (A : Option Addr) (c : Nat) (l : List Int) (w : World) (hr : Kd.C (Kd.int .u8) w A l.length l) (hl : l.length ≤ 140737488355328) :
    Calls Tryd.prog 55 #[.slice A l.length c] w fun e w' => ∃ g, e = .returned (.slice (some ⟨g, 0, none⟩) l.length l.length) ∧ w.heap.size ≤ g ∧ RowAt w' g l.length l ∧ Below w.heap.size w w' := by
  have hmk := make_u8 l.length hl
  have HR := Aside0.mk hr
  have HM := Aside0.mk (row_made w l.length (by unfold maxLen; omega))
  have HSZ : Aside0 ((Tryd.prog.info? 5).map (·.size) = some 1) := ⟨by obtain ⟨i, hi, _, h2, _⟩ := infoB; rw [hi]; exact congrArg some h2⟩
  clear hr
  go_enter Tryd.func55, Tryd.ntmps55
  go_upto_region 2 with fail
  have HB := Aside0.mk (below_alloc (Below.refl w.heap.size w) (.cells (madeCells #[.int .u8 0] l.length) 5))
  have HR1 := Aside0.mk (Kd.C_below HR.out HB.out)
  clear hmk HR
  generalize w.alloc (.cells (madeCells #[.int .u8 0] l.length) 5) = w1 at *
  obtain ⟨g, hg⟩ : ∃ g, g = w.heap.size := ⟨_, rfl⟩
  rw [← hg] at HM
  rw [← hg]
  have HGG := Aside0.mk hg
  clear hg
  obtain ⟨cur, h1, h2, h3, h4, h5⟩ := HM.out
  have HC1 := Aside0.mk h1
  have HC2 := Aside0.mk h2
  clear h1 h2 h3 h4 h5 HM
  obtain ⟨w2, hrun, hrow, hb⟩ := copy_run (ty := 3) HB.out (by rw [HGG.out]; exact Nat.le_refl _) HC1.out HC2.out HR1.out (c := c) (d := l.length)
  have HROW := Aside0.mk hrow
  have HB2 := Aside0.mk hb
  clear hb hrow HC1 HC2 HR1 HB
  go_wp2_with fail
  go_ret
  exact ⟨g, rfl, by rw [HGG.out]; exact Nat.le_refl _, ⟨l.map (Value.int .u8), HROW.out, List.length_map _, Nat.le_refl _, by unfold maxLen; omega, List.take_of_length_le (by rw [List.length_map]; exact Nat.le_refl _)⟩, HB2.out⟩

theorem eql_nil2 (w : World) (a : Option Addr) (n c n' c' : Nat) : (binOp .eql 22 (.slice a n c) (.slice none n' c')).run Tryd.prog w = .ok (.bool a.isNone) w := eql_nil w a n c n' c'
set_option maxHeartbeats 1600000 in
theorem twin.calls (A : Option Addr) (c : Nat) (l : List Int) (w : World) (hr : Kd.C (Kd.int .u8) w A l.length l) (hl : l.length ≤ 140737488355328) :
    Calls Tryd.prog 44 #[.slice A l.length c] w fun e w' => ∃ A' c', e = .returned (.slice A' l.length c') ∧ l.length ≤ c' ∧ Kd.C (Kd.int .u8) w' A' l.length l ∧ Below w.heap.size w w' ∧ (A' = none → c' = 0) := by
  have q22 := eql_nil
  cases A with
  | none =>
    have h0 : l.length = 0 := by
      rcases Nat.eq_zero_or_pos l.length with h | h
      · exact h
      · obtain ⟨ad, hh, _⟩ := Kd.at_int hr (0 : Int) (by omega) (by omega)
        cases hh
    obtain rfl : l = [] := List.eq_nil_of_length_eq_zero h0
    go_enter Tryd.func44, Tryd.ntmps44
    go_wp2
    go_ret
    exact ⟨none, 0, rfl, by simp, Kd.C_nil _ _, Below.refl _ _, fun _ => rfl⟩
  | some ad =>
    have hc := copy.calls (some ad) c l w hr hl
    have HC := Aside0.mk hc
    clear hc hr
    go_enter Tryd.func44, Tryd.ntmps44
    go_wp2_with fail
    refine HC.out.mono ?_
    rintro e w1 ⟨g, rfl, hg, hrow, hb⟩
    have HROW := Aside0.mk hrow
    have HB := Aside0.mk hb
    clear hrow hb hg
    go_wp2_with fail
    go_ret
    exact ⟨some ⟨g, 0, none⟩, l.length, rfl, Nat.le_refl _, HROW.out.C, HB.out, fun h => by cases h⟩
end Go.Proofs.YtdflblegdfpdpaaDoor.CopyW
end

section
/- match.Fold, larderref0.Upper: the machine's calls. -/
namespace Go.Proofs.YtdflblegdfpdpaaDoor.FoldW
open Go Go.RowKit Go.Proofs.YtdflblegdfpdpaaDoorW.PrintWords Go.Proofs.YtdflblegdfpdpaaDoorW.PrintLast Go.Proofs.YtdflblegdfpdpaaDoorW.PrintMore Go.Proofs.YtdflblegdfpdpaaDoor.ScoreW Go.Proofs.YtdflblegdfpdpaaDoor.AppF Go.Proofs.YtdflblegdfpdpaaDoor.CloneW Go.Proofs.YtdflblegdfpdpaaDoor.CopyW
set_option linter.unusedVariables false
set_option maxRecDepth 100000

/-- A byte in capital letters. -/
def upB (c : Int) : Int := if 97 ≤ c ∧ c ≤ 122 then c - 32 else c
def foldAt (l : List Int) (i : Nat) : List Int := (l.take i).map upB ++ l.drop i
theorem foldAt_zero (l : List Int) : foldAt l 0 = l := by simp [foldAt]
theorem foldAt_len (l : List Int) (i : Nat) (h : i ≤ l.length) : (foldAt l i).length = l.length := by simp [foldAt]; omega
theorem foldAt_all (l : List Int) : foldAt l l.length = l.map upB := by simp [foldAt]
theorem foldAt_get (l : List Int) (i : Nat) (h : i < l.length) : (foldAt l i)[i]? = some l[i] := by
  unfold foldAt
  rw [List.getElem?_append_right (by simp; omega)]
  simp [Nat.min_eq_left (Nat.le_of_lt h), h]
theorem foldAt_set (l : List Int) (i : Nat) (h : i < l.length) : (foldAt l i).set i (upB l[i]) = foldAt l (i + 1) := by
  apply List.ext_getElem?
  intro j
  unfold foldAt
  rw [List.getElem?_set]
  by_cases hj : i = j
  · subst hj
    rw [if_pos rfl, if_pos (by simp; omega), List.getElem?_append_left (by simp; omega)]
    simp [h]
  · rw [if_neg hj]
    rcases Nat.lt_or_ge j i with h1 | h1
    · rw [List.getElem?_append_left (by simp; omega), List.getElem?_append_left (by simp; omega)]
      simp [h1, show j < i + 1 by omega]
    · rw [List.getElem?_append_right (by simp; omega), List.getElem?_append_right (by simp; omega)]
      simp only [List.length_map, List.length_take, List.getElem?_drop]
      congr 1
      omega
theorem foldAt_keep (l : List Int) (i : Nat) (h : i < l.length) (hu : upB l[i] = l[i]) : foldAt l (i + 1) = foldAt l i := by
  rw [← foldAt_set l i h, hu]
  apply List.ext_getElem?
  intro j
  rw [List.getElem?_set]
  by_cases hj : i = j
  · subst hj
    rw [if_pos rfl, if_pos (by rw [foldAt_len l i (by omega)]; exact h), foldAt_get l i h]
  · rw [if_neg hj]

theorem row_of_own {W : World} {base : Nat} {v : Value} {l : List Int} (h : W.ownsRow base 5 1 v l.length (l.map (Value.int .u8))) (h0 : 0 < l.length) : ∃ g cap, v = .slice (some ⟨g, 0, none⟩) l.length cap ∧ base ≤ g ∧ RowAt W g cap l := by
  obtain ⟨hl, ⟨_, hn⟩ | ⟨g, cap, cur, hv, hb, hh, hn, hc, hs, ht⟩⟩ := h
  · omega
  · refine ⟨g, cap, hv, hb, cur.toList, by rw [Array.toArray_toList]; exact hh, by rw [Array.length_toList, hs, Nat.mul_one], hn, Nat.le_trans hn hc, ?_⟩
    rw [Nat.mul_one] at ht
    exact ht
set_option maxHeartbeats 1600000 in
theorem clone2.calls (A : Option Addr) (c : Nat) (l : List Int) (w : World) (hr : Kd.C (Kd.int .u8) w A l.length l) (h0 : 0 < l.length) (hl : l.length ≤ 140737488355328) :
    Calls Tryd.prog 35 #[.slice A l.length c] w fun e w' => ∃ g cap, e = .returned (.slice (some ⟨g, 0, none⟩) l.length cap) ∧ w.heap.size ≤ g ∧ RowAt w' g cap l ∧ Below w.heap.size w w' := by
  obtain ⟨ad, rfl, hsrc⟩ := srcs hr h0
  obtain ⟨i, hi, z0, z1, z2⟩ := infoB
  have HSRC := Aside0.mk (fun (o : Obj) j v hv => Lib.cell?_alloc_some o (hsrc j v hv))
  have HI : Aside0 (Tryd.prog.info? 5 = some i) := ⟨hi⟩
  have HZ : Aside0 (i.zero = some (.int .u8 0) ∧ i.size = 1 ∧ i.bytes = 1) := ⟨z0, z1, z2⟩
  have q22 := eql_nil
  clear hr hsrc hi z0 z1 z2
  go_enter Tryd.func35, Tryd.ntmps35
  go_wp2_with (first
    | ((with_reducible refine gate_builtin (b := .append) (xs := #[.tmp 5, .tmp 6]) rfl ?_); at_builtin; refine wpList_append_grows _ rfl (.tmp 5) (.tmp 6) 22 rfl 5 i (.int .u8 0) 1 1 Tryd.underlying22 HI.out HZ.out.1 HZ.out.2.1 HZ.out.2.2 rfl (by decide) (some ⟨w.heap.size, 0, none⟩) 0 0 [] rfl (fun h => by cases h) rfl (fun b hb' j u hu => by simp at hu) ad l.length c (l.map (Value.int .u8)) rfl (by simp) (HSRC.out _) (fun u hu => by obtain ⟨y, _, rfl⟩ := List.mem_map.1 hu; rfl) (by omega) (by unfold maxLen; omega) (by omega) ?_; intro v' w' ho hgr; have HO := Aside0.mk ho; have HB := Aside0.mk (PB.below_next (below_alloc (Below.refl w.heap.size w) _) ((Below.refl _ _).grown hgr (Nat.le_refl _) (by intro k hk; simp at hk))); clear ho hgr))
  obtain ⟨g, cap, rfl, hg, hrow⟩ := row_of_own (l := l) (by have := HO.out; rw [Nat.zero_add] at this; exact this) h0
  have HROW := Aside0.mk hrow
  have HG := Aside0.mk hg
  clear hrow hg
  go_wp2_with fail
  go_ret
  exact ⟨g, cap, rfl, by have := HG.out; rw [size_alloc] at this; omega, HROW.out, HB.out⟩
theorem upB_in {c : Int} (h : 97 ≤ c ∧ c ≤ 122) : upB c = c - 32 := if_pos h
theorem upB_out {c : Int} (h : ¬ (97 ≤ c ∧ c ≤ 122)) : upB c = c := if_neg h
set_option maxHeartbeats 3200000 in
theorem upper.calls (A : Option Addr) (c : Nat) (l : List Int) (w : World) (hr : Kd.C (Kd.int .u8) w A l.length l) (hl : l.length ≤ 1000000000000) (hi : ∀ x ∈ l, 0 ≤ x ∧ x < 256) :
    Calls Tryd.prog 49 #[.slice A l.length c] w fun e w' => e = .returned (.string (strOfNums (l.map upB))) ∧ Below w.heap.size w w' := by
  have HC := Aside0.mk (copy.calls A c l w hr (by omega))
  have HIN := Aside0.mk hi
  clear hr hi
  go_enter Tryd.func49, Tryd.ntmps49
  go_wp2_with fail
  refine HC.out.mono ?_
  rintro e w1 ⟨g, rfl, hg, hrow, hb⟩
  have HROW := Aside0.mk hrow
  have HB := Aside0.mk hb
  have HG := Aside0.mk hg
  clear hrow hb hg HC
  go_wp2_with fail
  go_loopw [4] (fun v4 wr => ∃ i : Nat, v4 = .int .i64 i ∧ i ≤ l.length ∧ Aside0 (RowAt wr g l.length (foldAt l i) ∧ Below w.heap.size w wr)) (fun v4 wr => l.length - (intOf v4).toNat)
  case atStart => exact ⟨0, rfl, by omega, ⟨by rw [foldAt_zero]; exact HROW.out, HB.out⟩⟩
  case round =>
    obtain ⟨i, rfl, hi2, HI⟩ := hrel
    by_cases hlt : i < l.length
    · have c1 : decide ((i : Int) < l.length) = true := decide_eq_true (by omega)
      have c1' : decide (i < l.length) = true := decide_eq_true hlt
      obtain ⟨x, hx⟩ : ∃ x, x = l[i] := ⟨_, rfl⟩
      have hxr := HIN.out x (by rw [hx]; exact List.getElem_mem hlt)
      have hcell : wr.cell? ⟨g, i, none⟩ = some (.int .u8 x) := HI.out.1.get i x (by rw [foldAt_get l i hlt, hx])
      have hfz := HI.out.1.frozen i
      have HX := Aside0.mk hx
      clear hx
      by_cases h1 : 97 ≤ x
      · have d1 : decide (97 ≤ x) = true := decide_eq_true h1
        by_cases h2 : x ≤ 122
        · have d2 : decide (x ≤ 122) = true := decide_eq_true h2
          go_wp2_with fail
          go_roundw
          case rel => exact ⟨i + 1, by go_num, by omega, ⟨by
            rw [← foldAt_set l i hlt, ← HX.out, upB_in ⟨h1, h2⟩]
            exact HI.out.1.set i (by rw [foldAt_len l i hi2]; exact hlt) _, GlobW.below_put HI.out.2 HG.out i _⟩⟩
          case measure => simp [intOf]; omega
        · have d2 : decide (x ≤ 122) = false := decide_eq_false h2
          go_wp2_with fail
          go_roundw
          case rel => exact ⟨i + 1, by go_num, by omega, ⟨by rw [foldAt_keep l i hlt (by rw [← HX.out]; exact upB_out (fun h => h2 h.2))]; exact HI.out.1, HI.out.2⟩⟩
          case measure => simp [intOf]; omega
      · have d1 : decide (97 ≤ x) = false := decide_eq_false h1
        go_wp2_with fail
        go_roundw
        case rel => exact ⟨i + 1, by go_num, by omega, ⟨by rw [foldAt_keep l i hlt (by rw [← HX.out]; exact upB_out (fun h => h1 h.1))]; exact HI.out.1, HI.out.2⟩⟩
        case measure => simp [intOf]; omega
    · obtain rfl : i = l.length := by omega
      have c1 : decide ((l.length : Int) < l.length) = false := decide_eq_false (by omega)
      have c1' : decide (l.length < l.length) = false := decide_eq_false hlt
      have hs := Kd.C_string (P := Tryd.prog) (c := l.length) Tryd.underlying22 Tryd.underlying5 Tryd.underlying9 HI.out.1.C
      rw [foldAt_len l _ (Nat.le_refl _), foldAt_all] at hs
      obtain ⟨sx, hsx⟩ : ∃ sx, sx = strOfNums (l.map upB) := ⟨_, rfl⟩
      rw [← hsx] at hs
      have HSX := Aside0.mk hsx
      clear hsx
      go_wp2_with fail
      go_ret
      exact ⟨by rw [← HSX.out]; rfl, HI.out.2⟩
set_option maxHeartbeats 3200000 in
theorem fold.calls (A : Option Addr) (c : Nat) (l : List Int) (w : World) (hr : Kd.C (Kd.int .u8) w A l.length l) (hl : l.length ≤ 1000000000000) (hi : ∀ x ∈ l, 0 ≤ x ∧ x < 256) :
    Calls Tryd.prog 48 #[.slice A l.length c] w fun e w' => e = .returned (.string (strOfNums (l.map upB))) ∧ Below w.heap.size w w' := by
  by_cases h0 : l.length = 0
  · obtain rfl : l = [] := List.eq_nil_of_length_eq_zero h0
    have HC := Aside0.mk (clone.calls A c [] w hr (by simp))
    clear hr hi
    go_enter Tryd.func48, Tryd.ntmps48
    go_wp2_with fail
    refine HC.out.mono ?_
    rintro e w1 ⟨A', c', rfl, hc', hC, hb, _⟩
    have hs := Kd.C_string (P := Tryd.prog) (c := c') Tryd.underlying22 Tryd.underlying5 Tryd.underlying9 hC
    have hs : (convert 22 9 (.slice A' 0 c')).run Tryd.prog w1 = .ok (.string (strOfNums (([] : List Int).map upB))) w1 := hs
    have HB := Aside0.mk hb
    clear hC hb HC
    obtain ⟨sx, hsx⟩ : ∃ sx, sx = strOfNums (([] : List Int).map upB) := ⟨_, rfl⟩
    rw [← hsx] at hs
    have HSX := Aside0.mk hsx
    clear hsx
    go_wp2_with fail
    go_loopw [10] (fun v10 wr => v10 = .int .i64 0 ∧ wr = w1) (fun v10 wr => 0)
    case atStart => exact ⟨rfl, rfl⟩
    case round =>
      obtain ⟨rfl, rfl⟩ := hrel
      go_wp2_with fail
      go_ret
      exact ⟨by rw [← HSX.out]; rfl, HB.out⟩
  have HC := Aside0.mk (clone2.calls A c l w hr (by omega) (by omega))
  have HIN := Aside0.mk hi
  clear hr hi
  go_enter Tryd.func48, Tryd.ntmps48
  go_wp2_with fail
  refine HC.out.mono ?_
  rintro e w1 ⟨g, cap, rfl, hg, hrow, hb⟩
  have HROW := Aside0.mk hrow
  have HB := Aside0.mk hb
  have HG := Aside0.mk hg
  clear hrow hb hg HC
  go_wp2_with fail
  go_loopw [10] (fun v10 wr => ∃ i : Nat, v10 = .int .i64 i ∧ i ≤ l.length ∧ Aside0 (RowAt wr g cap (foldAt l i) ∧ Below w.heap.size w wr)) (fun v10 wr => l.length - (intOf v10).toNat)
  case atStart => exact ⟨0, rfl, by omega, ⟨by rw [foldAt_zero]; exact HROW.out, HB.out⟩⟩
  case round =>
    obtain ⟨i, rfl, hi2, HI⟩ := hrel
    by_cases hlt : i < l.length
    · have c1 : decide ((i : Int) < l.length) = true := decide_eq_true (by omega)
      have c1' : decide (i < l.length) = true := decide_eq_true hlt
      obtain ⟨x, hx⟩ : ∃ x, x = l[i] := ⟨_, rfl⟩
      have hxr := HIN.out x (by rw [hx]; exact List.getElem_mem hlt)
      have hcell : wr.cell? ⟨g, i, none⟩ = some (.int .u8 x) := HI.out.1.get i x (by rw [foldAt_get l i hlt, hx])
      have hfz := HI.out.1.frozen i
      have HX := Aside0.mk hx
      clear hx
      by_cases h1 : 97 ≤ x
      · have d1 : decide (97 ≤ x) = true := decide_eq_true h1
        by_cases h2 : x ≤ 122
        · have d2 : decide (x ≤ 122) = true := decide_eq_true h2
          go_wp2_with fail
          go_roundw
          case rel => exact ⟨i + 1, by go_num, by omega, ⟨by
            rw [← foldAt_set l i hlt, ← HX.out, upB_in ⟨h1, h2⟩]
            exact HI.out.1.set i (by rw [foldAt_len l i hi2]; exact hlt) _, GlobW.below_put HI.out.2 HG.out i _⟩⟩
          case measure => simp [intOf]; omega
        · have d2 : decide (x ≤ 122) = false := decide_eq_false h2
          go_wp2_with fail
          go_roundw
          case rel => exact ⟨i + 1, by go_num, by omega, ⟨by rw [foldAt_keep l i hlt (by rw [← HX.out]; exact upB_out (fun h => h2 h.2))]; exact HI.out.1, HI.out.2⟩⟩
          case measure => simp [intOf]; omega
      · have d1 : decide (97 ≤ x) = false := decide_eq_false h1
        go_wp2_with fail
        go_roundw
        case rel => exact ⟨i + 1, by go_num, by omega, ⟨by rw [foldAt_keep l i hlt (by rw [← HX.out]; exact upB_out (fun h => h1 h.1))]; exact HI.out.1, HI.out.2⟩⟩
        case measure => simp [intOf]; omega
    · obtain rfl : i = l.length := by omega
      have c1 : decide ((l.length : Int) < l.length) = false := decide_eq_false (by omega)
      have c1' : decide (l.length < l.length) = false := decide_eq_false hlt
      have hs := Kd.C_string (P := Tryd.prog) (c := cap) Tryd.underlying22 Tryd.underlying5 Tryd.underlying9 HI.out.1.C
      rw [foldAt_len l _ (Nat.le_refl _), foldAt_all] at hs
      obtain ⟨sx, hsx⟩ : ∃ sx, sx = strOfNums (l.map upB) := ⟨_, rfl⟩
      rw [← hsx] at hs
      have HSX := Aside0.mk hsx
      clear hsx
      go_wp2_with fail
      go_ret
      exact ⟨by rw [← HSX.out]; rfl, HI.out.2⟩
end Go.Proofs.YtdflblegdfpdpaaDoor.FoldW
end

section
/- Contracts of bytes.IndexByte, Index, Join, laid by the kit's tool lay-shelf.mjs and written plain by lay-plain.mjs (numbers of seat r9). -/
namespace Go.Proofs.YtdflblegdfpdpaaDoor.ShelfB
open Go Go.Proofs Go.Shelf
def lays185_ren : Go.Shelf.Ren := ⟨fun | 185 => 63 | 187 => 62 | 115 => 54 | 253 => 70 | 224 => 71 | 254 => 72 | 255 => 69 | 291 => 75 | n => n, fun | 37 => 22 | 3 => 3 | 4 => 4 | 0 => 0 | 5 => 5 | 46 => 85 | 9 => 9 | 146 => 119 | 51 => 118 | n => n, fun | 1 => 2 | n => n⟩
theorem lays185 : Go.Proofs.Lays.n185 Tryd.prog lays185_ren := {
  mixed := by kernel_rfl
  f115 := Tryd.func54.trans (congrArg some (by kernel_rfl))
  f185 := Tryd.func63.trans (congrArg some (by kernel_rfl))
  f187 := Tryd.func62.trans (congrArg some (by kernel_rfl))
  f224 := Tryd.func71.trans (congrArg some (by kernel_rfl))
  f253 := Tryd.func70.trans (congrArg some (by kernel_rfl))
  f254 := Tryd.func72.trans (congrArg some (by kernel_rfl))
  f255 := Tryd.func69.trans (congrArg some (by kernel_rfl))
  f291 := Tryd.func75.trans (congrArg some (by kernel_rfl))
  t0 := Tryd.underlying0
  a0 := Tryd.isAgg0
  z0 := Tryd.sizeOf0
  v0 := Tryd.zeroValue0
  t3 := Tryd.underlying3
  a3 := Tryd.isAgg3
  z3 := Tryd.sizeOf3
  v3 := Tryd.zeroValue3
  t4 := Tryd.underlying4
  a4 := Tryd.isAgg4
  z4 := Tryd.sizeOf4
  v4 := Tryd.zeroValue4
  t5 := Tryd.underlying5
  a5 := Tryd.isAgg5
  z5 := Tryd.sizeOf5
  v5 := Tryd.zeroValue5
  t9 := Tryd.underlying9
  a9 := Tryd.isAgg9
  z9 := Tryd.sizeOf9
  v9 := Tryd.zeroValue9
  t37 := Tryd.underlying22
  a37 := Tryd.isAgg22
  z37 := Tryd.sizeOf22
  v37 := Tryd.zeroValue22
  t46 := Tryd.underlying85
  a46 := Tryd.isAgg85
  z46 := Tryd.sizeOf85
  v46 := Tryd.zeroValue85
  t51 := Tryd.underlying118
  a51 := Tryd.isAgg118
  z51 := Tryd.sizeOf118
  v51 := Tryd.zeroValue118
  t146 := Tryd.underlying119
  a146 := Tryd.isAgg119
  z146 := Tryd.sizeOf119
  v146 := Tryd.zeroValue119
  g1 := by kernel_rfl }
def lays187_ren : Go.Shelf.Ren := ⟨fun | 187 => 62 | 255 => 69 | n => n, fun | 37 => 22 | 5 => 5 | 3 => 3 | n => n, fun | n => n⟩
theorem lays187 : Go.Proofs.Lays.n187 Tryd.prog lays187_ren := {
  mixed := by kernel_rfl
  f187 := Tryd.func62.trans (congrArg some (by kernel_rfl))
  f255 := Tryd.func69.trans (congrArg some (by kernel_rfl))
  t3 := Tryd.underlying3
  a3 := Tryd.isAgg3
  z3 := Tryd.sizeOf3
  v3 := Tryd.zeroValue3
  t5 := Tryd.underlying5
  a5 := Tryd.isAgg5
  z5 := Tryd.sizeOf5
  v5 := Tryd.zeroValue5
  t37 := Tryd.underlying22
  a37 := Tryd.isAgg22
  z37 := Tryd.sizeOf22
  v37 := Tryd.zeroValue22 }
open Go.RowKit Go.Lib in
theorem bytes_IndexByte_at (a : Addr) (n c : Nat) (xs : List Int) (cv : Int) (w : World) (hx : xs.length = n) (hc : ∀ i, i < n → w.cell? (a.add i) = some (.int .u8 (xs.getD i 0))) :
    Calls Tryd.prog 62 #[.slice (some a) n c, .int .u8 cv] w fun e w' => e = .returned (.int .i64 (Lib.indexByte (Lib.bytesOf xs) cv.toNat.toUInt8)) ∧ w' = w := Any.bytes_IndexByte_at lays187 a n c xs cv w hx hc
open Go.Proofs Go.RowKit Go.Lib in
theorem bytes_Index_at (a1 a2 : Addr) (n c1 k c2 : Nat) (xs ys : List Int) (m : Int) (w : World) (hx : xs.length = n) (hy : ys.length = k) (hr1 : ∀ x ∈ xs, 0 ≤ x ∧ x < 256) (hr2 : ∀ y ∈ ys, 0 ≤ y ∧ y < 256) (hc1 : ∀ i, i < n → w.cell? (a1.add i) = some (.int .u8 (xs.getD i 0))) (hc2 : ∀ i, i < k → w.cell? (a2.add i) = some (.int .u8 (ys.getD i 0))) (hcap : n ≤ c1) (hs : n < 4294967281) (hk : k ≤ 9223372036854775807) (hm : w.cell? ⟨2, 0, none⟩ = some (.int .i64 m)) :
    Calls Tryd.prog 63 #[.slice (some a1) n c1, .slice (some a2) k c2] w fun e w' => e = .returned (.int .i64 (Lib.index (Lib.bytesOf xs) (Lib.bytesOf ys))) ∧ ∃ q, w' = w.drewN q := Any.bytes_Index_at lays185 a1 a2 n c1 k c2 xs ys m w hx hy hr1 hr2 hc1 hc2 hcap hs hk hm
open Go.Proofs Go.RowKit Go.Lib in
theorem bytes_Index_nil (p2 : Option Addr) (k c2 : Nat) (w : World) (hk : k ≤ 9223372036854775807) (h1 : k = 1 → ∃ b2 o2 cv, p2 = some ⟨b2, o2, none⟩ ∧ w.cell? ⟨b2, o2, none⟩ = some (.int .u8 cv)) :
    Calls Tryd.prog 63 #[.slice none 0 0, .slice p2 k c2] w fun e w' => e = .returned (.int .i64 (if k = 0 then 0 else -1)) ∧ w' = w := Any.bytes_Index_nil lays185 p2 k c2 w hk h1
open Go.RowKit Go.Lib in
theorem bytes_Index_longer (p q : Option Addr) (n c m d : Nat) (w : World) (h2 : 2 ≤ m) (hnm : n < m) (hm : m ≤ 9223372036854775807) :
    Calls Tryd.prog 63 #[.slice p n c, .slice q m d] w fun e w' => e = .returned (.int .i64 (-1)) ∧ w' = w := Any.bytes_Index_longer lays185 p q n c m d w h2 hnm hm
def laysSlJ14_ren : Go.Shelf.Ren := ⟨fun | 14 => 73 | 15 => 76 | n => n, fun | 26 => 114 | 22 => 22 | 3 => 3 | 4 => 4 | 0 => 0 | 9 => 9 | 20 => 20 | 5 => 5 | n => n, fun | n => n⟩
theorem laysSlJ14 : Go.Proofs.SlLaysJ.n14 Tryd.prog laysSlJ14_ren := {
  mixed := by kernel_rfl
  f14 := Tryd.func73.trans (congrArg some (by kernel_rfl))
  f15 := Tryd.func76.trans (congrArg some (by kernel_rfl))
  t0 := Tryd.underlying0
  a0 := Tryd.isAgg0
  z0 := Tryd.sizeOf0
  v0 := Tryd.zeroValue0
  t3 := Tryd.underlying3
  a3 := Tryd.isAgg3
  z3 := Tryd.sizeOf3
  v3 := Tryd.zeroValue3
  t4 := Tryd.underlying4
  a4 := Tryd.isAgg4
  z4 := Tryd.sizeOf4
  v4 := Tryd.zeroValue4
  t9 := Tryd.underlying9
  a9 := Tryd.isAgg9
  z9 := Tryd.sizeOf9
  v9 := Tryd.zeroValue9
  t20 := Tryd.underlying20
  a20 := Tryd.isAgg20
  z20 := Tryd.sizeOf20
  v20 := Tryd.zeroValue20
  t22 := Tryd.underlying22
  a22 := Tryd.isAgg22
  z22 := Tryd.sizeOf22
  v22 := Tryd.zeroValue22
  t26 := Tryd.underlying114
  a26 := Tryd.isAgg114
  z26 := Tryd.sizeOf114
  v26 := Tryd.zeroValue114
  t5 := Tryd.underlying5
  z5 := Tryd.sizeOf5
  i5 := by kernel_rfl }
open Go.RowKit Go.Lib in
theorem bytes_Join_many (b o n c : Nat) (vs : List Value) (ls : List (List UInt8)) (sv : Value) (sep : List UInt8) (w : World) (hn : ls.length = n) (h2 : 2 ≤ n) (hP : Lib.PartsAt w ⟨b, o, none⟩ vs ls) (hcap : n ≤ c) (hS : Lib.HoldsBytes w sv sep) (hn47 : n ≤ 140737488355328) (hlen : Lib.lens ls + sep.length * (n - 1) ≤ 140737488355328) :
    Calls Tryd.prog 73 #[.slice (some ⟨b, o, none⟩) n c, sv] w fun e w' => ∃ v', e = .returned v' ∧ Lib.FreshBytes w.heap.size w' v' (Lib.join ls sep) ∧ Below w.heap.size w w' := Any.bytes_Join_many laysSlJ14 b o n c vs ls sv sep w hn h2 hP hcap hS hn47 hlen
theorem bytes_IndexByte_nil (cv : Int) (w : World) :
    Calls Tryd.prog 62 #[.slice none 0 0, .int .u8 cv] w fun e w' => e = .returned (.int .i64 (-1)) ∧ w' = w := Any.bytes_IndexByte_nil lays187 cv w
end Go.Proofs.YtdflblegdfpdpaaDoor.ShelfB
end

section
/- Fill, in plain Lean. -/
namespace Go.Proofs.YtdflblegdfpdpaaDoor.FillS
open Go
set_option linter.unusedVariables false

/-- Where the first star stands, or -1. -/
def starI : List Int → Int
  | [] => -1
  | b :: l => if b = 42 then 0 else if starI l = -1 then -1 else starI l + 1
/-- Where the first arrow stands, or -1. -/
def arrowI : List Int → Int
  | [] => -1
  | b :: l => if b = 45 ∧ l.head? = some 62 then 0 else if arrowI l = -1 then -1 else arrowI l + 1
def arrAt (l : List Int) (j : Nat) : Prop := l[j]? = some 45 ∧ l[j + 1]? = some 62
theorem star_spec (l : List Int) : (starI l = -1 ∧ ∀ j : Nat, l[j]? ≠ some 42) ∨ ∃ i : Nat, starI l = i ∧ l[i]? = some 42 ∧ ∀ j : Nat, j < i → l[j]? ≠ some 42 := by
  induction l with
  | nil => exact .inl ⟨rfl, fun j => by simp⟩
  | cons b l ih =>
    by_cases hb : b = 42
    · refine .inr ⟨0, by simp [starI, hb], by simp [hb], fun j hj => by omega⟩
    · rcases ih with ⟨h1, h2⟩ | ⟨i, h1, h2, h3⟩
      · refine .inl ⟨by simp [starI, hb, h1], fun j => ?_⟩
        cases j with
        | zero => simpa using hb
        | succ j => simpa using h2 j
      · refine .inr ⟨i + 1, ?_, by simpa using h2, fun j hj => ?_⟩
        · unfold starI
          rw [if_neg hb, h1, if_neg (by omega)]
          omega
        · cases j with
          | zero => simpa using hb
          | succ j => simpa using h3 j (by omega)
theorem arrow_spec (l : List Int) : (arrowI l = -1 ∧ ∀ j : Nat, ¬ arrAt l j) ∨ ∃ i : Nat, arrowI l = i ∧ arrAt l i ∧ ∀ j : Nat, j < i → ¬ arrAt l j := by
  induction l with
  | nil => exact .inl ⟨rfl, fun j h => by simp [arrAt] at h⟩
  | cons b l ih =>
    by_cases hb : b = 45 ∧ l.head? = some 62
    · refine .inr ⟨0, by simp [arrowI, hb], ⟨by simp [hb.1], ?_⟩, fun j hj => by omega⟩
      have := hb.2
      cases l <;> simp_all
    · have h0 : ¬ arrAt (b :: l) 0 := by
        rintro ⟨h1, h2⟩
        refine hb ⟨by simpa using h1, ?_⟩
        cases l <;> simp_all
      rcases ih with ⟨h1, h2⟩ | ⟨i, h1, h2, h3⟩
      · refine .inl ⟨?_, fun j => ?_⟩
        · unfold arrowI
          rw [if_neg hb, if_pos h1]
        · cases j with
          | zero => exact h0
          | succ j => intro h; exact h2 j ⟨by simpa using h.1, by simpa using h.2⟩
      · refine .inr ⟨i + 1, ?_, ⟨by simpa using h2.1, by simpa using h2.2⟩, fun j hj => ?_⟩
        · unfold arrowI
          rw [if_neg hb, h1, if_neg (by omega)]
          omega
        · cases j with
          | zero => exact h0
          | succ j => intro h; exact h3 j (by omega) ⟨by simpa using h.1, by simpa using h.2⟩
theorem ofNat_eq {x y : Int} (hx : 0 ≤ x ∧ x < 256) (hy : 0 ≤ y ∧ y < 256) : (UInt8.ofNat x.toNat = UInt8.ofNat y.toNat) ↔ x = y := by
  constructor
  · intro h
    have := congrArg UInt8.toNat h
    simp only [UInt8.toNat_ofNat'] at this
    rw [Nat.mod_eq_of_lt (show x.toNat < 2 ^ 8 by omega), Nat.mod_eq_of_lt (show y.toNat < 2 ^ 8 by omega)] at this
    omega
  · rintro rfl; rfl
theorem star_eq (l : List Int) (h : ∀ x ∈ l, 0 ≤ x ∧ x < 256) : Lib.indexByte (Lib.bytesOf l) (42 : Int).toNat.toUInt8 = starI l := by
  induction l with
  | nil => rfl
  | cons b l ih =>
    have hb := h b (List.mem_cons_self ..)
    have ih := ih (fun x hx => h x (List.mem_cons_of_mem _ hx))
    show Lib.indexByte (UInt8.ofNat b.toNat :: Lib.bytesOf l) _ = _
    unfold Lib.indexByte starI
    rw [ih]
    have e : (UInt8.ofNat b.toNat == (42 : Int).toNat.toUInt8) = decide (b = 42) := by
      have := ofNat_eq hb (show (0 : Int) ≤ 42 ∧ (42 : Int) < 256 by decide)
      rw [Bool.eq_iff_iff, beq_iff_eq, decide_eq_true_iff]
      exact this
    rw [e]
    simp
theorem arrow_eq (l : List Int) (h : ∀ x ∈ l, 0 ≤ x ∧ x < 256) : Lib.index (Lib.bytesOf l) (Lib.bytesOf [45, 62]) = arrowI l := by
  induction l with
  | nil => rfl
  | cons b l ih =>
    have hb := h b (List.mem_cons_self ..)
    have ih := ih (fun x hx => h x (List.mem_cons_of_mem _ hx))
    show Lib.index (UInt8.ofNat b.toNat :: Lib.bytesOf l) _ = _
    unfold Lib.index arrowI
    rw [ih]
    have e : (Lib.bytesOf [45, 62]).isPrefixOf (UInt8.ofNat b.toNat :: Lib.bytesOf l) = decide (b = 45 ∧ l.head? = some 62) := by
      rw [Bool.eq_iff_iff, decide_eq_true_iff]
      have h1 := ofNat_eq (show (0 : Int) ≤ 45 ∧ (45 : Int) < 256 by decide) hb
      cases l with
      | nil => simp [Lib.bytesOf, List.isPrefixOf]
      | cons c l =>
        have h2 := ofNat_eq (show (0 : Int) ≤ 62 ∧ (62 : Int) < 256 by decide) (h c (by simp))
        simp only [Lib.bytesOf, List.map_cons, List.map_nil, List.isPrefixOf, Bool.and_true, Bool.and_eq_true, beq_iff_eq, List.head?_cons, Option.some.injEq]
        rw [h1, h2]
        constructor
        · rintro ⟨rfl, rfl⟩; exact ⟨rfl, rfl⟩
        · rintro ⟨rfl, rfl⟩; exact ⟨rfl, rfl⟩
    rw [e]
    simp
/-- What Fill answers: key, field, whether there is a star. -/
def fillS (p t : List Int) : List Int × List Int × Bool :=
  if starI p = -1 then ([], [], false) else
    if 0 ≤ arrowI (p.drop ((starI p).toNat + 1)) ∧ arrowI (p.drop ((starI p).toNat + 1)) + 2 < (p.drop ((starI p).toNat + 1)).length then
      (p.take (starI p).toNat ++ t ++ (p.drop ((starI p).toNat + 1)).take (arrowI (p.drop ((starI p).toNat + 1))).toNat, (p.drop ((starI p).toNat + 1)).drop ((arrowI (p.drop ((starI p).toNat + 1))).toNat + 2), true)
    else (p.take (starI p).toNat ++ t ++ p.drop ((starI p).toNat + 1), [], true)
end Go.Proofs.YtdflblegdfpdpaaDoor.FillS
end

section
/- bytes.IndexByte, Index, Join as Fill calls them. -/
namespace Go.Proofs.YtdflblegdfpdpaaDoor.FillA
open Go Go.RowKit Go.Proofs.YtdflblegdfpdpaaDoorW.PrintWords Go.Proofs.YtdflblegdfpdpaaDoorW.PrintLast Go.Proofs.YtdflblegdfpdpaaDoorW.PrintMore Go.Proofs.YtdflblegdfpdpaaDoor.ScoreW Go.Proofs.YtdflblegdfpdpaaDoor.AppF Go.Proofs.YtdflblegdfpdpaaDoor.CloneW Go.Proofs.YtdflblegdfpdpaaDoor.CopyW Go.Proofs.YtdflblegdfpdpaaDoor.FillS Go.Proofs.YtdflblegdfpdpaaDoor.ShelfB
set_option linter.unusedVariables false
set_option maxRecDepth 100000

theorem nil_of {w : World} {l : List Int} (h : Kd.C (Kd.int .u8) w none l.length l) : l = [] := by
  rcases Nat.eq_zero_or_pos l.length with h' | h'
  · exact List.eq_nil_of_length_eq_zero h'
  · obtain ⟨ad, hh, _⟩ := Kd.at_int h (0 : Int) (by omega) (by omega)
    cases hh
theorem cellsD {w : World} {ad : Addr} {l : List Int} (h : Kd.C (Kd.int .u8) w (some ad) l.length l) : ∀ i, i < l.length → w.cell? (ad.add i) = some (.int .u8 (l.getD i 0)) := by
  intro i hi
  refine cells_of h i _ ?_
  rw [List.getElem?_map, List.getD_eq_getElem?_getD, List.getElem?_eq_getElem hi]
  rfl
theorem indexByte.calls (A : Option Addr) (c : Nat) (l : List Int) (w : World) (h : Kd.C (Kd.int .u8) w A l.length l) (hn : A = none → c = 0) (hi : ∀ x ∈ l, 0 ≤ x ∧ x < 256) :
    Calls Tryd.prog 62 #[.slice A l.length c, .int .u8 42] w fun e w' => e = .returned (.int .i64 (starI l)) ∧ w' = w := by
  cases A with
  | none =>
    obtain rfl := nil_of h
    obtain rfl := hn rfl
    exact bytes_IndexByte_nil 42 w
  | some ad =>
    have := bytes_IndexByte_at ad l.length c l 42 w rfl (cellsD h)
    rw [star_eq l hi] at this
    exact this
theorem arrow_short {l : List Int} (h : l.length < 2) : arrowI l = -1 := by
  rcases arrow_spec l with ⟨h1, _⟩ | ⟨i, _, ⟨_, h2⟩, _⟩
  · exact h1
  · have := (List.getElem?_eq_some_iff.1 h2).1
    omega
theorem index.calls (A : Option Addr) (c : Nat) (l : List Int) (ad2 : Addr) (c2 : Nat) (m : Int) (w : World) (h : Kd.C (Kd.int .u8) w A l.length l) (hc : l.length ≤ c) (hi : ∀ x ∈ l, 0 ≤ x ∧ x < 256) (hl : l.length ≤ 1048576) (h2 : Kd.C (Kd.int .u8) w (some ad2) 2 [45, 62]) (hm : w.cell? ⟨2, 0, none⟩ = some (.int .i64 m)) :
    Calls Tryd.prog 63 #[.slice A l.length c, .slice (some ad2) 2 c2] w fun e w' => e = .returned (.int .i64 (arrowI l)) ∧ Below w.heap.size w w' := by
  by_cases hs : l.length < 2
  · refine (bytes_Index_longer A (some ad2) l.length c 2 c2 w (by omega) hs (by omega)).mono ?_
    rintro e w' ⟨rfl, rfl⟩
    exact ⟨by rw [arrow_short hs], Below.refl _ _⟩
  · obtain ⟨ad, rfl, _⟩ := Kd.at_int h (0 : Int) (by omega) (by omega)
    have := bytes_Index_at ad ad2 l.length c 2 c2 l [45, 62] m w rfl rfl hi (by intro y hy; simp at hy; omega) (cellsD h) (cellsD (l := [45, 62]) h2) hc (by omega) (by omega) hm
    rw [arrow_eq l hi] at this
    refine this.mono ?_
    rintro e w' ⟨rfl, q, rfl⟩
    exact ⟨rfl, (Drawn0.step (Drawn0.refl w) q).below⟩

theorem byte_nat {y : Int} (hy : 0 ≤ y ∧ y < 256) : ((UInt8.ofNat y.toNat).toNat : Int) = y := by
  simp only [UInt8.toNat_ofNat']
  rw [Nat.mod_eq_of_lt (show y.toNat < 2 ^ 8 by omega)]
  omega
theorem holds_of {W : World} {A : Option Addr} {c : Nat} {l : List Int} (h : Kd.C (Kd.int .u8) W A l.length l) (hi : ∀ x ∈ l, 0 ≤ x ∧ x < 256) : Lib.HoldsBytes W (.slice A l.length c) (Lib.bytesOf l) := by
  refine ⟨A, c, by simp [Lib.bytesOf], fun hn => ?_, fun a ha i x hx => ?_⟩
  · subst hn
    rw [nil_of h]
    rfl
  · subst ha
    unfold Lib.bytesOf at hx
    rw [List.getElem?_map, Option.map_eq_some_iff] at hx
    obtain ⟨y, hy, rfl⟩ := hx
    rw [byte_nat (hi y (List.mem_of_getElem? hy))]
    exact cells_of h i _ (by rw [List.getElem?_map, hy]; rfl)
theorem bytesOf_inj : ∀ (a b : List Int), (∀ x ∈ a, 0 ≤ x ∧ x < 256) → (∀ x ∈ b, 0 ≤ x ∧ x < 256) → Lib.bytesOf a = Lib.bytesOf b → a = b
  | [], [], _, _, _ => rfl
  | [], _ :: _, _, _, h => by simp [Lib.bytesOf] at h
  | _ :: _, [], _, _, h => by simp [Lib.bytesOf] at h
  | x :: a, y :: b, ha, hb, h => by
    simp only [Lib.bytesOf, List.map_cons, List.cons.injEq] at h
    rw [bytesOf_inj a b (fun z hz => ha z (List.mem_cons_of_mem _ hz)) (fun z hz => hb z (List.mem_cons_of_mem _ hz)) h.2, (ofNat_eq (ha x (List.mem_cons_self ..)) (hb y (List.mem_cons_self ..))).1 h.1]
theorem bytesOf_append (a b : List Int) : Lib.bytesOf (a ++ b) = Lib.bytesOf a ++ Lib.bytesOf b := by simp [Lib.bytesOf]
theorem fresh_C {B : Nat} {W : World} {v : Value} {l : List Int} (h : Lib.FreshBytes B W v (Lib.bytesOf l)) (hi : ∀ x ∈ l, 0 ≤ x ∧ x < 256) : ∃ A c, v = .slice A l.length c ∧ l.length ≤ c ∧ Kd.C (Kd.int .u8) W A l.length l := by
  obtain ⟨g, cap, zs, hv, hB, hcap, hmax, hz, hzi, hzb, hc, _⟩ := h
  have hn : (Lib.bytesOf l).length = l.length := by simp [Lib.bytesOf]
  rw [hn] at hv hcap hzb
  have e : zs.take l.length = l := bytesOf_inj _ _ (fun x hx => hzi x (List.mem_of_mem_take hx)) hi hzb
  refine ⟨_, _, hv, hcap, rfl, Nat.le_trans hcap hmax, fun h0 => ⟨_, rfl, fun j p hp => ⟨[.int .u8 p], rfl, rfl, fun i u hu => ?_⟩⟩⟩
  have hi0 : i = 0 := by
    have := (List.getElem?_eq_some_iff.1 hu).1
    simp at this
    exact this
  subst hi0
  obtain rfl : u = .int .u8 p := by simpa using hu.symm
  have hj : j < l.length := (List.getElem?_eq_some_iff.1 hp).1
  have ea : (⟨g, 0, none⟩ : Addr).add (j * (Kd.int .u8).sz + 0) = ⟨g, j, none⟩ := by
    show (⟨g, 0, none⟩ : Addr).add (j * 1 + 0) = _
    rw [Nat.mul_one, Nat.add_zero, PA.add_off, Nat.zero_add]
  rw [ea, hc j (by omega)]
  have hp2 : (zs.take l.length)[j]? = some p := by rw [e]; exact hp
  rw [List.getElem?_take, if_pos hj] at hp2
  rw [List.getD_eq_getElem?_getD, hp2]
  rfl
set_option maxHeartbeats 1600000 in
/-- slicesOf of three lists of bytes that lie in one row. -/
theorem slices3.calls (g : Nat) (A1 A2 A3 : Option Addr) (c1 c2 c3 : Nat) (l1 l2 l3 : List Int) (w : World) (hg : w.heap[g]? = some (.cells #[.slice A1 l1.length c1, .slice A2 l2.length c2, .slice A3 l3.length c3] 22 (0, 0)))
    (h1 : Kd.C (Kd.int .u8) w A1 l1.length l1) (h2 : Kd.C (Kd.int .u8) w A2 l2.length l2) (h3 : Kd.C (Kd.int .u8) w A3 l3.length l3) (i1 : ∀ x ∈ l1, 0 ≤ x ∧ x < 256) (i2 : ∀ x ∈ l2, 0 ≤ x ∧ x < 256) (i3 : ∀ x ∈ l3, 0 ≤ x ∧ x < 256) (hl : l1.length + l2.length + l3.length ≤ 100000000000000) :
    Calls Tryd.prog 64 #[.slice (some ⟨g, 0, none⟩) 3 3] w fun e w' => ∃ A c, e = .returned (.slice A (l1 ++ l2 ++ l3).length c) ∧ (l1 ++ l2 ++ l3).length ≤ c ∧ Kd.C (Kd.int .u8) w' A (l1 ++ l2 ++ l3).length (l1 ++ l2 ++ l3) ∧ Below w.heap.size w w' := by
  have hj := bytes_Join_many g 0 3 3 [.slice A1 l1.length c1, .slice A2 l2.length c2, .slice A3 l3.length c3] [Lib.bytesOf l1, Lib.bytesOf l2, Lib.bytesOf l3] (.slice none 0 0) [] w rfl (by omega)
    ⟨rfl, fun i v hv => by
      have : (⟨g, 0, none⟩ : Addr).add i = ⟨g, i, none⟩ := by rw [PA.add_off, Nat.zero_add]
      rw [this]
      exact (blk_cell hg i).trans (by simpa using hv), fun i v l hv hlv => by
      match i, hv, hlv with
      | 0, hv, hlv => obtain rfl : _ = v := by simpa using hv
                      obtain rfl : _ = l := by simpa using hlv
                      exact holds_of h1 i1
      | 1, hv, hlv => obtain rfl : _ = v := by simpa using hv
                      obtain rfl : _ = l := by simpa using hlv
                      exact holds_of h2 i2
      | 2, hv, hlv => obtain rfl : _ = v := by simpa using hv
                      obtain rfl : _ = l := by simpa using hlv
                      exact holds_of h3 i3
      | i + 3, hv, _ => simp at hv⟩ (Nat.le_refl _) ⟨none, 0, rfl, fun _ => rfl, fun a ha => by cases ha⟩ (by omega) (by simp [Lib.lens, Lib.bytesOf]; omega)
  have ej : Lib.join [Lib.bytesOf l1, Lib.bytesOf l2, Lib.bytesOf l3] [] = Lib.bytesOf (l1 ++ l2 ++ l3) := by
    rw [Lib.join_cons, bytesOf_append, bytesOf_append]
    simp [Lib.joinTail]
  rw [ej] at hj
  have HJ := Aside0.mk hj
  have HI : Aside0 (∀ x ∈ l1 ++ l2 ++ l3, 0 ≤ x ∧ x < 256) := ⟨fun x hx => (List.mem_append.1 hx).elim (fun h => (List.mem_append.1 h).elim (i1 x) (i2 x)) (i3 x)⟩
  clear hj ej hg h1 h2 h3 i1 i2 i3
  go_enter Tryd.func64, Tryd.ntmps64
  go_wp2_with fail
  refine HJ.out.mono ?_
  rintro e w1 ⟨v, rfl, hf, hb⟩
  have HF := Aside0.mk hf
  have HB := Aside0.mk hb
  clear hf hb
  go_wp2_with fail
  go_ret
  obtain ⟨A, c, rfl, hc, hC⟩ := fresh_C HF.out HI.out
  exact ⟨A, c, rfl, hc, hC, HB.out⟩
end Go.Proofs.YtdflblegdfpdpaaDoor.FillA
end

section
/- match.Fill: the machine's call. -/
namespace Go.Proofs.YtdflblegdfpdpaaDoor.FillW
open Go Go.RowKit Go.Proofs.YtdflblegdfpdpaaDoorW.PrintWords Go.Proofs.YtdflblegdfpdpaaDoorW.PrintLast Go.Proofs.YtdflblegdfpdpaaDoorW.PrintMore Go.Proofs.YtdflblegdfpdpaaDoor.ScoreW Go.Proofs.YtdflblegdfpdpaaDoor.AppF Go.Proofs.YtdflblegdfpdpaaDoor.CloneW Go.Proofs.YtdflblegdfpdpaaDoor.CopyW Go.Proofs.YtdflblegdfpdpaaDoor.FillS Go.Proofs.YtdflblegdfpdpaaDoor.FillA
set_option linter.unusedVariables false
set_option maxRecDepth 100000
theorem cut_at (l : List Int) (A : Option Addr) (c : Nat) (hc : l.length ≤ c) (m : Nat) (hm : m ≤ l.length) :
    (∀ W : World, (Instr.slice 22 (.slice A l.length c) none (some (.int .i64 (m : Int))) none).run Tryd.prog W = .ok (.slice A (l.take m).length c) W) ∧ (∀ w : World, Kd.C (Kd.int .u8) w A l.length l → Kd.C (Kd.int .u8) w A (l.take m).length (l.take m)) := by
  obtain ⟨i, hi, _, hz, _⟩ := infoB
  obtain ⟨h1, h2, _⟩ := print_take_of (P := Tryd.prog) (Value.int .u8) (0 : Int) 22 5 .i64 Tryd.underlying22 hi hz A c l m (by omega) (by omega) hc
  rw [Int.toNat_natCast] at h1 h2
  exact ⟨h1, fun w hC => Kd.C_of_reads (d := (0 : Int)) (h1 := fun _ => rfl) (h2 w (Kd.reads_of_C (d := (0 : Int)) (h1 := fun _ => rfl) hC))⟩
/-- What Fill gives back. -/
def FillGot (w : World) (K F : List Int) (st : Bool) (e : Ending) (w' : World) : Prop :=
  ∃ A1 c1 A2 c2, e = .returned (.tuple #[.slice A1 K.length c1, .slice A2 F.length c2, .bool st]) ∧ K.length ≤ c1 ∧ Kd.C (Kd.int .u8) w' A1 K.length K ∧ F.length ≤ c2 ∧ Kd.C (Kd.int .u8) w' A2 F.length F ∧ Below w.heap.size w w'
theorem slicesK.calls (g : Nat) (A1 A2 A3 : Option Addr) (c1 c2 c3 : Nat) (l1 l2 l3 K : List Int) (hK : K = l1 ++ l2 ++ l3) (w : World) (hg : w.heap[g]? = some (.cells #[.slice A1 l1.length c1, .slice A2 l2.length c2, .slice A3 l3.length c3] 22 (0, 0)))
    (h1 : Kd.C (Kd.int .u8) w A1 l1.length l1) (h2 : Kd.C (Kd.int .u8) w A2 l2.length l2) (h3 : Kd.C (Kd.int .u8) w A3 l3.length l3) (i1 : ∀ x ∈ l1, 0 ≤ x ∧ x < 256) (i2 : ∀ x ∈ l2, 0 ≤ x ∧ x < 256) (i3 : ∀ x ∈ l3, 0 ≤ x ∧ x < 256) (hl : l1.length + l2.length + l3.length ≤ 100000000000000) :
    Calls Tryd.prog 64 #[.slice (some ⟨g, 0, none⟩) 3 3] w fun e w' => ∃ A c, e = .returned (.slice A K.length c) ∧ K.length ≤ c ∧ Kd.C (Kd.int .u8) w' A K.length K ∧ Below w.heap.size w w' :=
  hK ▸ slices3.calls g A1 A2 A3 c1 c2 c3 l1 l2 l3 w hg h1 h2 h3 i1 i2 i3 hl
section
variable (Ap : Option Addr) (cp : Nat) (p : List Int) (At : Option Addr) (ct : Nat) (t : List Int) (m : Int) (w : World)
theorem in_take {l : List Int} (h : ∀ x ∈ l, 0 ≤ x ∧ x < 256) (n : Nat) : ∀ x ∈ l.take n, 0 ≤ x ∧ x < 256 := fun x hx => h x (List.mem_of_mem_take hx)
theorem in_drop {l : List Int} (h : ∀ x ∈ l, 0 ≤ x ∧ x < 256) (n : Nat) : ∀ x ∈ l.drop n, 0 ≤ x ∧ x < 256 := fun x hx => h x (List.mem_of_mem_drop hx)
set_option maxHeartbeats 8000000 in
theorem fill.calls (hp : Kd.C (Kd.int .u8) w Ap p.length p) (hn : Ap = none → cp = 0) (hcp : p.length ≤ cp) (ht : Kd.C (Kd.int .u8) w At t.length t) (hct : t.length ≤ ct) (ip : ∀ x ∈ p, 0 ≤ x ∧ x < 256) (it : ∀ x ∈ t, 0 ≤ x ∧ x < 256) (lp : p.length ≤ 1048576) (lt : t.length ≤ 1048576) (hm : w.cell? ⟨2, 0, none⟩ = some (.int .i64 m)) :
    Calls Tryd.prog 50 #[.slice Ap p.length cp, .slice At t.length ct] w fun e w' => FillGot w (fillS p t).1 (fillS p t).2.1 (fillS p t).2.2 e w' := by
  have HI := Aside0.mk (indexByte.calls Ap cp p w hp hn ip)
  have HP := Aside0.mk hp
  have HT := Aside0.mk ht
  have HIP := Aside0.mk ip
  have HIT := Aside0.mk it
  have HM := Aside0.mk hm
  clear hp ht ip it hm
  rcases star_spec p with ⟨h1, _⟩ | ⟨a, h1, h2, _⟩
  · have e : fillS p t = ([], [], false) := by unfold fillS; rw [if_pos h1]
    rw [e]
    rw [h1] at HI
    clear e h1 HP HT HIP HIT HM
    go_enter Tryd.func50, Tryd.ntmps50
    go_wp2_with fail
    refine HI.out.mono ?_
    rintro e w1 ⟨rfl, rfl⟩
    go_wp2_with fail
    go_ret3
    exact ⟨none, 0, none, 0, rfl, by simp, Kd.C_nil _ _, by simp, Kd.C_nil _ _, Below.refl _ _⟩
  · have ha : a < p.length := (List.getElem?_eq_some_iff.1 h2).1
    have hf : fillS p t = if 0 ≤ arrowI (p.drop (a + 1)) ∧ arrowI (p.drop (a + 1)) + 2 < (p.drop (a + 1)).length then (p.take a ++ t ++ (p.drop (a + 1)).take (arrowI (p.drop (a + 1))).toNat, (p.drop (a + 1)).drop ((arrowI (p.drop (a + 1))).toNat + 2), true) else (p.take a ++ t ++ p.drop (a + 1), [], true) := by
      unfold fillS
      rw [if_neg (by omega), h1]
      rfl
    rw [h1] at HI
    clear h1 h2
    have d0 : decide ((a : Int) < 0) = false := decide_eq_false (by omega)
    obtain ⟨Ar, hrd, hCd, hcd⟩ := cut_drop2 p Ap cp hcp (a + 1) (by omega)
    have hrd : ∀ W : World, (Instr.slice 22 (.slice Ap p.length cp) (some (.int .i64 ((a : Int) + 1))) none none).run Tryd.prog W = .ok (.slice Ar (p.drop (a + 1)).length (cp - (a + 1))) W := hrd
    obtain ⟨hrt, hCt⟩ := cut_at p Ap cp hcp a (by omega)
    have HCD := Aside0.mk (hCd w HP.out)
    have HCT := Aside0.mk (hCt w HP.out)
    have HIR := Aside0.mk (in_drop HIP.out (a + 1))
    have HI1 := Aside0.mk (in_take HIP.out a)
    have hlr : (p.drop (a + 1)).length ≤ 1048576 := by rw [List.length_drop]; omega
    have hl1 : (p.take a).length ≤ 1048576 := by rw [List.length_take]; omega
    clear hCd hCt HP HIP
    generalize p.drop (a + 1) = r at *
    generalize p.take a = p1 at *
    obtain ⟨cr, hcr⟩ : ∃ cr, cr = cp - (a + 1) := ⟨_, rfl⟩
    rw [← hcr] at hrd hcd
    clear hcr
    have HF := Aside0.mk hf
    clear hf
    have hc1 := conv_at (w := w) w.heap.size rfl #[.int .u8 45, .int .u8 62] 2 2
    go_enter Tryd.func50, Tryd.ntmps50
    go_wp2_with fail
    refine HI.out.mono ?_
    rintro e w1 ⟨rfl, rfl⟩
    clear HI
    go_wp2_with fail
    refine (index.calls Ar cr r _ 2 m _ (Kd.C_alloc HCD.out _) hcd HIR.out hlr (got_const _ _ rfl [45, 62] _ (by decide)) (Lib.cell?_alloc_some _ HM.out)).mono ?_
    rintro e w2 ⟨rfl, hb⟩
    have HB2 := Aside0.mk (PB.below_next (below_alloc (Below.refl w1.heap.size w1) _) hb)
    clear hb hc1 HM hrd
    have HRk : Aside0 (∀ (j : Nat) (r1 : List Int) (A1 : Option Addr) (cc : Nat), (∀ x ∈ r1, 0 ≤ x ∧ x < 256) → r1.length ≤ 1048576 → True) := ⟨fun _ _ _ _ _ _ => trivial⟩
    clear HRk
    have C2 := Aside0.mk (Kd.C_below HCD.out HB2.out)
    have T2 := Aside0.mk (Kd.C_below HT.out HB2.out)
    have P2 := Aside0.mk (Kd.C_below HCT.out HB2.out)
    clear HCD HT HCT
    rcases arrow_spec r with ⟨k1, _⟩ | ⟨k, k1, k2, _⟩
    · rw [k1] at HF ⊢
      have hf := HF.out
      rw [if_neg (by omega)] at hf
      obtain ⟨K, hK⟩ : ∃ K, K = p1 ++ t ++ r := ⟨_, rfl⟩
      rw [← hK] at hf
      have HK := Aside0.mk hK
      have HF2 := Aside0.mk hf
      clear k1 hf hK HF
      go_wp2_with fail
      refine (slicesK.calls w2.heap.size Ap At Ar cp ct cr p1 t r _ HK.out _ (blk_new w2 _) (Kd.C_alloc P2.out _) (Kd.C_alloc T2.out _) (Kd.C_alloc C2.out _) HI1.out HIT.out HIR.out (by omega)).mono ?_
      rintro e w5 ⟨Ak, ck, rfl, hck, hCk, hb⟩
      have HKC := Aside0.mk hCk
      have HBk := Aside0.mk (PB.below_next (PB.below_next HB2.out (below_alloc (Below.refl _ _) _)) hb)
      clear hb hCk HK
      go_wp2_with fail
      go_ret3
      rw [HF2.out]
      exact ⟨Ak, ck, none, 0, rfl, hck, HKC.out, by simp, Kd.C_nil _ _, HBk.out⟩
    · have hkr : k + 1 < r.length := (List.getElem?_eq_some_iff.1 k2.2).1
      rw [k1] at HF ⊢
      have e1 : decide (0 ≤ (k : Int)) = true := decide_eq_true (by omega)
      have e1' : decide ((k : Int) < 0) = false := decide_eq_false (by omega)
      by_cases hk : k + 2 < r.length
      · have e2 : decide ((k : Int) + 2 < r.length) = true := decide_eq_true (by omega)
        have e2' : decide (k + 2 < r.length) = true := decide_eq_true hk
        obtain ⟨Af, hrf, hCf, hcf⟩ := cut_drop2 r Ar cr hcd (k + 2) (by omega)
        have hrf : ∀ W : World, (Instr.slice 22 (.slice Ar r.length cr) (some (.int .i64 ((k : Int) + 2))) none none).run Tryd.prog W = .ok (.slice Af (r.drop (k + 2)).length (cr - (k + 2))) W := hrf
        obtain ⟨hrk, hCk⟩ := cut_at r Ar cr hcd k (by omega)
        have CF := Aside0.mk (hCf w2 C2.out)
        have CK := Aside0.mk (hCk w2 C2.out)
        have hf := HF.out
        rw [if_pos (by omega), show (k : Int).toNat = k by omega] at hf
        have IRK := Aside0.mk (in_take HIR.out k)
        have lrk : (r.take k).length ≤ 1048576 := by rw [List.length_take]; omega
        have lrf : (r.drop (k + 2)).length ≤ 1048576 := by rw [List.length_drop]; omega
        obtain ⟨cf, hcf2⟩ : ∃ cf, cf = cr - (k + 2) := ⟨_, rfl⟩
        rw [← hcf2] at hrf
        clear hcf2 hcf hCf hCk HF
        generalize r.take k = rk at *
        generalize r.drop (k + 2) = rf at *
        obtain ⟨K, hK⟩ : ∃ K, K = p1 ++ t ++ rk := ⟨_, rfl⟩
        rw [← hK] at hf
        have HK := Aside0.mk hK
        have HF2 := Aside0.mk hf
        clear hf hK k1 k2 C2
        go_wp2_with fail
        refine (clone.calls Af cf rf _ CF.out (by omega)).mono ?_
        rintro e w3 ⟨Ag, cg, rfl, hcg, hCg, hb, _⟩
        have HB3 := Aside0.mk (PB.below_next HB2.out hb)
        have CG := Aside0.mk hCg
        have P3 := Aside0.mk (Kd.C_below P2.out hb)
        have T3 := Aside0.mk (Kd.C_below T2.out hb)
        have CK3 := Aside0.mk (Kd.C_below CK.out hb)
        clear hb hCg P2 T2 CK CF
        go_wp2_with fail
        refine (slicesK.calls w3.heap.size Ap At Ar cp ct cr p1 t rk _ HK.out _ (blk_new w3 _) (Kd.C_alloc P3.out _) (Kd.C_alloc T3.out _) (Kd.C_alloc CK3.out _) HI1.out HIT.out IRK.out (by omega)).mono ?_
        rintro e w5 ⟨Ak, ck, rfl, hck, hCk, hb⟩
        have HKC := Aside0.mk hCk
        have HBk := Aside0.mk (PB.below_next (PB.below_next HB3.out (below_alloc (Below.refl _ _) _)) hb)
        have CG5 := Aside0.mk (Kd.C_below (Kd.C_alloc CG.out _) hb)
        clear hb hCk HK
        go_wp2_with fail
        go_ret3
        rw [HF2.out]
        exact ⟨Ak, ck, Ag, cg, rfl, hck, HKC.out, hcg, CG5.out, HBk.out⟩
      · have e2 : decide ((k : Int) + 2 < r.length) = false := decide_eq_false (by omega)
        have e2' : decide (k + 2 < r.length) = false := decide_eq_false hk
        have hf := HF.out
        rw [if_neg (by omega)] at hf
        obtain ⟨K, hK⟩ : ∃ K, K = p1 ++ t ++ r := ⟨_, rfl⟩
        rw [← hK] at hf
        have HK := Aside0.mk hK
        have HF2 := Aside0.mk hf
        clear hf hK HF k1 k2
        go_wp2_with fail
        refine (slicesK.calls w2.heap.size Ap At Ar cp ct cr p1 t r _ HK.out _ (blk_new w2 _) (Kd.C_alloc P2.out _) (Kd.C_alloc T2.out _) (Kd.C_alloc C2.out _) HI1.out HIT.out HIR.out (by omega)).mono ?_
        rintro e w5 ⟨Ak, ck, rfl, hck, hCk, hb⟩
        have HKC := Aside0.mk hCk
        have HBk := Aside0.mk (PB.below_next (PB.below_next HB2.out (below_alloc (Below.refl _ _) _)) hb)
        clear hb hCk HK
        go_wp2_with fail
        go_ret3
        rw [HF2.out]
        exact ⟨Ak, ck, none, 0, rfl, hck, HKC.out, by simp, Kd.C_nil _ _, HBk.out⟩
end
end Go.Proofs.YtdflblegdfpdpaaDoor.FillW
end

section
/- Written pieces: which pieces a pattern out of them gives; a pattern of two parts. No program. -/
namespace Go.Proofs.YtdflblegdfpdpaaDoor.ClassS
open Go.Proofs.YtdflblegdfpdpaaDoor.GlobS Go.Proofs.YtdflblegdfpdpaaDoor.GlobT Go.Proofs.YtdflblegdfpdpaaDoor.QuoteS
set_option linter.unusedVariables false

/-- Lo, Hi, Range, Plain -/
structure Mem where
  lo : Int
  hi : Int
  range : Bool
  plain : Bool
structure Pie where
  d : Int
  b : Int
  neg : Bool
  ms : List Mem
def goodMem (m : Mem) : Prop := (0 ≤ m.lo ∧ m.lo < 256) ∧ 0 ≤ m.hi ∧ m.hi < 256
def spellL (b : Int) (plain : Bool) : List Int := if plain && b != 92 && b != 93 && b != 45 && b != 94 then [b] else [92, b]
def memL (m : Mem) : List Int := spellL m.lo m.plain ++ (if m.range then 45 :: spellL m.hi m.plain else [])
def memsL (ms : List Mem) : List Int := ms.flatMap memL
def writeL (x : Pie) : List Int :=
  if x.d = 0 then [42] else if x.d = 1 then [63] else if x.d = 2 then [92, x.b] else ([91] ++ (if x.neg then [94] else [])) ++ memsL x.ms ++ [93]
def memQ (q : Q) (m : Mem) : Q := addQ q m.lo.toNat (if m.range then m.hi else m.lo).toNat
def memsQ (ms : List Mem) (q : Q) : Q := ms.foldl memQ q
def classQ (x : Pie) : Q := if x.neg then notQ (memsQ x.ms noneQ) else memsQ x.ms noneQ
def pieceOf (x : Pie) : Pc := if x.d = 0 then starP else if x.d = 1 then anyP else if x.d = 2 then setP x.b else ⟨false, classQ x⟩
/-- Does a class name the byte? -/
def inMem (m : Mem) (b : Int) : Bool := decide (m.lo ≤ b ∧ b ≤ (if m.range then m.hi else m.lo) ∨ (if m.range then m.hi else m.lo) ≤ b ∧ b ≤ m.lo)
def fitsL (x : Pie) (b : Int) : Bool := (x.ms.any fun m => inMem m b) != x.neg

/-- A spelled byte: how it begins, what quotedL makes of it. -/
theorem spell_head (b : Int) (plain : Bool) (r : List Int) : ∃ c s, spellL b plain ++ r = c :: s ∧ c ≠ 93 ∧ c ≠ 45 ∧ c ≠ 94 ∧ quotedL (spellL b plain ++ r) = (b, r) := by
  unfold spellL
  split
  · rename_i h
    simp only [Bool.and_eq_true, bne_iff_ne, ne_eq] at h
    refine ⟨b, r, rfl, h.1.1.2, h.1.2, h.2, ?_⟩
    show quotedL (b :: r) = _
    unfold quotedL
    split
    · rename_i hh; injection hh with e1 e2; exact absurd e1 h.1.1.1.2
    · rename_i hh; injection hh with e1 e2; rw [← e1, ← e2]
    · rename_i hh; cases hh
  · exact ⟨92, b :: r, rfl, by decide, by decide, by decide, rfl⟩
theorem mems_head (ms : List Mem) (r : List Int) : ∃ c s, memsL ms ++ 93 :: r = c :: s ∧ c ≠ 45 ∧ c ≠ 94 := by
  cases ms with
  | nil => exact ⟨93, r, rfl, by decide, by decide⟩
  | cons m ms =>
    obtain ⟨c, s, h, _, h2, h3, _⟩ := spell_head m.lo m.plain ((if m.range then 45 :: spellL m.hi m.plain else []) ++ (memsL ms ++ 93 :: r))
    refine ⟨c, s, ?_, h2, h3⟩
    rw [← h]
    simp [memsL, memL]
theorem rangeL_false {c : Int} {s : List Int} (h : c ≠ 45) : rangeL (c :: s) = false := by
  unfold rangeL
  split
  · rename_i hh; injection hh with e1 _; exact absurd e1 h
  · rfl
theorem class_mems (ms : List Mem) : ∀ (q : Q) (r : List Int), classL (memsL ms ++ 93 :: r) q = (memsQ ms q, r) := by
  induction ms with
  | nil => intro q r; show classL (93 :: r) q = _; rw [classL, if_pos rfl]; rfl
  | cons m ms ih =>
    intro q r
    by_cases hr : m.range = true
    · have e : memsL (m :: ms) ++ 93 :: r = spellL m.lo m.plain ++ (45 :: (spellL m.hi m.plain ++ (memsL ms ++ 93 :: r))) := by
        simp [memsL, memL, hr]
      obtain ⟨c, s, h, h1, _, _, h4⟩ := spell_head m.lo m.plain (45 :: (spellL m.hi m.plain ++ (memsL ms ++ 93 :: r)))
      obtain ⟨c2, s2, g, g1, _, _, g4⟩ := spell_head m.hi m.plain (memsL ms ++ 93 :: r)
      rw [e, h, classL, if_neg h1]
      rw [h] at h4
      have hrg : rangeL (45 :: (spellL m.hi m.plain ++ (memsL ms ++ 93 :: r))) = true := by
        rw [g]
        show (!(c2 == 93)) = true
        simpa using g1
      simp only [h4, hrg, if_true, List.tail_cons]
      rw [g4]
      dsimp only
      rw [ih]
      simp [memsQ, memQ, hr]
    · have hr' : m.range = false := by simpa using hr
      have e : memsL (m :: ms) ++ 93 :: r = spellL m.lo m.plain ++ (memsL ms ++ 93 :: r) := by simp [memsL, memL, hr']
      obtain ⟨c, s, h, h1, _, _, h4⟩ := spell_head m.lo m.plain (memsL ms ++ 93 :: r)
      obtain ⟨c2, s2, g, g1, _⟩ := mems_head ms r
      rw [e, h, classL, if_neg h1]
      rw [h] at h4
      have hrg : rangeL (memsL ms ++ 93 :: r) = false := by rw [g]; exact rangeL_false g1
      simp only [h4, hrg]
      show classL (memsL ms ++ 93 :: r) _ = _
      rw [ih]
      simp [memsQ, memQ, hr']
theorem members_class (x : Pie) (r : List Int) : membersL ((if x.neg then [94] else []) ++ memsL x.ms ++ 93 :: r) = (classQ x, r) := by
  unfold classQ
  cases hx : x.neg with
  | true =>
    show (notQ (classL (memsL x.ms ++ 93 :: r) noneQ).1, (classL (memsL x.ms ++ 93 :: r) noneQ).2) = _
    rw [class_mems]
    rfl
  | false =>
    show membersL (memsL x.ms ++ 93 :: r) = _
    obtain ⟨c, s, g, _, g2⟩ := mems_head x.ms r
    have hc := class_mems x.ms noneQ r
    rw [g] at hc ⊢
    unfold membersL
    split
    · rename_i hh; injection hh with e1 _; exact absurd e1 g2
    · rw [hc]; rfl
theorem pieces_write (x : Pie) (r : List Int) : piecesL (writeL x ++ r) = pieceOf x :: piecesL r := by
  unfold writeL pieceOf
  split
  · exact pieces_star r
  split
  · exact pieces_any r
  split
  · have := pieces_quote [x.b] r
    exact this
  · have e : ([91] ++ (if x.neg then [94] else [])) ++ memsL x.ms ++ [93] ++ r = 91 :: ((if x.neg then [94] else []) ++ memsL x.ms ++ 93 :: r) := by simp
    rw [e, piecesL, pieceL_cons, if_neg (by decide), if_neg (by decide), if_pos rfl, members_class]
def patternL (l : List Pie) : List Int := l.flatMap writeL
theorem pieces_pattern (l : List Pie) (r : List Int) : piecesL (patternL l ++ r) = l.map pieceOf ++ piecesL r := by
  induction l with
  | nil => rfl
  | cons x l ih =>
    have e : patternL (x :: l) ++ r = writeL x ++ (patternL l ++ r) := by simp [patternL]
    rw [e, pieces_write, ih]
    rfl

/-- What a class fits is what it names. -/
theorem has_mems (ms : List Mem) (hg : ∀ m ∈ ms, goodMem m) : ∀ (q : Q) (b : Int), 0 ≤ b ∧ b < 256 → has (memsQ ms q) b.toNat = (has q b.toNat || ms.any fun m => inMem m b) := by
  induction ms with
  | nil => intro q b _; simp [memsQ]
  | cons m ms ih =>
    intro q b hb
    have hm := hg m (List.mem_cons_self ..)
    have := ih (fun y hy => hg y (List.mem_cons_of_mem _ hy)) (memQ q m) b hb
    show has (memsQ ms (memQ q m)) b.toNat = _
    rw [this]
    unfold memQ
    have hh : 0 ≤ (if m.range then m.hi else m.lo) ∧ (if m.range then m.hi else m.lo) < 256 := by
      split
      · exact hm.2
      · exact hm.1
    rw [has_addQ _ _ _ _ (by have := hm.1; omega) (by omega) (by omega), List.any_cons, Bool.or_assoc]
    congr 1
    congr 1
    unfold inMem
    rw [decide_eq_decide]
    have := hm.1
    omega
theorem memsQ_in (ms : List Mem) : ∀ q, QIn q → QIn (memsQ ms q) := by
  induction ms with
  | nil => intro q h; exact h
  | cons m ms ih => intro q h; exact ih _ (h.addQ _ _)
theorem has_class (x : Pie) (hg : ∀ m ∈ x.ms, goodMem m) (b : Int) (hb : 0 ≤ b ∧ b < 256) : has (classQ x) b.toNat = fitsL x b := by
  unfold classQ fitsL
  have h := has_mems x.ms hg noneQ b hb
  rw [has_noneQ, Bool.false_or] at h
  cases hx : x.neg with
  | true =>
    show has (notQ (memsQ x.ms noneQ)) b.toNat = _
    rw [has_notQ (memsQ_in _ _ QIn.noneQ) _ (by omega), h]
    simp
  | false =>
    show has (memsQ x.ms noneQ) b.toNat = _
    rw [h]
    simp
/-- A pattern of two parts fits just the texts that can be cut for them. -/
theorem fits_append (a b : List Pc) : ∀ t : List Int, fits (a ++ b) t = true ↔ ∃ i, i ≤ t.length ∧ fits a (t.take i) = true ∧ fits b (t.drop i) = true := by
  induction a with
  | nil =>
    intro t
    show fits b t = true ↔ _
    constructor
    · intro h; exact ⟨0, by omega, by simp [fits], by simpa using h⟩
    · rintro ⟨i, hi, h1, h2⟩
      have h3 := (QuoteS.fits_nil _).1 h1
      have h4 := congrArg List.length h3
      rw [List.length_take, List.length_nil] at h4
      have : i = 0 := by omega
      subst this
      simpa using h2
  | cons p a ih =>
    intro t
    show fits (p :: (a ++ b)) t = true ↔ _
    by_cases hp : p.star = true
    · rw [fits_star hp]
      constructor
      · rintro ⟨k, hk, h⟩
        obtain ⟨i, hi, h1, h2⟩ := (ih _).1 h
        rw [List.length_drop] at hi
        refine ⟨k + i, by omega, (fits_star hp).2 ⟨k, by rw [List.length_take]; omega, ?_⟩, ?_⟩
        · rw [List.drop_take, show k + i - k = i by omega]; exact h1
        · rw [← List.drop_drop]; exact h2
      · rintro ⟨i, hi, h1, h2⟩
        obtain ⟨k, hk, h⟩ := (fits_star hp).1 h1
        rw [List.length_take] at hk
        refine ⟨k, by omega, (ih _).2 ⟨i - k, by rw [List.length_drop]; omega, ?_, ?_⟩⟩
        · rw [← List.drop_take]; exact h
        · rw [List.drop_drop, show k + (i - k) = i by omega]; exact h2
    · have hp : p.star = false := by simpa using hp
      cases t with
      | nil =>
        rw [fits_set_nil hp]
        constructor
        · intro h; cases h
        · rintro ⟨i, _, h1, _⟩
          rw [List.take_nil, fits_set_nil hp] at h1
          cases h1
      | cons c t =>
        rw [fits_set hp, Bool.and_eq_true, ih t]
        constructor
        · rintro ⟨h0, i, hi, h1, h2⟩
          refine ⟨i + 1, by simp; omega, ?_, by simpa using h2⟩
          show fits (p :: a) (c :: t.take i) = true
          rw [fits_set hp, h0, h1]
          rfl
        · rintro ⟨i, hi, h1, h2⟩
          cases i with
          | zero => rw [List.take_zero, fits_set_nil hp] at h1; cases h1
          | succ i =>
            have h1 : fits (p :: a) (c :: t.take i) = true := h1
            rw [fits_set hp, Bool.and_eq_true] at h1
            exact ⟨h1.1, i, by simpa using hi, h1.2, by simpa using h2⟩
/-- Stars beside one another are as one. -/
theorem fits_stars (a b : List Pc) (t : List Int) : fits (a ++ starP :: starP :: starP :: b) t = fits (a ++ starP :: b) t := by
  have h : ∀ u : List Int, fits (starP :: starP :: b) u = fits (starP :: b) u := by
    intro u
    rw [Bool.eq_iff_iff, fits_star rfl, fits_star rfl]
    constructor
    · rintro ⟨k, hk, h⟩
      obtain ⟨j, hj, h⟩ := (fits_star rfl).1 h
      rw [List.length_drop] at hj
      rw [List.drop_drop] at h
      exact ⟨k + j, by omega, h⟩
    · rintro ⟨k, hk, h⟩
      exact ⟨0, by omega, (fits_star rfl).2 ⟨k, by simpa using hk, by simpa using h⟩⟩
  rw [Bool.eq_iff_iff, fits_append, fits_append]
  constructor
  · rintro ⟨i, hi, h1, h2⟩
    refine ⟨i, hi, h1, ?_⟩
    obtain ⟨k, hk, h3⟩ := (fits_star rfl).1 h2
    rw [h] at h3
    obtain ⟨j, hj, h4⟩ := (fits_star rfl).1 h3
    rw [List.length_drop] at hj
    rw [List.drop_drop] at h4
    exact (fits_star rfl).2 ⟨k + j, by omega, h4⟩
  · rintro ⟨i, hi, h1, h2⟩
    refine ⟨i, hi, h1, (fits_star rfl).2 ⟨0, by omega, ?_⟩⟩
    rw [List.drop_zero, h]
    exact h2
end Go.Proofs.YtdflblegdfpdpaaDoor.ClassS
end

section
/- append onto a list of bytes that is the call's own, or has no room. No function of the program. -/
namespace Go.Proofs.YtdflblegdfpdpaaDoor.AppG
open Go Go.RowKit Go.Proofs.YtdflblegdfpdpaaDoorW.PrintWords Go.Proofs.YtdflblegdfpdpaaDoorW.PrintLast Go.Proofs.YtdflblegdfpdpaaDoorW.PrintMore Go.Proofs.YtdflblegdfpdpaaDoor.AppF
set_option linter.unusedVariables false
set_option maxRecDepth 100000

/-- The call's own row, or a list without room. -/
def Own (W : World) (base : Nat) (v : Value) (l : List Int) : Prop :=
  Kd.R (Kd.int .u8) 5 W base (fun _ => True) v l ∨ ∃ ad, v = .slice (some ad) l.length l.length ∧ Kd.C (Kd.int .u8) W (some ad) l.length l
theorem Own.reads {W : World} {base : Nat} {v : Value} {l : List Int} (h : Own W base v l) : ∃ A c, v = .slice A l.length c ∧ l.length ≤ c ∧ Kd.C (Kd.int .u8) W A l.length l := by
  rcases h with h | ⟨ad, rfl, hC⟩
  · exact Kd.R_reads h
  · exact ⟨_, _, rfl, Nat.le_refl _, hC⟩
theorem Own.below {W W' : World} {base : Nat} {v : Value} {l : List Int} (h : Own W base v l) (hb : Below W.heap.size W W') : Own W' base v l := by
  rcases h with h | ⟨ad, rfl, hC⟩
  · exact .inl (Kd.R_below h hb)
  · exact .inr ⟨ad, rfl, Kd.C_below hC hb⟩
theorem wpList_append_any {ops : Array Oper} {rest : List Oper} {o : Oper} {a : Act} {w0 W : World} {Q : Exit → Act → World → Prop} (base : Nat)
    (hg : o.guard = none) (s x : Operand) (hop : o.op = Op.call { callee := Callee.builtin Builtin.append, args := #[s, x], argTypes := #[22, 22] })
    (v : Value) (l1 : List Int) (hs : a.eval s = v) (HO : Own W base v l1)
    (Ax : Option Addr) (c : Nat) (l2 : List Int) (hx : a.eval x = .slice Ax l2.length c) (hC2 : Kd.C (Kd.int .u8) W Ax l2.length l2) (HB : Below base w0 W) (hbase : base ≤ W.heap.size) (h0 : 0 < l2.length) (hb : l1.length + l2.length ≤ 100000000000000) (l3 : List Int) (h3 : l3 = l1 ++ l2)
    (hK : ∀ v' w', Own w' base v' l3 → Below base w0 w' → wpList Tryd.prog ops Q rest (a.put o.dst v') w') :
    wpList Tryd.prog ops Q (o :: rest) a W := by
  subst h3
  rcases HO with HO | ⟨As, rfl, hC1⟩
  · refine Kd.R_append_rows (Kd.int .u8) (w0 := w0) base hg s x 22 5 (.int .u8 0) 1 hop Tryd.underlying22 PB.spi rfl (by decide) (by omega) v l1 l2 _ _ _ (fun _ => True) (fun _ => False) hs hx ?aO ?aR (fun _ _ h => h) (fun _ h => h.elim) ?aF ?aB ?aS ?aL ?_
    case aO => exact HO
    case aR => exact hC2
    case aF => exact fun _ _ => trivial
    case aB => exact HB
    case aS => exact hbase
    case aL => omega
    intro v' w' ho hb' _ _
    exact hK v' w' (.inl ho) hb'
  · obtain ⟨ad, hAx, _⟩ := Kd.at_int hC2 (0 : Int) (by omega) (by omega)
    subst hAx
    obtain ⟨i, hi, z0, z1, z2⟩ := infoB
    refine wpList_append_grows W hg s x 22 hop 5 i (.int .u8 0) 1 1 Tryd.underlying22 hi z0 z1 z2 rfl (by decide) (some As) l1.length l1.length (l1.map (Value.int .u8)) hs (fun h => by cases h) (by simp) (fun b hb' => by obtain rfl := Option.some.inj hb'; exact cells_of hC1)
      ad l2.length c (l2.map (Value.int .u8)) hx (by simp) (cells_of hC2) (fun u hu => by obtain ⟨y, _, rfl⟩ := List.mem_map.1 hu; rfl) (by omega) (by unfold maxLen; omega) (by omega) ?_
    intro v' w' ho hgr
    have hB : Below W.heap.size W w' := (Below.refl _ W).grown hgr (Nat.le_refl _) (by intro k hk; simp at hk)
    have ho' : w'.ownsRow W.heap.size 5 1 v' (l1 ++ l2).length (encs (Value.int .u8) (l1 ++ l2)) := by
      rw [List.length_append, show encs (Value.int .u8) (l1 ++ l2) = l1.map (Value.int .u8) ++ l2.map (Value.int .u8) by simp [encs]]
      exact ho
    exact hK v' w' (.inl (Kd.R_lower (Kd.R_of_own (h1 := fun _ => rfl) ho' (ok := fun _ => True) (fun _ _ => trivial)) hbase))
      (HB.trans ⟨hB.os, hB.tape, hB.output, hB.size, fun k hk => hB.block k (Nat.lt_of_lt_of_le hk hbase)⟩)
end Go.Proofs.YtdflblegdfpdpaaDoor.AppG
end

section
/- larderlaw9.spell and write: the machine's calls. -/
namespace Go.Proofs.YtdflblegdfpdpaaDoor.WriteW
open Go Go.RowKit Go.Proofs.YtdflblegdfpdpaaDoorW.PrintWords Go.Proofs.YtdflblegdfpdpaaDoorW.PrintLast Go.Proofs.YtdflblegdfpdpaaDoorW.PrintMore Go.Proofs.YtdflblegdfpdpaaDoor.HeldW Go.Proofs.YtdflblegdfpdpaaDoor.ScoreW Go.Proofs.YtdflblegdfpdpaaDoor.AppG Go.Proofs.YtdflblegdfpdpaaDoor.ClassS Go.Proofs.YtdflblegdfpdpaaDoor.AskW
set_option linter.unusedVariables false
set_option maxRecDepth 100000

/-- A list of bytes is given back. -/
def Gives (w : World) (l : List Int) (e : Ending) (w' : World) : Prop := ∃ A c, e = .returned (.slice A l.length c) ∧ l.length ≤ c ∧ Kd.C (Kd.int .u8) w' A l.length l ∧ Below w.heap.size w w'

set_option maxHeartbeats 1600000 in
theorem spell.calls (b : Int) (plain : Bool) (w : World) : Calls Tryd.prog 29 #[.int .u8 b, .bool plain] w fun e w' => Gives w (spellL b plain) e w' := by
  have one : ∀ f, Kd.C (Kd.int .u8) (w.alloc (.cells #[.int .u8 b] 5 f)) (some ⟨w.heap.size, 0, none⟩) 1 [b] := fun f => got_const w _ rfl [b] f (by simp)
  have two : ∀ f, Kd.C (Kd.int .u8) (w.alloc (.cells #[.int .u8 92, .int .u8 b] 5 f)) (some ⟨w.heap.size, 0, none⟩) 2 [92, b] := fun f => got_const w _ rfl [92, b] f (by simp)
  have H1 := Aside0.mk one
  have H2 := Aside0.mk two
  clear one two
  cases plain with
  | false =>
    have e : spellL b false = [92, b] := by simp [spellL]
    rw [e]
    go_enter Tryd.func29, Tryd.ntmps29
    go_wp2
    go_ret
    exact ⟨_, _, rfl, by simp, H2.out _, below_alloc (Below.refl _ _) _⟩
  | true =>
    by_cases h1 : b = 92
    · subst h1
      have e : spellL 92 true = [92, 92] := by rfl
      rw [e]
      go_enter Tryd.func29, Tryd.ntmps29
      go_wp2
      go_ret
      exact ⟨_, _, rfl, by simp, H2.out _, below_alloc (Below.refl _ _) _⟩
    by_cases h2 : b = 93
    · subst h2
      have e : spellL 93 true = [92, 93] := by rfl
      rw [e]
      go_enter Tryd.func29, Tryd.ntmps29
      go_wp2
      go_ret
      exact ⟨_, _, rfl, by simp, H2.out _, below_alloc (Below.refl _ _) _⟩
    by_cases h3 : b = 45
    · subst h3
      have e : spellL 45 true = [92, 45] := by rfl
      rw [e]
      go_enter Tryd.func29, Tryd.ntmps29
      go_wp2
      go_ret
      exact ⟨_, _, rfl, by simp, H2.out _, below_alloc (Below.refl _ _) _⟩
    by_cases h4 : b = 94
    · subst h4
      have e : spellL 94 true = [92, 94] := by rfl
      rw [e]
      go_enter Tryd.func29, Tryd.ntmps29
      go_wp2
      go_ret
      exact ⟨_, _, rfl, by simp, H2.out _, below_alloc (Below.refl _ _) _⟩
    have e : spellL b true = [b] := by simp [spellL, h1, h2, h3, h4]
    rw [e]
    have b1 : (b == 92) = false := by simpa using h1
    have b2 : (b == 93) = false := by simpa using h2
    have b3 : (b == 45) = false := by simpa using h3
    have b4 : (b == 94) = false := by simpa using h4
    have n1 : (b != 92) = true := by simpa using h1
    have n2 : (b != 93) = true := by simpa using h2
    have n3 : (b != 45) = true := by simpa using h3
    have n4 : (b != 94) = true := by simpa using h4
    go_enter Tryd.func29, Tryd.ntmps29
    go_wp2
    go_ret
    exact ⟨_, _, rfl, by simp, H1.out _, below_alloc (Below.refl _ _) _⟩

abbrev MemT := Int × Int × Bool × Bool
/-- Lo, Hi, Range, Plain -/
def kMem : Kd MemT := Kd.pair (Kd.int .u8) (Kd.pair (Kd.int .u8) (Kd.pair Kd.bool Kd.bool))
def toM (y : MemT) : Mem := ⟨y.1, y.2.1, y.2.2.1, y.2.2.2⟩
def toP (d b : Int) (neg : Bool) (l : List MemT) : Pie := ⟨d, b, neg, l.map toM⟩
theorem mem_cells {w : World} {ad : Addr} {n : Nat} {l : List MemT} (h : kMem.C w (some ad) n l) (i : Nat) (y : MemT) (hy : l[i]? = some y) :
    ∀ j u, ([.int .u8 y.1, .int .u8 y.2.1, .bool y.2.2.1, .bool y.2.2.2] : List Value)[j]? = some u → w.cell? ((ad.add (i * 4)).add j) = some u := by
  obtain ⟨hi, hp'⟩ := List.getElem?_eq_some_iff.1 hy
  have hn : l.length = n := h.1
  obtain ⟨ad', c, hh, hc, hK, hcells⟩ := Kd.C_get h y (i : Int) (by omega) (by omega)
  obtain rfl : ad = ad' := Option.some.inj hh
  rw [Int.toNat_natCast] at hK hcells
  have he : l.getD i y = y := by rw [List.getD_eq_getElem?_getD, hy]; rfl
  rw [he] at hK
  obtain ⟨b0, b1, rfl, h0, c0, c1, rfl, h1, d0, d1, rfl, h2, h3⟩ := hK
  have a0 : b0 = [_] := h0
  have a1 : c0 = [_] := h1
  have a2 : d0 = [_] := h2
  have a3 : d1 = [_] := h3
  subst a0 a1 a2 a3
  intro j u hu
  rw [HeldW.add_add]
  exact hcells j u hu

/-- The call's own row, or a short list without room. -/
def OwnB (W : World) (base : Nat) (v : Value) (l : List Int) : Prop :=
  W.ownsRow base 5 1 v l.length (encs (Value.int .u8) l) ∨ ∃ ad, v = .slice (some ad) l.length l.length ∧ Kd.C (Kd.int .u8) W (some ad) l.length l ∧ l.length ≤ 1000
theorem OwnB.reads {W : World} {base : Nat} {v : Value} {l : List Int} (h : OwnB W base v l) : ∃ A c, v = .slice A l.length c ∧ l.length ≤ c ∧ Kd.C (Kd.int .u8) W A l.length l := by
  rcases h with h | ⟨ad, rfl, hC, _⟩
  · exact Kd.R_reads (Kd.R_of_own (h1 := fun _ => rfl) h (ok := fun _ => True) (fun _ _ => trivial))
  · exact ⟨_, _, rfl, Nat.le_refl _, hC⟩
theorem OwnB.below {W W' : World} {base : Nat} {v : Value} {l : List Int} (h : OwnB W base v l) (hb : Below W.heap.size W W') : OwnB W' base v l := by
  rcases h with h | ⟨ad, rfl, hC, hl⟩
  · exact .inl (Kd.own_of_R (Kd.R_below (Kd.R_of_own (h1 := fun _ => rfl) h (ok := fun _ => True) (fun _ _ => trivial)) hb))
  · exact .inr ⟨ad, rfl, Kd.C_below hC hb, hl⟩
/-- The blocks of members stay. -/
def MKept (W W' : World) : Prop := ∀ (ga : Nat) (cs : Array Value) (f : Nat × Nat), W.heap[ga]? = some (.cells cs 72 f) → W'.heap[ga]? = some (.cells cs 72 f)
theorem wpList_append_big {ops : Array Oper} {rest : List Oper} {o : Oper} {a : Act} {w0 W : World} {Q : Exit → Act → World → Prop} (base : Nat)
    (hg : o.guard = none) (s x : Operand) (hop : o.op = Op.call { callee := Callee.builtin Builtin.append, args := #[s, x], argTypes := #[22, 22] })
    (v : Value) (l1 : List Int) (hs : a.eval s = v) (HO : OwnB W base v l1)
    (Ax : Option Addr) (c : Nat) (l2 : List Int) (hx : a.eval x = .slice Ax l2.length c) (hC2 : Kd.C (Kd.int .u8) W Ax l2.length l2) (HB : Below base w0 W) (hbase : base ≤ W.heap.size) (h0 : 0 < l2.length) (hb : l1.length + l2.length ≤ 200000000000000 ∧ l2.length ≤ 100000000000000) (l3 : List Int) (h3 : l3 = l1 ++ l2)
    (hK : ∀ v' w', OwnB w' base v' l3 → Below base w0 w' → MKept W w' → wpList Tryd.prog ops Q rest (a.put o.dst v') w') :
    wpList Tryd.prog ops Q (o :: rest) a W := by
  subst h3
  obtain ⟨ad, hAx, _⟩ := Kd.at_int hC2 (0 : Int) (by omega) (by omega)
  subst hAx
  obtain ⟨i, hi, z0, z1, z2⟩ := AppF.infoB
  have hcs := AppF.cells_of hC2
  have h1 : ∀ u ∈ l2.map (Value.int .u8), u.oneCell' = true := fun u hu => by obtain ⟨y, _, rfl⟩ := List.mem_map.1 hu; rfl
  have henc : encs (Value.int .u8) (l1 ++ l2) = encs (Value.int .u8) l1 ++ l2.map (Value.int .u8) := by simp [encs]
  rcases HO with HO | ⟨As, rfl, hC1, hsm⟩
  · refine wpList_append_own_wide W hg s x 22 hop base 5 i (.int .u8 0) 1 1 Tryd.underlying22 hi z0 z1 z2 rfl (by decide) v l1.length (encs (Value.int .u8) l1) hs HO ad l2.length c (l2.map (Value.int .u8)) hx (by simp) hcs h1 (by unfold maxLen; omega) (by omega) hbase ?_
    intro v' w' ho hgr _
    refine hK v' w' (.inl ?_) (HB.grown hgr hbase (fun k hk => own_base HO k hk)) ?_
    · rw [List.length_append, henc]; exact ho
    · intro ga cs f hga
      have hlt : ga < W.heap.size := by
        rcases Nat.lt_or_ge ga W.heap.size with h | h
        · exact h
        · rw [Array.getElem?_eq_none h] at hga; cases hga
      rw [hgr.block ga hlt ?_]
      · exact hga
      · intro h
        obtain ⟨cells, hc⟩ := own_typed HO ga h.symm
        rw [hc] at hga
        cases hga
  · refine wpList_append_grows W hg s x 22 hop 5 i (.int .u8 0) 1 1 Tryd.underlying22 hi z0 z1 z2 rfl (by decide) (some As) l1.length l1.length (l1.map (Value.int .u8)) hs (fun h => by cases h) (by simp) (fun b hb' => by obtain rfl := Option.some.inj hb'; exact AppF.cells_of hC1)
      ad l2.length c (l2.map (Value.int .u8)) hx (by simp) hcs h1 (by omega) (by unfold maxLen; omega) (by omega) ?_
    intro v' w' ho hgr
    have hB : Below W.heap.size W w' := (Below.refl _ W).grown hgr (Nat.le_refl _) (by intro k hk; simp at hk)
    refine hK v' w' (.inl ?_) (HB.trans ⟨hB.os, hB.tape, hB.output, hB.size, fun k hk => hB.block k (Nat.lt_of_lt_of_le hk hbase)⟩) ?_
    · rw [List.length_append, henc]
      exact own_weaken (ho) hbase
    · intro ga cs f hga
      have hlt : ga < W.heap.size := by
        rcases Nat.lt_or_ge ga W.heap.size with h | h
        · exact h
        · rw [Array.getElem?_eq_none h] at hga; cases hga
      rw [hB.block ga hlt]
      exact hga
theorem spell_len (b : Int) (pl : Bool) : 1 ≤ (spellL b pl).length ∧ (spellL b pl).length ≤ 2 := by
  unfold spellL
  split <;> simp
theorem mem_len (m : Mem) : (memL m).length ≤ 5 := by
  have h1 := spell_len m.lo m.plain
  have h2 := spell_len m.hi m.plain
  unfold memL
  split <;> simp <;> omega
theorem mems_len (l : List MemT) (i : Nat) (hi : i ≤ l.length) : (memsL ((l.take i).map toM)).length ≤ 5 * i := by
  induction i with
  | zero => simp [memsL]
  | succ i ih =>
    have h := ih (by omega)
    rw [List.take_add_one, List.getElem?_eq_getElem (by omega), Option.toList_some, List.map_append]
    have h2 := mem_len (toM (l[i]'(by omega)))
    simp [memsL] at h ⊢
    omega

set_option maxHeartbeats 3200000 in
theorem write.calls (d b : Int) (neg : Bool) (A : Option Addr) (c : Nat) (l : List MemT) (w : World) (hC : kMem.C w A l.length l) (hlen : l.length ≤ 35184372087808) :
    Calls Tryd.prog 16 #[.agg #[.int .i64 d, .int .u8 b, .bool neg, .slice A l.length c]] w fun e w' => Gives w (writeL (toP d b neg l)) e w' := by
  have HC := Aside0.mk hC
  have HB := Aside0.mk (Below.refl w.heap.size w)
  clear hC
  by_cases h0 : d = 0
  · subst h0
    have e : writeL (toP 0 b neg l) = [42] := by rfl
    rw [e]
    clear e
    go_enter Tryd.func16, Tryd.ntmps16
    go_wp2_with (first
      | ((with_reducible refine gate_dst (N := 1) rfl ?_); refine box_event ?hg (N := 1) ?hd (cs := #[.int .i64 0, .int .u8 b, .bool neg, .slice A l.length c]) (t := 35) ?hr ?_; (case hd => rfl); (case hg => rfl); (case hr => first | (go_simp; done) | (go_simp; rfl)); intro gb hgb w5 hbox hb; have n0_ := Aside0.mk (below_step HB.out hb); have BK := Aside0.mk hbox; have z0 : w5.cell? ⟨gb, 0, none⟩ = some (.int .i64 0) := (blk_cell BK.out 0).trans rfl; have z1 : w5.cell? ⟨gb, 1, none⟩ = some (.int .u8 b) := (blk_cell BK.out 1).trans rfl; have z2 : w5.cell? ⟨gb, 2, none⟩ = some (.bool neg) := (blk_cell BK.out 2).trans rfl; have z3 : w5.cell? ⟨gb, 3, none⟩ = some (.slice A l.length c) := (blk_cell BK.out 3).trans rfl; clear HB; have HB := n0_; clear n0_ hb hbox hgb; have hc1 := conv_at (w := w5) w5.heap.size rfl #[.int .u8 42] 1 1))
    go_ret
    exact ⟨_, _, rfl, by simp, got_const _ _ rfl [42] _ (by simp), below_alloc HB.out _⟩
  by_cases h1 : d = 1
  · subst h1
    have e : writeL (toP 1 b neg l) = [63] := by rfl
    rw [e]
    clear e
    go_enter Tryd.func16, Tryd.ntmps16
    go_wp2_with (first
      | ((with_reducible refine gate_dst (N := 1) rfl ?_); refine box_event ?hg (N := 1) ?hd (cs := #[.int .i64 1, .int .u8 b, .bool neg, .slice A l.length c]) (t := 35) ?hr ?_; (case hd => rfl); (case hg => rfl); (case hr => first | (go_simp; done) | (go_simp; rfl)); intro gb hgb w5 hbox hb; have n0_ := Aside0.mk (below_step HB.out hb); have BK := Aside0.mk hbox; have z0 : w5.cell? ⟨gb, 0, none⟩ = some (.int .i64 1) := (blk_cell BK.out 0).trans rfl; have z1 : w5.cell? ⟨gb, 1, none⟩ = some (.int .u8 b) := (blk_cell BK.out 1).trans rfl; have z2 : w5.cell? ⟨gb, 2, none⟩ = some (.bool neg) := (blk_cell BK.out 2).trans rfl; have z3 : w5.cell? ⟨gb, 3, none⟩ = some (.slice A l.length c) := (blk_cell BK.out 3).trans rfl; clear HB; have HB := n0_; clear n0_ hb hbox hgb; have hc1 := conv_at (w := w5) w5.heap.size rfl #[.int .u8 63] 1 1))
    go_ret
    exact ⟨_, _, rfl, by simp, got_const _ _ rfl [63] _ (by simp), below_alloc HB.out _⟩
  by_cases h2 : d = 2
  · subst h2
    have e : writeL (toP 2 b neg l) = [92, b] := by rfl
    rw [e]
    clear e
    go_enter Tryd.func16, Tryd.ntmps16
    go_wp2_with (first
      | ((with_reducible refine gate_dst (N := 1) rfl ?_); refine box_event ?hg (N := 1) ?hd (cs := #[.int .i64 2, .int .u8 b, .bool neg, .slice A l.length c]) (t := 35) ?hr ?_; (case hd => rfl); (case hg => rfl); (case hr => first | (go_simp; done) | (go_simp; rfl)); intro gb hgb w5 hbox hb; have n0_ := Aside0.mk (below_step HB.out hb); have BK := Aside0.mk hbox; have z0 : w5.cell? ⟨gb, 0, none⟩ = some (.int .i64 2) := (blk_cell BK.out 0).trans rfl; have z1 : w5.cell? ⟨gb, 1, none⟩ = some (.int .u8 b) := (blk_cell BK.out 1).trans rfl; have z2 : w5.cell? ⟨gb, 2, none⟩ = some (.bool neg) := (blk_cell BK.out 2).trans rfl; have z3 : w5.cell? ⟨gb, 3, none⟩ = some (.slice A l.length c) := (blk_cell BK.out 3).trans rfl; clear HB; have HB := n0_; clear n0_ hb hbox hgb; skip))
    go_ret
    exact ⟨_, _, rfl, by simp, got_const _ _ rfl [92, b] _ (by simp), below_alloc HB.out _⟩
  have d0 : (d == 0) = false := by simpa using h0
  have d1 : (d == 1) = false := by simpa using h1
  have d2 : (d == 2) = false := by simpa using h2
  have HE := Aside0.mk (show writeL (toP d b neg l) = ([91] ++ (if neg then [94] else [])) ++ memsL (l.map toM) ++ [93] by unfold writeL; show (if d = 0 then [42] else if d = 1 then [63] else if d = 2 then [92, b] else ([91] ++ (if neg then [94] else [])) ++ memsL (l.map toM) ++ [93]) = _; rw [if_neg h0, if_neg h1, if_neg h2])
  clear h0 h1 h2
  go_enter Tryd.func16, Tryd.ntmps16
  go_upto_region 9 with (first
    | ((with_reducible refine gate_dst (N := 1) rfl ?_); refine box_event ?hg (N := 1) ?hd (cs := #[.int .i64 d, .int .u8 b, .bool neg, .slice A l.length c]) (t := 35) ?hr ?_; (case hd => rfl); (case hg => rfl); (case hr => first | (go_simp; done) | (go_simp; rfl)); intro gb hgb w5 hbox hb; have n0_ := Aside0.mk (below_step HB.out hb); have BK := Aside0.mk hbox; have z0 : w5.cell? ⟨gb, 0, none⟩ = some (.int .i64 d) := (blk_cell BK.out 0).trans rfl; have z1 : w5.cell? ⟨gb, 1, none⟩ = some (.int .u8 b) := (blk_cell BK.out 1).trans rfl; have z2 : w5.cell? ⟨gb, 2, none⟩ = some (.bool neg) := (blk_cell BK.out 2).trans rfl; have z3 : w5.cell? ⟨gb, 3, none⟩ = some (.slice A l.length c) := (blk_cell BK.out 3).trans rfl; clear HB; have HB := n0_; clear n0_ hb hbox hgb; have hc1 := conv_at (w := w5) w5.heap.size rfl #[.int .u8 91] 1 1))
  clear hc1
  have HB1 : Aside0 (Below w5.heap.size w5 (w5.alloc (.cells #[.int .u8 91] 5 (1, 2)))) := ⟨below_alloc (Below.refl _ _) _⟩
  have HO1 : Aside0 (OwnB (w5.alloc (.cells #[.int .u8 91] 5 (1, 2))) w5.heap.size (.slice (some ⟨w5.heap.size, 0, none⟩) 1 1) [91]) := ⟨.inr ⟨_, rfl, got_const _ _ rfl [91] _ (by decide), by decide⟩⟩
  obtain ⟨w6, hw6⟩ : ∃ w6, w6 = w5.alloc (.cells #[.int .u8 91] 5 (1, 2)) := ⟨_, rfl⟩
  rw [← hw6] at HB1 HO1 ⊢
  clear hw6
  have z2' := pw_cell_below HB1.out z2
  go_upto_if 24 with fail
  go_cut [3] (fun v3 wc => Aside0 (OwnB wc w5.heap.size v3 ([91] ++ if neg then [94] else []) ∧ Below w5.heap.size w5 wc))
  case first =>
    cases neg with
    | false =>
      go_wp2_with fail
      go_meet
      exact ⟨HO1.out, HB1.out⟩
    | true =>
      go_wp2_with (first
        | ((with_reducible refine gate_builtin (b := .append) (xs := #[.tmp 25, .tmp 26]) rfl ?_); at_builtin; refine wpList_append_big (w0 := w5) w5.heap.size rfl (.tmp 25) (.tmp 26) rfl _ [91] rfl (HO1.out.below (below_alloc (Below.refl _ _) _)) _ 1 [94] rfl (got_const w6 _ rfl [94] _ (by decide)) (PB.below_next HB1.out (below_alloc (Below.refl _ _) _)) (PB.below_next HB1.out (below_alloc (Below.refl _ _) _)).size (by decide) ⟨by decide, by decide⟩ _ rfl ?_; intro v7 w7 ho hb hk; have HO2 := Aside0.mk ho; have HB2 := Aside0.mk hb; clear ho hb hk))
      go_meet
      exact ⟨HO2.out, HB2.out⟩
  case rest =>
    obtain ⟨L0, hL0⟩ : ∃ L0 : List Int, L0 = ([91] ++ if neg = true then [94] else []) := ⟨_, rfl⟩
    have HE2 : Aside0 (writeL (toP d b neg l) = L0 ++ memsL (l.map toM) ++ [93]) := ⟨by rw [HE.out, hL0]⟩
    have HL0 : Aside0 (L0.length ≤ 2) := ⟨by rw [hL0]; cases neg <;> decide⟩
    rw [← hL0] at hcut
    clear hL0 HE HO1 HB1 z2'
    go_wp2_with fail
    go_loopw [3, 4] (fun v3 v4 wr => ∃ i : Nat, v4 = .int .i64 i ∧ i ≤ l.length ∧ Aside0 (OwnB wr w5.heap.size v3 (L0 ++ memsL ((l.take i).map toM)) ∧ Below w5.heap.size w5 wr)) (fun v3 v4 wr => l.length - (intOf v4).toNat)
    case atStart => exact ⟨0, rfl, by omega, ⟨by simpa [memsL] using hcut.out.1, hcut.out.2⟩⟩
    case round =>
      obtain ⟨i, rfl, hi2, HI⟩ := hrel
      have z3' := pw_cell_below HI.out.2 z3
      clear z0 z1 z2 z3
      by_cases hlt : i < l.length
      · have c1 : decide ((i : Int) < l.length) = true := decide_eq_true (by omega)
        have c1' : decide (i < l.length) = true := decide_eq_true hlt
        have HCr := Aside0.mk (Kd.C_below HC.out (PB.below_next HB.out HI.out.2))
        obtain ⟨y, hy⟩ : ∃ y, l[i]? = some y := ⟨_, List.getElem?_eq_getElem hlt⟩
        obtain ⟨ad, hAd⟩ : ∃ ad, A = some ad := by
          obtain ⟨ad, _, hh, _⟩ := Kd.C_get HCr.out y (i : Int) (by omega) (by omega)
          exact ⟨ad, hh⟩
        subst hAd
        have HK := Aside0.mk (mem_cells HCr.out i y hy)
        have HTK : Aside0 (memsL ((l.take (i + 1)).map toM) = memsL ((l.take i).map toM) ++ memL (toM y)) := ⟨by
          rw [List.take_add_one, hy, Option.toList_some, List.map_append]
          simp [memsL]⟩
        have HLN : Aside0 ((memsL ((l.take i).map toM)).length ≤ 5 * i) := ⟨mems_len l i hi2⟩
        obtain ⟨lo, hiB, rg, pl⟩ := y
        have HTY : Aside0 (memL (toM (lo, hiB, rg, pl)) = spellL lo pl ++ (if rg then 45 :: spellL hiB pl else [])) := ⟨rfl⟩
        have HSZ := Aside0.mk (show (Tryd.prog.info? 72).map (·.size) = some 4 by kernel_rfl)
        have HONE := Aside0.mk (show (#[.int .u8 lo, .int .u8 hiB, .bool rg, .bool pl] : Array Value).all (·.oneCell') = true by
          rw [Array.all_eq_true_iff_forall_mem]
          intro v hv
          have hv : v ∈ ([.int .u8 lo, .int .u8 hiB, .bool rg, .bool pl] : List Value) := by simpa using hv
          simp only [List.mem_cons, List.not_mem_nil, or_false] at hv
          rcases hv with rfl | rfl | rfl | rfl <;> rfl)
        have HSZ2 := Aside0.mk (show (Tryd.prog.info? 72).map (·.size) = some (#[.int .u8 lo, .int .u8 hiB, .bool rg, .bool pl] : Array Value).size from HSZ.out)
        clear hy
        go_upto_region 15 with (first
          | ((with_reducible refine gate_dst (N := 39) rfl ?_); refine wpList_load_at rfl 72 (.tmp 38) rfl (ad.add (i * 4)) rfl [.int .u8 lo, .int .u8 hiB, .bool rg, .bool pl] _ HK.out Tryd.underlying72 rfl HSZ.out ?_)
          | ((with_reducible refine gate_dst (N := 5) rfl ?_); refine box_event ?hg (N := 5) ?hd (cs := #[.int .u8 0, .int .u8 0, .bool false, .bool false]) (t := 72) ?hr ?_; (case hd => rfl); (case hg => rfl); (case hr => first | (go_simp; done) | (go_simp; rfl)); intro ga hga w7 hbox hb; have BA := Aside0.mk hbox; have HB7 := Aside0.mk hb; have GA := Aside0.mk hga; clear hbox hb hga)
          | ((with_reducible refine gate_store (p := 5) rfl ?_); refine wpList_store_row rfl 72 (.tmp 5) (.tmp 39) rfl ga #[.int .u8 lo, .int .u8 hiB, .bool rg, .bool pl] rfl rfl 72 #[.int .u8 0, .int .u8 0, .bool false, .bool false] BA.out HSZ2.out rfl HONE.out ?_; obtain ⟨w8, hw8⟩ : ∃ w8, w8 = w7.setRow ga #[.int .u8 lo, .int .u8 hiB, .bool rg, .bool pl] := ⟨_, rfl⟩; rw [← hw8]; have BC := Aside0.mk (show w8.heap[ga]? = some (.cells #[.int .u8 lo, .int .u8 hiB, .bool rg, .bool pl] 72 (0, 0)) by rw [hw8]; exact setRow_heap _ _ _ _ _ _ BA.out); have HB8 := Aside0.mk (show Below wr.heap.size wr w8 by rw [hw8]; exact below_setRow HB7.out (by rw [GA.out]; exact Nat.le_refl _) _); clear hw8))
        have x0 : w8.cell? ⟨ga, 0, none⟩ = some (.int .u8 lo) := (blk_cell BC.out 0).trans rfl
        have x3 : w8.cell? ⟨ga, 3, none⟩ = some (.bool pl) := (blk_cell BC.out 3).trans rfl
        have HO8 : Aside0 (OwnB w8 w5.heap.size u3 (L0 ++ memsL ((l.take i).map toM))) := ⟨HI.out.1.below HB8.out⟩
        have HW8 : Aside0 (Below w5.heap.size w5 w8) := ⟨PB.below_next HI.out.2 HB8.out⟩
        clear HB7 GA BA HSZ HSZ2 HONE HK z3'
        go_upto_region 16 with (first
          | (go_at_call 29; refine (spell.calls lo pl _).mono ?_; rintro e w9 ⟨As, cs, rfl, hcs, hCs, hb⟩; have HCS := Aside0.mk hCs; have HO9 := Aside0.mk (HO8.out.below hb); have HW9 := Aside0.mk (PB.below_next HW8.out hb); have BC9 := Aside0.mk (blk_below BC.out hb); clear hCs hb hcs)
          | ((with_reducible refine gate_builtin (b := .append) (xs := #[.tmp 40, .tmp 45]) rfl ?_); at_builtin; refine wpList_append_big (w0 := w5) w5.heap.size rfl (.tmp 40) (.tmp 45) rfl _ _ rfl HO9.out As cs (spellL lo pl) rfl HCS.out HW9.out HW9.out.size (spell_len lo pl).1 (by have := (spell_len lo pl).2; have := HL0.out; have := HLN.out; rw [List.length_append]; exact ⟨by omega, by omega⟩) _ rfl ?_; intro v10 w10 ho hb hk; have HO10 := Aside0.mk ho; have HW10 := Aside0.mk hb; have BC10 := Aside0.mk (hk _ _ _ BC9.out); clear ho hb hk))
        have y1 : w10.cell? ⟨ga, 1, none⟩ = some (.int .u8 hiB) := (blk_cell BC10.out 1).trans rfl
        have y2 : w10.cell? ⟨ga, 2, none⟩ = some (.bool rg) := (blk_cell BC10.out 2).trans rfl
        have y3 : w10.cell? ⟨ga, 3, none⟩ = some (.bool pl) := (blk_cell BC10.out 3).trans rfl
        clear HO9 HW9 BC9 HO8 HW8 BC x0 x3 HB8
        cases rg with
        | false =>
          have HR : Aside0 (OwnB w10 w5.heap.size v10 (L0 ++ memsL ((l.take (i + 1)).map toM)) ∧ Below w5.heap.size w5 w10) := ⟨by
            refine ⟨?_, HW10.out⟩
            have := HO10.out
            rw [HTK.out, HTY.out]
            simpa [List.append_assoc] using this⟩
          clear HO10 HW10
          go_wp2_with fail
          go_roundw
          case rel => exact ⟨i + 1, by go_num, by omega, HR⟩
          case measure => simp [intOf]; omega
        | true =>
          go_wp2_with (first
            | ((with_reducible refine gate_builtin (b := .append) (xs := #[.tmp 49, .tmp 50]) rfl ?_); at_builtin; refine wpList_append_big (w0 := w5) w5.heap.size rfl (.tmp 49) (.tmp 50) rfl _ _ rfl (HO10.out.below (below_alloc (Below.refl _ _) _)) _ 1 [45] rfl (got_const w10 _ rfl [45] _ (by decide)) (PB.below_next HW10.out (below_alloc (Below.refl _ _) _)) (PB.below_next HW10.out (below_alloc (Below.refl _ _) _)).size (by decide) (by have := (spell_len lo pl).2; have := HL0.out; have := HLN.out; simp only [List.length_append, List.length_singleton]; exact ⟨by omega, by omega⟩) _ rfl ?_; intro v11 w11 ho hb hk; have HO11 := Aside0.mk ho; have HW11 := Aside0.mk hb; have BC11 := Aside0.mk (hk _ _ _ (blk_below BC10.out (below_alloc (Below.refl _ _) _))); clear ho hb hk y1 y2 y3; have y1 : w11.cell? ⟨ga, 1, none⟩ = some (.int .u8 hiB) := (blk_cell BC11.out 1).trans rfl; have y3 : w11.cell? ⟨ga, 3, none⟩ = some (.bool pl) := (blk_cell BC11.out 3).trans rfl)
            | (go_at_call 29; refine (spell.calls hiB pl _).mono ?_; rintro e w12 ⟨As2, cs2, rfl, hcs, hCs, hb⟩; have HCS2 := Aside0.mk hCs; have HO12 := Aside0.mk (HO11.out.below hb); have HW12 := Aside0.mk (PB.below_next HW11.out hb); clear hCs hb hcs)
            | ((with_reducible refine gate_builtin (b := .append) (xs := #[.tmp 52, .tmp 57]) rfl ?_); at_builtin; refine wpList_append_big (w0 := w5) w5.heap.size rfl (.tmp 52) (.tmp 57) rfl _ _ rfl HO12.out As2 cs2 (spellL hiB pl) rfl HCS2.out HW12.out HW12.out.size (spell_len hiB pl).1 (by have := (spell_len lo pl).2; have := (spell_len hiB pl).2; have := HL0.out; have := HLN.out; simp only [List.length_append, List.length_singleton]; exact ⟨by omega, by omega⟩) _ rfl ?_; intro v13 w13 ho hb hk; have HO13 := Aside0.mk ho; have HW13 := Aside0.mk hb; clear ho hb hk))
          have HR : Aside0 (OwnB w13 w5.heap.size v13 (L0 ++ memsL ((l.take (i + 1)).map toM)) ∧ Below w5.heap.size w5 w13) := ⟨by
            refine ⟨?_, HW13.out⟩
            have := HO13.out
            rw [HTK.out, HTY.out]
            simpa [List.append_assoc] using this⟩
          go_roundw
          case rel => exact ⟨i + 1, by go_num, by omega, HR⟩
          case measure => simp [intOf]; omega
      · obtain rfl : i = l.length := by omega
        have c1 : decide ((l.length : Int) < l.length) = false := decide_eq_false (by omega)
        have HF : Aside0 (OwnB wr w5.heap.size u3 (L0 ++ memsL (l.map toM))) := ⟨by have := HI.out.1; rw [List.take_length] at this; exact this⟩
        have HFW : Aside0 (Below w5.heap.size w5 wr) := ⟨HI.out.2⟩
        have HLN : Aside0 ((memsL (l.map toM)).length ≤ 5 * l.length) := ⟨by have := mems_len l l.length (Nat.le_refl _); rw [List.take_length] at this; exact this⟩
        obtain ⟨LL, hLL⟩ : ∃ LL : List Int, LL = L0 ++ memsL (l.map toM) ++ [93] := ⟨_, rfl⟩
        have HLL := Aside0.mk hLL
        rw [← hLL] at HE2
        clear HI hLL
        go_wp2_with (first
          | ((with_reducible refine gate_builtin (b := .append) (xs := #[.tmp 59, .tmp 60]) rfl ?_); at_builtin; refine wpList_append_big (w0 := w5) w5.heap.size rfl (.tmp 59) (.tmp 60) rfl _ _ rfl (HF.out.below (below_alloc (Below.refl _ _) _)) _ 1 [93] rfl (got_const wr _ rfl [93] _ (by decide)) (PB.below_next HFW.out (below_alloc (Below.refl _ _) _)) (PB.below_next HFW.out (below_alloc (Below.refl _ _) _)).size (by decide) (by have := HL0.out; have := HLN.out; simp only [List.length_append, List.length_singleton]; exact ⟨by omega, by omega⟩) LL HLL.out ?_; intro v11 w11 ho hb hk; obtain ⟨Ae, ce, rfl, hce, hCe⟩ := ho.reads; have HCE := Aside0.mk hCe; have HWE := Aside0.mk hb; have HLE := Aside0.mk hce; clear ho hb hCe hce hk))
        go_ret
        exact ⟨Ae, ce, by rw [HE2.out]; rfl, by rw [HE2.out]; exact HLE.out, by rw [HE2.out]; exact HCE.out, PB.below_next HB.out HWE.out⟩
end Go.Proofs.YtdflblegdfpdpaaDoor.WriteW
end

section
/- append of a list that may be empty onto the call's own list of bytes. No function of the program. -/
namespace Go.Proofs.YtdflblegdfpdpaaDoor.AppB
open Go Go.RowKit Go.Proofs.YtdflblegdfpdpaaDoorW.PrintWords Go.Proofs.YtdflblegdfpdpaaDoorW.PrintLast Go.Proofs.YtdflblegdfpdpaaDoorW.PrintMore Go.Proofs.YtdflblegdfpdpaaDoor.WriteW Go.Proofs.YtdflblegdfpdpaaDoor.AppF
set_option linter.unusedVariables false
set_option maxRecDepth 100000
theorem run_empty2 (w : World) (ty : TypeId) (A : Option Addr) (n c : Nat) (h : n ≤ c) (Ax : Option Addr) (cx : Nat) :
    (Builtin.append_ #[22, 22] ty #[.slice A n c, .slice Ax 0 cx]).run Tryd.prog w = .ok (.slice A n c) w := by
  obtain ⟨i, hi, h0, h1, h2⟩ := infoB
  have hu := Tryd.underlying22
  cases A <;> cases Ax <;> simp [Builtin.append_, run_underlying hu, sizeOf, typeInfo, hi, Builtin.lenOf, Builtin.firstCells, storeCells, loadCells, loadCellsFrom, h]
theorem wpList_append_b {ops : Array Oper} {rest : List Oper} {o : Oper} {a : Act} {w0 W : World} {Q : Exit → Act → World → Prop} (base : Nat)
    (hg : o.guard = none) (s x : Operand) (hop : o.op = Op.call { callee := Callee.builtin Builtin.append, args := #[s, x], argTypes := #[22, 22] })
    (v : Value) (l1 : List Int) (hs : a.eval s = v) (HO : OwnB W base v l1)
    (Ax : Option Addr) (c : Nat) (l2 : List Int) (hx : a.eval x = .slice Ax l2.length c) (hC2 : Kd.C (Kd.int .u8) W Ax l2.length l2) (HB : Below base w0 W) (hbase : base ≤ W.heap.size) (hb : l1.length + l2.length ≤ 200000000000000 ∧ l2.length ≤ 100000000000000) (l3 : List Int) (h3 : l3 = l1 ++ l2)
    (hK : ∀ v' w', OwnB w' base v' l3 → Below base w0 w' → MKept W w' → wpList Tryd.prog ops Q rest (a.put o.dst v') w') :
    wpList Tryd.prog ops Q (o :: rest) a W := by
  by_cases h0 : l2.length = 0
  · obtain rfl : l2 = [] := List.eq_nil_of_length_eq_zero h0
    rw [List.append_nil] at h3
    subst h3
    obtain ⟨A, n, rfl, hn, _⟩ := HO.reads
    refine wpList_plain hg fun K hK' => ?_
    have hrun := run_empty2 W o.type A l3.length n hn Ax c
    unfold Oper.wp
    simp only [List.length_nil] at hx
    simp [execOp, hop, resolve, invoke, builtin, hs, hx, hrun, Result.andThen]
    exact hK' _ _ (hK _ _ HO HB (fun _ _ _ h => h))
  · exact wpList_append_big base hg s x hop v l1 hs HO Ax c l2 hx hC2 HB hbase (by omega) hb l3 h3 hK
end Go.Proofs.YtdflblegdfpdpaaDoor.AppB
end

section
/- larderlaw9.holdsAt and Eq: the machine's calls. -/
namespace Go.Proofs.YtdflblegdfpdpaaDoor.HoldW
open Go Go.RowKit Go.Proofs.YtdflblegdfpdpaaDoorW.PrintWords Go.Proofs.YtdflblegdfpdpaaDoorW.PrintLast Go.Proofs.YtdflblegdfpdpaaDoorW.PrintMore Go.Proofs.YtdflblegdfpdpaaDoor.PE Go.Proofs.YtdflblegdfpdpaaDoor.QuoteS Go.Proofs.YtdflblegdfpdpaaDoor.RefE
set_option linter.unusedVariables false
set_option maxRecDepth 100000

theorem eq.calls (A : Option Addr) (c : Nat) (a : List Int) (A1 : Option Addr) (c1 : Nat) (b : List Int) (w : World) (hr : Kd.C (Kd.int .u8) w A a.length a) (hc : a.length ≤ c) (hr1 : Kd.C (Kd.int .u8) w A1 b.length b) (hc1 : b.length ≤ c1) (hn : a.length ≤ 140737488355328) :
    Calls Tryd.prog 15 #[.slice A a.length c, .slice A1 b.length c1] w fun e w' => e = .returned (.bool (decide (a = b))) ∧ Below w.heap.size w w' := by
  obtain ⟨k, hk⟩ := Ev.rounds (RefE.eq a b hn)
  exact (larderref0_Eq.calls k A c a A1 c1 b _ w hr hc hr1 hc1 hk).mono fun e w' h => ⟨h.1, h.2.below⟩

theorem cut_mid (l : List Int) (A : Option Addr) (c : Nat) (hc : l.length ≤ c) (a b : Nat) (h1 : a ≤ b) (hb : b ≤ l.length) :
    ∃ A' : Option Addr, (∀ W : World, (Instr.slice 22 (.slice A l.length c) (some (.int .i64 (a : Int))) (some (.int .i64 (b : Int))) none).run Tryd.prog W = .ok (.slice A' ((l.take b).drop a).length (c - a)) W) ∧ (∀ w : World, Kd.C (Kd.int .u8) w A l.length l → Kd.C (Kd.int .u8) w A' ((l.take b).drop a).length ((l.take b).drop a)) ∧ ((l.take b).drop a).length ≤ c - a := by
  obtain ⟨i, hi, hz⟩ : ∃ i, Tryd.prog.info? 5 = some i ∧ i.size = 1 := by
    obtain ⟨i, hi, hz⟩ := Option.map_eq_some_iff.1 PB.spi
    simp only [Prod.mk.injEq] at hz
    exact ⟨i, hi, hz.2.1⟩
  obtain ⟨A', h1, h2, h3⟩ := print_mid_int (P := Tryd.prog) (k := .u8) 22 5 Tryd.underlying22 hi hz A c l a b (by omega) (by omega) (by omega) hc
  rw [Int.toNat_natCast, Int.toNat_natCast] at h1 h2 h3
  exact ⟨A', h1, fun w hC => Kd.C_of_reads (d := (0 : Int)) (h1 := fun _ => rfl) (h2 w (Kd.reads_of_C (d := (0 : Int)) (h1 := fun _ => rfl) hC)), h3⟩

set_option maxHeartbeats 1600000 in
theorem holdsAt.calls (A : Option Addr) (c : Nat) (u : List Int) (A1 : Option Addr) (c1 : Nat) (t : List Int) (a : Int) (w : World) (hr : Kd.C (Kd.int .u8) w A u.length u) (hc : u.length ≤ c) (hr1 : Kd.C (Kd.int .u8) w A1 t.length t) (hc1 : t.length ≤ c1) (hu : u.length ≤ 1000) (ht : t.length ≤ 1000) (ha : -1000 ≤ a ∧ a ≤ 1000) :
    Calls Tryd.prog 13 #[.slice A u.length c, .slice A1 t.length c1, .int .i64 a] w fun e w' => e = .returned (.bool (decide (0 ≤ a ∧ atP u t a.toNat))) ∧ Below w.heap.size w w' := by
  by_cases h0 : 0 ≤ a
  · obtain ⟨i, rfl⟩ := Int.eq_ofNat_of_zero_le h0
    have hv : wrap64 ((i : Int) + (t.length : Int)) = (i : Int) + t.length := by unfold wrap64; omega
    by_cases h1 : i + t.length ≤ u.length
    · obtain ⟨A', hrun, hC, hc'⟩ := cut_mid u A c hc i (i + t.length) (by omega) h1
      have hrun : ∀ W : World, (Instr.slice 22 (.slice A u.length c) (some (.int .i64 (i : Int))) (some (.int .i64 ((i : Int) + (t.length : Int)))) none).run Tryd.prog W = .ok (.slice A' ((u.take (i + t.length)).drop i).length (c - i)) W := hrun
      have he := eq.calls A' (c - i) ((u.take (i + t.length)).drop i) A1 c1 t w (hC w hr) hc' hr1 hc1 (by rw [List.length_drop, List.length_take]; omega)
      have hd : decide ((u.take (i + t.length)).drop i = t) = decide (0 ≤ (i : Int) ∧ atP u t ((i : Int)).toNat) := by
        rw [decide_eq_decide, Int.toNat_natCast]
        unfold atP
        rw [List.drop_take, show i + t.length - i = t.length by omega]
        constructor
        · intro h; exact ⟨h0, by omega, h⟩
        · intro h; exact h.2.2
      rw [hd] at he
      have d1 : decide ((i : Int) + (t.length : Int) ≤ u.length) = true := decide_eq_true (by omega)
      have d1' : decide (i + t.length ≤ u.length) = true := decide_eq_true h1
      have d0 : decide (0 ≤ (i : Int)) = true := decide_eq_true h0
      have x1 : (0 : Int) ≤ (i : Int) + (t.length : Int) := by omega
      have x2 : (i : Int) ≤ (i : Int) + (t.length : Int) := by omega
      generalize (u.take (i + t.length)).drop i = y at *
      generalize decide (0 ≤ (i : Int) ∧ atP u t ((i : Int)).toNat) = r at *
      clear hC hd hr hr1
      go_enter Tryd.func13, Tryd.ntmps13
      go_wp2_with fail
      refine he.mono ?_
      rintro e w' ⟨rfl, hb⟩
      go_wp2
      go_ret
      exact ⟨rfl, hb⟩
    · have d1 : decide ((i : Int) + (t.length : Int) ≤ u.length) = false := decide_eq_false (by omega)
      have d1' : decide (i + t.length ≤ u.length) = false := decide_eq_false h1
      have d0 : decide (0 ≤ (i : Int)) = true := decide_eq_true h0
      have hf : decide (0 ≤ (i : Int) ∧ atP u t ((i : Int)).toNat) = false := decide_eq_false (by rintro ⟨_, h, _⟩; rw [Int.toNat_natCast] at h; omega)
      rw [hf]
      clear hf hr hr1
      go_enter Tryd.func13, Tryd.ntmps13
      go_wp2
      go_ret
      exact ⟨rfl, Below.refl _ _⟩
  · have d0 : decide (0 ≤ a) = false := decide_eq_false h0
    have hf : decide (0 ≤ a ∧ atP u t a.toNat) = false := decide_eq_false (fun h => h0 h.1)
    rw [hf]
    clear hf hr hr1
    go_enter Tryd.func13, Tryd.ntmps13
    go_wp2
    go_ret
    exact ⟨rfl, Below.refl _ _⟩
end Go.Proofs.YtdflblegdfpdpaaDoor.HoldW
end

section
/- larderref9.Fill: the machine's call. -/
namespace Go.Proofs.YtdflblegdfpdpaaDoor.FillR
open Go Go.RowKit Go.Proofs.YtdflblegdfpdpaaDoorW.PrintWords Go.Proofs.YtdflblegdfpdpaaDoorW.PrintLast Go.Proofs.YtdflblegdfpdpaaDoorW.PrintMore Go.Proofs.YtdflblegdfpdpaaDoor.ScoreW Go.Proofs.YtdflblegdfpdpaaDoor.AppF Go.Proofs.YtdflblegdfpdpaaDoor.CloneW Go.Proofs.YtdflblegdfpdpaaDoor.CopyW Go.Proofs.YtdflblegdfpdpaaDoor.FillS Go.Proofs.YtdflblegdfpdpaaDoor.FillA Go.Proofs.YtdflblegdfpdpaaDoor.FillW Go.Proofs.YtdflblegdfpdpaaDoor.WriteW Go.Proofs.YtdflblegdfpdpaaDoor.AppB
set_option linter.unusedVariables false
set_option maxRecDepth 100000
theorem star_first {p : List Int} {i : Nat} (h : p[i]? = some 42) (h2 : ∀ j : Nat, j < i → p[j]? ≠ some 42) : starI p = i := by
  rcases star_spec p with ⟨_, h3⟩ | ⟨k, h1, h3, h4⟩
  · exact absurd h (h3 i)
  · rw [h1]
    rcases Nat.lt_trichotomy i k with hk | rfl | hk
    · exact absurd h (h4 i hk)
    · rfl
    · exact absurd h3 (h2 k hk)
theorem arrow_first {p : List Int} {i : Nat} (h : arrAt p i) (h2 : ∀ j : Nat, j < i → ¬ arrAt p j) : arrowI p = i := by
  rcases arrow_spec p with ⟨_, h3⟩ | ⟨k, h1, h3, h4⟩
  · exact absurd h (h3 i)
  · rw [h1]
    rcases Nat.lt_trichotomy i k with hk | rfl | hk
    · exact absurd h (h4 i hk)
    · rfl
    · exact absurd h3 (h2 k hk)
theorem arrow_late {r : List Int} {j : Nat} (hj : r.length ≤ j + 2) (h2 : ∀ j' : Nat, j' < j → ¬ arrAt r j') : ¬ (0 ≤ arrowI r ∧ arrowI r + 2 < r.length) := by
  rintro ⟨h0, h1⟩
  rcases arrow_spec r with ⟨h, _⟩ | ⟨k, h, h3, _⟩
  · omega
  · rw [h] at h1
    exact h2 k (by omega) h3
theorem own_of_row {W : World} {g base : Nat} {l : List Int} (h : RowAt W g l.length l) (hb : base ≤ g) : OwnB W base (.slice (some ⟨g, 0, none⟩) l.length l.length) l := by
  obtain ⟨cur, h1, h2, h3, h4, h5⟩ := h
  refine .inl ⟨by simp [encs], .inr ⟨g, l.length, cur.toArray, rfl, hb, h1, Nat.le_refl _, h4, by simpa using h2, ?_⟩⟩
  rw [Nat.mul_one]
  exact h5
theorem cellI {w : World} {A : Option Addr} {l : List Int} (h : Kd.C (Kd.int .u8) w A l.length l) (i : Nat) (hi : i < l.length) : ∃ ad, A = some ad ∧ w.cell? (ad.add i) = some (.int .u8 l[i]) := by
  obtain ⟨ad, rfl, _⟩ := Kd.at_int h (i : Int) (by omega) (by omega)
  exact ⟨ad, rfl, cells_of h i _ (by rw [List.getElem?_map, List.getElem?_eq_getElem hi]; rfl)⟩
section
variable (Ap : Option Addr) (cp : Nat) (p : List Int) (At : Option Addr) (ct : Nat) (t : List Int) (w : World)
set_option maxHeartbeats 8000000 in
theorem refFill.calls (hp : Kd.C (Kd.int .u8) w Ap p.length p) (hcp : p.length ≤ cp) (ht : Kd.C (Kd.int .u8) w At t.length t) (hct : t.length ≤ ct) (lp : p.length ≤ 1048576) (lt : t.length ≤ 1048576) :
    Calls Tryd.prog 51 #[.slice Ap p.length cp, .slice At t.length ct] w fun e w' => FillGot w (fillS p t).1 (fillS p t).2.1 (fillS p t).2.2 e w' := by
  have HP := Aside0.mk hp
  have HT := Aside0.mk ht
  clear hp ht
  go_enter Tryd.func51, Tryd.ntmps51
  go_wp2_with fail
  go_loopw [7] (fun v7 wr => ∃ i : Nat, v7 = .int .i64 i ∧ i ≤ p.length ∧ wr = w ∧ Aside0 (∀ j : Nat, j < i → p[j]? ≠ some 42)) (fun v7 wr => p.length - (intOf v7).toNat)
  case atStart => exact ⟨0, rfl, by omega, rfl, ⟨fun j hj => by omega⟩⟩
  case round =>
    obtain ⟨i, rfl, hi2, rfl, HI⟩ := hrel
    by_cases hlt : i < p.length
    · have c1 : decide ((i : Int) < p.length) = true := decide_eq_true (by omega)
      have c1' : decide (i < p.length) = true := decide_eq_true hlt
      obtain ⟨ad, rfl, hcell⟩ := cellI HP.out i hlt
      obtain ⟨x, hx⟩ : ∃ x, x = p[i] := ⟨_, rfl⟩
      rw [← hx] at hcell
      have HX : Aside0 (p[i]? = some x) := ⟨by rw [hx, List.getElem?_eq_getElem hlt]⟩
      clear hx
      by_cases h42 : x = 42
      · subst h42
        have HS := Aside0.mk (star_first HX.out HI.out)
        clear HX HI
        have c2 : ((i : Int) == p.length) = false := by simp; omega
        have c2' : (i == p.length) = false := by simp; omega
        have hrd : ∀ j : Nat, (p.drop (i + 1))[j]? = p[i + 1 + j]? := fun j => List.getElem?_drop
        obtain ⟨hrt, hCt⟩ := FillW.cut_at p (some ad) cp hcp i (by omega)
        have HP1 := Aside0.mk (hCt wr HP.out)
        have hl1 : (p.take i).length ≤ 1048576 := by rw [List.length_take]; omega
        have hf : fillS p t = if 0 ≤ arrowI (p.drop (i + 1)) ∧ arrowI (p.drop (i + 1)) + 2 < (p.drop (i + 1)).length then (p.take i ++ t ++ (p.drop (i + 1)).take (arrowI (p.drop (i + 1))).toNat, (p.drop (i + 1)).drop ((arrowI (p.drop (i + 1))).toNat + 2), true) else (p.take i ++ t ++ p.drop (i + 1), [], true) := by
          unfold fillS
          rw [if_neg (by rw [HS.out]; omega), HS.out]
          rfl
        have HF0 := Aside0.mk hf
        have HRD := Aside0.mk hrd
        clear hf hrd hCt HS
        generalize hp1 : p.take i = p1 at *
        clear hp1
        go_wp2_with fail
        go_loopw [8, 9, 10] (fun v8 v9 v10 wq => ∃ j : Nat, v8 = .int .i64 p.length ∧ v9 = .slice none 0 0 ∧ v10 = .int .i64 ((i + 1 + j : Nat) : Int) ∧ i + 1 + j ≤ p.length ∧ wq = wr ∧ Aside0 (∀ j' : Nat, j' < j → ¬ arrAt (p.drop (i + 1)) j')) (fun v8 v9 v10 wq => p.length - (intOf v10).toNat)
        case atStart => exact ⟨0, rfl, rfl, by go_num, by omega, rfl, ⟨fun j hj => by omega⟩⟩
        case round =>
          obtain ⟨j, rfl, rfl, rfl, hj, rfl, HJ⟩ := hrel
          obtain ⟨n, hn⟩ : ∃ n, n = i + 1 + j := ⟨_, rfl⟩
          rw [← hn]
          have HN := Aside0.mk hn
          have hnp : n ≤ p.length := by omega
          clear hn hj
          by_cases hlt2 : n + 2 < p.length
          · have f1 : decide ((n : Int) + 2 < p.length) = true := decide_eq_true (by omega)
            have f1' : decide (n + 2 < p.length) = true := decide_eq_true hlt2
            obtain ⟨ad2, he, hcx⟩ := cellI HP.out n (by omega)
            obtain rfl := Option.some.inj he
            obtain ⟨ad3, he3, hcy⟩ := cellI HP.out (n + 1) (by omega)
            obtain rfl := Option.some.inj he3
            obtain ⟨x, hx⟩ : ∃ x, x = p[n] := ⟨_, rfl⟩
            obtain ⟨y, hy⟩ : ∃ y, y = p[n + 1] := ⟨_, rfl⟩
            rw [← hx] at hcx
            rw [← hy] at hcy
            have hcy2 : wr.cell? ⟨ad.block, ad.off + (n + 1), none⟩ = some (.int .u8 y) := by have h := hcy; unfold Addr.add at h; rw [if_neg (by omega)] at h; exact h
            have HX : Aside0 ((p.drop (i + 1))[j]? = some x) := ⟨by rw [HRD.out, ← HN.out, List.getElem?_eq_getElem (by omega), hx]⟩
            have HY : Aside0 ((p.drop (i + 1))[j + 1]? = some y) := ⟨by rw [HRD.out, show i + 1 + (j + 1) = n + 1 by have := HN.out; omega, List.getElem?_eq_getElem (by omega), hy]⟩
            clear hx hy
            by_cases h45 : x = 45
            · by_cases h62 : y = 62
              · subst h45 h62
                have HA := Aside0.mk (arrow_first ⟨HX.out, HY.out⟩ HJ.out)
                obtain ⟨Af, hrf, hCf, hcf⟩ := cut_drop2 p (some ad) cp hcp (n + 2) (by omega)
                have hrf : ∀ W : World, (Instr.slice 22 (.slice (some ad) p.length cp) (some (.int .i64 ((n : Int) + 2))) none none).run Tryd.prog W = .ok (.slice Af (p.drop (n + 2)).length (cp - (n + 2))) W := hrf
                obtain ⟨Am, hrm, hCm, hcm⟩ := HoldW.cut_mid p (some ad) cp hcp (i + 1) n (by have := HN.out; omega) (by omega)
                have hrm : ∀ W : World, (Instr.slice 22 (.slice (some ad) p.length cp) (some (.int .i64 ((i : Int) + 1))) (some (.int .i64 (n : Int))) none).run Tryd.prog W = .ok (.slice Am ((p.take n).drop (i + 1)).length (cp - (i + 1))) W := hrm
                have hf := HF0.out
                rw [if_pos (by rw [HA.out, List.length_drop]; have := HN.out; omega), HA.out, Int.toNat_natCast, List.drop_drop, show i + 1 + (j + 2) = n + 2 by have := HN.out; omega, show (p.drop (i + 1)).take j = (p.take n).drop (i + 1) by rw [List.drop_take]; congr 1; have := HN.out; omega] at hf
                have CF := Aside0.mk (hCf _ HP.out)
                have HM1 := Aside0.mk (hCm _ HP.out)
                have lf : (p.drop (n + 2)).length ≤ 1048576 := by rw [List.length_drop]; omega
                have lm : ((p.take n).drop (i + 1)).length ≤ 1048576 := by rw [List.length_drop, List.length_take]; omega
                obtain ⟨cm, hcm2⟩ : ∃ cm, cm = cp - (i + 1) := ⟨_, rfl⟩
                obtain ⟨cf, hcf2⟩ : ∃ cf, cf = cp - (n + 2) := ⟨_, rfl⟩
                rw [← hcm2] at hrm hcm
                rw [← hcf2] at hrf hcf
                clear hcm2 hcf2 hCf hCm HX HY HJ HA HF0 HRD
                generalize p.drop (n + 2) = F at *
                generalize (p.take n).drop (i + 1) = m1 at *
                obtain ⟨K, hK⟩ : ∃ K, K = p1 ++ t ++ m1 := ⟨_, rfl⟩
                rw [← hK] at hf
                have HK := Aside0.mk hK
                have HF := Aside0.mk hf
                clear hf hK
                go_wp2_with fail
                refine (copy.calls Af cf F _ CF.out (by omega)).mono ?_
                rintro e w4 ⟨g4, rfl, hg4, hrow4, hb4⟩
                have HB4 := Aside0.mk hb4
                have R4 := Aside0.mk hrow4
                clear hb4 hrow4 hg4
                go_wp2_with fail
                refine (copy.calls (some ad) cp p1 _ (Kd.C_below HP1.out HB4.out) (by omega)).mono ?_
                rintro e w5 ⟨g5, rfl, hg5, hrow, hb⟩
                have HO5 := Aside0.mk (own_of_row hrow hg5)
                have HB5 := Aside0.mk hb
                have T5 := Aside0.mk (Kd.C_below (Kd.C_below HT.out HB4.out) hb)
                clear hrow hb hg5
                go_wp2_with (first
                  | ((with_reducible refine gate_builtin (b := .append) (xs := #[.tmp 63, .tmp 64]) rfl ?_); at_builtin; refine wpList_append_b (w0 := w4) w4.heap.size rfl (.tmp 63) (.tmp 64) rfl _ _ rfl HO5.out At ct t rfl T5.out HB5.out HB5.out.size (by omega) _ rfl ?_; intro v6 w6 ho hb hk; have HO6 := Aside0.mk ho; have HB6 := Aside0.mk hb; clear ho hb hk HO5 HB5 T5)
                  | ((with_reducible refine gate_builtin (b := .append) (xs := #[.tmp 66, .tmp 71]) rfl ?_); at_builtin; refine wpList_append_b (w0 := w4) w4.heap.size rfl (.tmp 66) (.tmp 71) rfl _ _ rfl HO6.out Am cm m1 rfl (Kd.C_below (Kd.C_below HM1.out HB4.out) HB6.out) HB6.out HB6.out.size (by simp only [List.length_append]; omega) K HK.out ?_; intro v7 w7 ho hb hk; obtain ⟨Ak, ck, rfl, hck, hCk⟩ := ho.reads; have HKC := Aside0.mk hCk; have HB7 := Aside0.mk hb; clear ho hb hk hCk HO6 HB6))
                go_ret3
                rw [HF.out]
                exact ⟨Ak, ck, some ⟨g4, 0, none⟩, F.length, rfl, hck, HKC.out, Nat.le_refl _, Kd.C_below R4.out.C HB7.out, PB.below_next HB4.out HB7.out⟩
              · have d1 : (x == 45) = true := by simpa using h45
                have d2 : (y == 62) = false := by simpa using h62
                go_wp2_with fail
                go_roundw
                case rel => exact ⟨j + 1, by first | trivial | rfl, by first | trivial | rfl, by rw [HN.out]; go_num, by have := HN.out; omega, by first | trivial | rfl, ⟨fun j' hj' => by
                  by_cases hjj : j' = j
                  · subst hjj; rintro ⟨_, h⟩; rw [HY.out] at h; exact h62 (Option.some.inj h)
                  · exact HJ.out j' (by omega)⟩⟩
                case measure => simp [intOf]; omega
            · have d1 : (x == 45) = false := by simpa using h45
              go_wp2_with fail
              go_roundw
              case rel => exact ⟨j + 1, by first | trivial | rfl, by first | trivial | rfl, by rw [HN.out]; go_num, by have := HN.out; omega, by first | trivial | rfl, ⟨fun j' hj' => by
                by_cases hjj : j' = j
                · subst hjj; rintro ⟨h, _⟩; rw [HX.out] at h; exact h45 (Option.some.inj h)
                · exact HJ.out j' (by omega)⟩⟩
              case measure => simp [intOf]; omega
          · have f1 : decide ((n : Int) + 2 < p.length) = false := decide_eq_false (by omega)
            have f1' : decide (n + 2 < p.length) = false := decide_eq_false hlt2
            obtain ⟨Am, hrm, hCm, hcm⟩ := HoldW.cut_mid p (some ad) cp hcp (i + 1) p.length (by omega) (Nat.le_refl _)
            have hrm : ∀ W : World, (Instr.slice 22 (.slice (some ad) p.length cp) (some (.int .i64 ((i : Int) + 1))) (some (.int .i64 (p.length : Int))) none).run Tryd.prog W = .ok (.slice Am ((p.take p.length).drop (i + 1)).length (cp - (i + 1))) W := hrm
            have hf := HF0.out
            rw [if_neg (arrow_late (j := j) (by rw [List.length_drop]; have := HN.out; omega) HJ.out)] at hf
            have HM1 := Aside0.mk (hCm _ HP.out)
            have lm : ((p.take p.length).drop (i + 1)).length ≤ 1048576 := by rw [List.length_drop, List.length_take]; omega
            rw [List.take_length] at hrm HM1 lm hcm
            obtain ⟨cm, hcm2⟩ : ∃ cm, cm = cp - (i + 1) := ⟨_, rfl⟩
            rw [← hcm2] at hrm hcm
            clear hcm2 hCm HJ HF0 HRD
            generalize p.drop (i + 1) = m1 at *
            obtain ⟨K, hK⟩ : ∃ K, K = p1 ++ t ++ m1 := ⟨_, rfl⟩
            rw [← hK] at hf
            have HK := Aside0.mk hK
            have HF := Aside0.mk hf
            clear hf hK
            go_wp2_with fail
            refine (copy.calls (some ad) cp p1 _ (Kd.C_below HP1.out (Below.refl _ _)) (by omega)).mono ?_
            rintro e w5 ⟨g5, rfl, hg5, hrow, hb⟩
            have HO5 := Aside0.mk (own_of_row hrow hg5)
            have HB5 := Aside0.mk hb
            have T5 := Aside0.mk (Kd.C_below (Kd.C_below HT.out (Below.refl _ _)) hb)
            clear hrow hb hg5
            go_wp2_with (first
              | ((with_reducible refine gate_builtin (b := .append) (xs := #[.tmp 63, .tmp 64]) rfl ?_); at_builtin; refine wpList_append_b (w0 := wr) wr.heap.size rfl (.tmp 63) (.tmp 64) rfl _ _ rfl HO5.out At ct t rfl T5.out HB5.out HB5.out.size (by omega) _ rfl ?_; intro v6 w6 ho hb hk; have HO6 := Aside0.mk ho; have HB6 := Aside0.mk hb; clear ho hb hk HO5 HB5 T5)
              | ((with_reducible refine gate_builtin (b := .append) (xs := #[.tmp 66, .tmp 71]) rfl ?_); at_builtin; refine wpList_append_b (w0 := wr) wr.heap.size rfl (.tmp 66) (.tmp 71) rfl _ _ rfl HO6.out Am cm m1 rfl (Kd.C_below (Kd.C_below HM1.out (Below.refl _ _)) HB6.out) HB6.out HB6.out.size (by simp only [List.length_append]; omega) K HK.out ?_; intro v7 w7 ho hb hk; obtain ⟨Ak, ck, rfl, hck, hCk⟩ := ho.reads; have HKC := Aside0.mk hCk; have HB7 := Aside0.mk hb; clear ho hb hk hCk HO6 HB6))
            go_ret3
            rw [HF.out]
            exact ⟨Ak, ck, none, 0, rfl, hck, HKC.out, by simp, Kd.C_nil _ _, HB7.out⟩
      · have c2 : (x == 42) = false := by simpa using h42
        have c3 : (x != 42) = true := by simpa using h42
        go_wp2_with fail
        go_roundw
        case rel =>
          refine ⟨i + 1, by go_num, by omega, by first | trivial | rfl, ⟨fun j hj => ?_⟩⟩
          by_cases hji : j = i
          · subst hji; rw [HX.out]; intro h; exact h42 (Option.some.inj h)
          · exact HI.out j (by omega)
        case measure => simp [intOf]; omega
    · obtain rfl : i = p.length := by omega
      have c1 : decide ((p.length : Int) < p.length) = false := decide_eq_false (by omega)
      have c1' : decide (p.length < p.length) = false := decide_eq_false hlt
      have HF : Aside0 (fillS p t = ([], [], false)) := ⟨by
        unfold fillS
        rcases star_spec p with ⟨h1, _⟩ | ⟨k, _, h3, _⟩
        · rw [if_pos h1]
        · exact absurd h3 (HI.out k (List.getElem?_eq_some_iff.1 h3).1)⟩
      go_wp2_with fail
      go_ret3
      rw [HF.out]
      exact ⟨none, 0, none, 0, rfl, by simp, Kd.C_nil _ _, by simp, Kd.C_nil _ _, Below.refl _ _⟩
end
end Go.Proofs.YtdflblegdfpdpaaDoor.FillR
end

section
/- larderlaw9.held, where the answers need what internal/bytealg.MaxLen holds: some number. -/
namespace Go.Proofs.YtdflblegdfpdpaaDoor.HeldM
open Go Go.RowKit Go.Proofs.YtdflblegdfpdpaaDoorW.PrintWords Go.Proofs.YtdflblegdfpdpaaDoorW.PrintLast Go.Proofs.YtdflblegdfpdpaaDoorW.PrintMore Go.Proofs.YtdflblegdfpdpaaDoor.PE Go.Proofs.YtdflblegdfpdpaaDoor.WinS Go.Proofs.YtdflblegdfpdpaaDoor.AskW Go.Proofs.YtdflblegdfpdpaaDoor.GlobW Go.Proofs.YtdflblegdfpdpaaDoor.HeldW
set_option linter.unusedVariables false
set_option maxRecDepth 100000
structure GM (W : World) : Prop where
  gl : GL W
  ml : ∃ m : Int, W.cell? ⟨2, 0, none⟩ = some (.int .i64 m)
theorem GM.below {w W : World} (h : GM w) (hb : Below w.heap.size w W) : GM W := ⟨h.gl.below hb, by obtain ⟨m, hm⟩ := h.ml; exact ⟨m, pw_cell_below hb hm⟩⟩
/-- An ask whose answer is the document's. -/
def AnsM (y : AskT) : Prop := ∀ (W : World) (ca : Array Value), GM W → kAsk.K W y ca.toList → Calls Tryd.prog 37 #[.agg ca] W fun e w' => e = .returned (.bool true) ∧ Below W.heap.size W w'

set_option maxHeartbeats 8000000 in
theorem held (A : Option Addr) (c : Nat) (l : List AskT) (lo hi : Int) (w : World) (hC : kAsk.C w A l.length l) (hlen : l.length ≤ 140737488355328) (hG : GM w) (hans : ∀ y ∈ l, lo ≤ y.1 → y.1 ≤ hi → AnsM y) :
    Calls Tryd.prog 26 #[.agg #[.slice A l.length c], .int .i64 lo, .int .i64 hi] w fun e w' => e = .returned (.bool true) ∧ Below w.heap.size w w' := by
  have HC := Aside0.mk hC
  have HG := Aside0.mk hG
  have HA := Aside0.mk hans
  have HB := Aside0.mk (Below.refl w.heap.size w)
  clear hC hG hans
  go_enter Tryd.func26, Tryd.ntmps26
  go_wp2_with (first
    | ((with_reducible refine gate_dst (N := 3) rfl ?_); refine box_event ?hg (N := 3) ?hd (cs := #[.slice A l.length c]) (t := 60) ?hr ?_; (case hd => rfl); (case hg => rfl); (case hr => first | (go_simp; done) | (go_simp; rfl)); intro gb hgb w5 hbox hb; have n0_ := Aside0.mk (below_step HB.out hb); have BK := Aside0.mk hbox; have GE := Aside0.mk hgb; clear HB; have HB := n0_; clear n0_ hb hbox hgb))
  refine (PB.wakes_walk w5 (HG.out.below HB.out).gl).mono ?_
  rintro e w6 ⟨rfl, hb⟩
  have BK6 := Aside0.mk (blk_below BK.out hb)
  have n0_ := Aside0.mk (PB.below_next HB.out hb)
  clear HB BK hb
  have HB := n0_
  clear n0_
  go_wp2_with fail
  go_loopw [7] (fun v7 wr => ∃ i : Nat, v7 = .int .i64 i ∧ i ≤ l.length ∧ Aside0 (Below w.heap.size w wr ∧ wr.heap[gb]? = some (.cells #[.slice A l.length c] 60 (0, 0)))) (fun v7 wr => l.length - (intOf v7).toNat)
  case atStart => exact ⟨0, rfl, by omega, ⟨HB.out, BK6.out⟩⟩
  case round =>
    obtain ⟨i, rfl, hi2, HI⟩ := hrel
    have z0 : wr.cell? ⟨gb, 0, none⟩ = some (.slice A l.length c) := (blk_cell HI.out.2 0).trans rfl
    by_cases hlt : i < l.length
    · have c1 : decide ((i : Int) < l.length) = true := decide_eq_true (by omega)
      have c1' : decide (i < l.length) = true := decide_eq_true hlt
      by_cases h200 : i < 200
      · have c2 : decide ((i : Int) < 200) = true := decide_eq_true (by omega)
        have c2' : decide (i < 200) = true := decide_eq_true h200
        have HCr := Aside0.mk (Kd.C_below HC.out HI.out.1)
        obtain ⟨y, hy⟩ : ∃ y, l[i]? = some y := ⟨_, List.getElem?_eq_getElem hlt⟩
        obtain ⟨ad, hAd⟩ : ∃ ad, A = some ad := by
          obtain ⟨ad, _, hh, _⟩ := Kd.C_get HCr.out y (i : Int) (by omega) (by omega)
          exact ⟨ad, hh⟩
        subst hAd
        obtain ⟨cs, hKy, hcl, hK⟩ := el_cells HCr.out i y hy
        have hmem := List.mem_of_getElem? hy
        obtain ⟨Ap, cp, At, ct, A3, c3, A4, c4, he, _⟩ := ask_cells hKy
        have HKY := Aside0.mk hKy
        have HAY := Aside0.mk (HA.out y hmem)
        have HK := Aside0.mk hK
        have HSZ := Aside0.mk (show (Tryd.prog.info? 45).map (·.size) = some cs.length by rw [hcl]; kernel_rfl)
        have HSZ2 := Aside0.mk (show (Tryd.prog.info? 45).map (·.size) = some cs.toArray.size by rw [List.size_toArray]; exact HSZ.out)
        have HSZ3 := Aside0.mk (show zeroAsk.size = cs.toArray.size by show 18 = cs.toArray.size; rw [List.size_toArray, hcl])
        have HONE := Aside0.mk (show cs.toArray.all (·.oneCell') = true by
          rw [Array.all_eq_true_iff_forall_mem]
          intro v hv
          exact kAsk.K_one hKy v (by simpa using hv))
        have HD0' : cs[0]? = some (.int .i64 y.1) := by rw [he]; rfl
        obtain ⟨d, hd⟩ : ∃ d, d = y.1 := ⟨_, rfl⟩
        rw [← hd] at HD0' HAY
        have HD0 := Aside0.mk HD0'
        clear hKy hmem hy hK hcl he HD0' hd
        by_cases hlo : lo ≤ d
        · have e1 : decide (lo ≤ d) = true := decide_eq_true hlo
          by_cases hhi : d ≤ hi
          · have e2 : decide (d ≤ hi) = true := decide_eq_true hhi
            have HAN := Aside0.mk (HAY.out hlo hhi)
            clear hlo hhi
            go_wp2_with (first
              | ((with_reducible refine gate_dst (N := 26) rfl ?_); refine wpList_load_at rfl 45 (.tmp 25) rfl (ad.add (i * 18)) rfl cs _ HK.out Tryd.underlying45 rfl HSZ.out ?_)
              | ((with_reducible refine gate_dst (N := 8) rfl ?_); refine box_event ?hg (N := 8) ?hd (cs := zeroAsk) (t := 45) ?hr ?_; (case hd => rfl); (case hg => rfl); (case hr => first | (go_simp; done) | (go_simp; rfl)); intro ga hga w7 hbox hb; have BA := Aside0.mk hbox; have HB7 := Aside0.mk hb; have GA := Aside0.mk hga; clear hbox hb hga)
              | ((with_reducible refine gate_store (p := 8) rfl ?_); refine wpList_store_row rfl 45 (.tmp 8) (.tmp 26) rfl ga cs.toArray rfl rfl 45 zeroAsk BA.out HSZ2.out HSZ3.out HONE.out ?_; obtain ⟨w8, hw8⟩ : ∃ w8, w8 = w7.setRow ga cs.toArray := ⟨_, rfl⟩; rw [← hw8]; have BC := Aside0.mk (show w8.heap[ga]? = some (.cells cs.toArray 45 (0, 0)) by rw [hw8]; exact setRow_heap _ _ _ _ _ _ BA.out); have HB8 := Aside0.mk (show Below wr.heap.size wr w8 by rw [hw8]; exact below_setRow HB7.out (by rw [GA.out]; exact Nat.le_refl _) _); clear hw8; have zd : w8.cell? ⟨ga, 0, none⟩ = some (.int .i64 d) := (blk_cell BC.out 0).trans (by rw [← HD0.out]; simp))
              | ((with_reducible refine gate_dst (N := 38) rfl ?_); (try (refine gate_guard (by rfl) ?_; dsimp only)); refine wpList_load_row rfl 45 (.tmp 8) rfl ga rfl 45 cs.toArray (0, 0) _ BC.out Tryd.underlying45 rfl HSZ2.out ?_))
            refine (HAN.out _ cs.toArray (HG.out.below (PB.below_next HI.out.1 HB8.out)) (by rw [List.toList_toArray]; exact kAsk.K_below HB8.out HKY.out)).mono ?_
            rintro e w9 ⟨rfl, hb⟩
            have n0_ := Aside0.mk (And.intro (PB.below_next (PB.below_next HI.out.1 HB8.out) hb) (blk_below (blk_below HI.out.2 HB8.out) hb))
            clear hb
            go_wp2_with fail
            go_roundw
            case rel => exact ⟨i + 1, by go_num, by omega, ⟨n0_.out.1, n0_.out.2⟩⟩
            case measure => simp [intOf]; omega
          · have e2 : decide (d ≤ hi) = false := decide_eq_false hhi
            clear hlo hhi
            go_wp2_with (first
              | ((with_reducible refine gate_dst (N := 26) rfl ?_); refine wpList_load_at rfl 45 (.tmp 25) rfl (ad.add (i * 18)) rfl cs _ HK.out Tryd.underlying45 rfl HSZ.out ?_)
              | ((with_reducible refine gate_dst (N := 8) rfl ?_); refine box_event ?hg (N := 8) ?hd (cs := zeroAsk) (t := 45) ?hr ?_; (case hd => rfl); (case hg => rfl); (case hr => first | (go_simp; done) | (go_simp; rfl)); intro ga hga w7 hbox hb; have BA := Aside0.mk hbox; have HB7 := Aside0.mk hb; have GA := Aside0.mk hga; clear hbox hb hga)
              | ((with_reducible refine gate_store (p := 8) rfl ?_); refine wpList_store_row rfl 45 (.tmp 8) (.tmp 26) rfl ga cs.toArray rfl rfl 45 zeroAsk BA.out HSZ2.out HSZ3.out HONE.out ?_; obtain ⟨w8, hw8⟩ : ∃ w8, w8 = w7.setRow ga cs.toArray := ⟨_, rfl⟩; rw [← hw8]; have BC := Aside0.mk (show w8.heap[ga]? = some (.cells cs.toArray 45 (0, 0)) by rw [hw8]; exact setRow_heap _ _ _ _ _ _ BA.out); have HB8 := Aside0.mk (show Below wr.heap.size wr w8 by rw [hw8]; exact below_setRow HB7.out (by rw [GA.out]; exact Nat.le_refl _) _); clear hw8; have zd : w8.cell? ⟨ga, 0, none⟩ = some (.int .i64 d) := (blk_cell BC.out 0).trans (by rw [← HD0.out]; simp))
              | ((with_reducible refine gate_dst (N := 38) rfl ?_); (try (refine gate_guard (by rfl) ?_; dsimp only)); refine wpList_load_row rfl 45 (.tmp 8) rfl ga rfl 45 cs.toArray (0, 0) _ BC.out Tryd.underlying45 rfl HSZ2.out ?_))
            go_roundw
            case rel => exact ⟨i + 1, by go_num, by omega, ⟨PB.below_next HI.out.1 HB8.out, blk_below HI.out.2 HB8.out⟩⟩
            case measure => simp [intOf]; omega
        · have e1 : decide (lo ≤ d) = false := decide_eq_false hlo
          clear hlo
          go_wp2_with (first
              | ((with_reducible refine gate_dst (N := 26) rfl ?_); refine wpList_load_at rfl 45 (.tmp 25) rfl (ad.add (i * 18)) rfl cs _ HK.out Tryd.underlying45 rfl HSZ.out ?_)
              | ((with_reducible refine gate_dst (N := 8) rfl ?_); refine box_event ?hg (N := 8) ?hd (cs := zeroAsk) (t := 45) ?hr ?_; (case hd => rfl); (case hg => rfl); (case hr => first | (go_simp; done) | (go_simp; rfl)); intro ga hga w7 hbox hb; have BA := Aside0.mk hbox; have HB7 := Aside0.mk hb; have GA := Aside0.mk hga; clear hbox hb hga)
              | ((with_reducible refine gate_store (p := 8) rfl ?_); refine wpList_store_row rfl 45 (.tmp 8) (.tmp 26) rfl ga cs.toArray rfl rfl 45 zeroAsk BA.out HSZ2.out HSZ3.out HONE.out ?_; obtain ⟨w8, hw8⟩ : ∃ w8, w8 = w7.setRow ga cs.toArray := ⟨_, rfl⟩; rw [← hw8]; have BC := Aside0.mk (show w8.heap[ga]? = some (.cells cs.toArray 45 (0, 0)) by rw [hw8]; exact setRow_heap _ _ _ _ _ _ BA.out); have HB8 := Aside0.mk (show Below wr.heap.size wr w8 by rw [hw8]; exact below_setRow HB7.out (by rw [GA.out]; exact Nat.le_refl _) _); clear hw8; have zd : w8.cell? ⟨ga, 0, none⟩ = some (.int .i64 d) := (blk_cell BC.out 0).trans (by rw [← HD0.out]; simp))
              | ((with_reducible refine gate_dst (N := 38) rfl ?_); (try (refine gate_guard (by rfl) ?_; dsimp only)); refine wpList_load_row rfl 45 (.tmp 8) rfl ga rfl 45 cs.toArray (0, 0) _ BC.out Tryd.underlying45 rfl HSZ2.out ?_))
          go_roundw
          case rel => exact ⟨i + 1, by go_num, by omega, ⟨PB.below_next HI.out.1 HB8.out, blk_below HI.out.2 HB8.out⟩⟩
          case measure => simp [intOf]; omega
      · have c2 : decide ((i : Int) < 200) = false := decide_eq_false (by omega)
        have c2' : decide (i < 200) = false := decide_eq_false h200
        go_wp2_with fail
        go_ret
        exact ⟨rfl, HI.out.1⟩
    · have c1 : decide ((i : Int) < l.length) = false := decide_eq_false (by omega)
      have c1' : decide (i < l.length) = false := decide_eq_false hlt
      go_wp2_with fail
      go_ret
      exact ⟨rfl, HI.out.1⟩

end Go.Proofs.YtdflblegdfpdpaaDoor.HeldM
end

section
/- Opening an argument of the second form: as Open, with the bulk's bound (1,048,576) handed inwards; a slice's length is within it. No function of the program. -/
namespace Go.Proofs.YtdflblegdfpdpaaDoor.OpenB
open Go Go.RowKit Go.ChangeShapes Go.Proofs.YtdflblegdfpdpaaDoorW.PrintWords Go.Proofs.YtdflblegdfpdpaaDoor.Open

/-- What is read as data of type t, with at most F steps inwards, is of kind kd. -/
structure OpensAt {α : Type} (F : Nat) (P : Program) (t : TypeId) (kd : Kd α) (good : α → Prop) : Prop where
  sz : kd.sz = P.cellsOf t
  op : ∀ {H : Type} {enc : TypeId × Value → H} {W : World} {base : Nat} {spare : Nat → Bool} {held : Bool} {fuel : Nat} {cs : List Value} {x : DataW H × List MemPlace},
    fuel ≤ F → DataW.trod enc P W base spare held fuel t cs = some x → (∀ m ∈ x.1.weights P t, m ≤ reachBytes) → Rows.uptoBulk x.1 ≤ 1048576 → ∃ y : α, kd.K W y cs ∧ good y

def Opens {α : Type} (P : Program) (t : TypeId) (kd : Kd α) (good : α → Prop) : Prop := ∀ F, OpensAt F P t kd good

theorem one_le {H : Type} (d : DataW H) : 1 ≤ Rows.uptoBulk d := by
  cases d with
  | lit l => cases l <;> simp [Rows.uptoBulk]
  | nil => simp [Rows.uptoBulk]
  | ptr d => simp [Rows.uptoBulk]
  | slice elems spare => simp [Rows.uptoBulk]
  | agg parts => simp [Rows.uptoBulk]
  | iface t d => simp [Rows.uptoBulk]
  | map entries => simp [Rows.uptoBulk]
  | held h => simp [Rows.uptoBulk]
theorem part_le {H : Type} {d : DataW H} {l : List (DataW H)} (h : d ∈ l) : Rows.uptoBulk d ≤ Rows.uptoBulkAll l := by
  induction l with
  | nil => cases h
  | cons x r ih =>
    simp only [Rows.uptoBulkAll]
    cases List.mem_cons.1 h with
    | inl e => subst e; omega
    | inr e => have := ih e; omega
theorem length_le {H : Type} (l : List (DataW H)) : l.length ≤ Rows.uptoBulkAll l := by
  induction l with
  | nil => simp [Rows.uptoBulkAll]
  | cons x r ih => have := one_le x; simp only [Rows.uptoBulkAll, List.length_cons]; omega
theorem slice_le {H : Type} (elems spare : List (DataW H)) : Rows.uptoBulkAll elems + 1 ≤ Rows.uptoBulk (.slice elems spare) := by
  simp only [Rows.uptoBulk]
  omega
theorem bound {H : Type} {l : List (DataW H)} (hk : Rows.uptoSmall H l = true) : Rows.uptoBulkAll l ≤ 1048576 := of_decide_eq_true hk

variable {P : Program} {t e : TypeId} {F : Nat}

theorem at_int {k : IntKind} (hu : P.underlying t = some (.int k)) (hc : P.cellsOf t = 1) : OpensAt F P t (Kd.int k) (fun x => (Lit.int k x).wf = true) where
  sz := hc.symm
  op := fun _ h _ _ => by
    obtain ⟨n, rfl, _, hw⟩ := DataW.trod_int hu h
    exact ⟨n, rfl, hw⟩

theorem at_bool (hu : P.underlying t = some .bool) (hc : P.cellsOf t = 1) : OpensAt F P t Kd.bool (fun _ => True) where
  sz := hc.symm
  op := fun _ h _ _ => by
    obtain ⟨n, rfl, _⟩ := DataW.trod_bool hu h
    exact ⟨n, rfl, trivial⟩

/-- The bound on a slice's length, and its elements. -/
def GoodB {α : Type} (B : Nat) (g : α → Prop) (ys : List α) : Prop := ys.length ≤ 1048576 ∧ GoodL B g ys

theorem at_slice {α : Type} {kd : Kd α} {g : α → Prop} {B : Nat} (hu : P.underlying t = some (.slice e)) (hc : P.cellsOf t = 1) (hB : P.bytesOf e = B) (he : OpensAt F P e kd g) :
    OpensAt (F + 1) P t (Kd.slice e kd) (GoodB B g) where
  sz := hc.symm
  op := by
    intro H enc W base spare held fuel cs x hf h hw hk
    rcases DataW.trod_slice hu h with ⟨rfl, rfl⟩ | ⟨a, len, cap, elems, rest, n, rfl, rfl, rfl, hb, hl, hm, hlen, hel, _⟩
    · exact ⟨[], ⟨none, 0, rfl, Nat.le_refl _, Kd.C_nil kd W⟩, by simp [GoodB, GoodL]⟩
    · have hwt : ∀ m ∈ (elems.length + rest.length) * P.bytesOf e :: (DataW.weightsAll P e (elems.map (·.1)) ++ DataW.weightsAll P e (rest.map (·.1))), m ≤ reachBytes := by
        intro m hm'
        refine hw m ?_
        show m ∈ DataW.weights P t (DataW.slice (elems.map (·.1)) (rest.map (·.1)))
        simp only [DataW.weights, hu, List.length_map]
        exact hm'
      have each : ∀ i, i < len → ∃ y, g y ∧ ∃ c, c.length = kd.sz ∧ kd.K W y c ∧ ∀ j u, c[j]? = some u → W.cell? (a.add (i * kd.sz + j)) = some u := by
        intro i hi
        have h1 := hel i hi
        obtain ⟨x1, hx1⟩ : ∃ x1, elems[i]? = some x1 := ⟨elems[i]'(by omega), List.getElem?_eq_getElem (by omega)⟩
        rw [hx1, Option.bind_eq_some_iff] at h1
        obtain ⟨c, hcs, htr⟩ := h1
        obtain ⟨y, hy, hg⟩ := he.op (by omega) htr (fun m hm' => hwt m (List.mem_cons_of_mem _ (List.mem_append_left _
          (weightsAll_mem (List.mem_map.2 ⟨x1, List.mem_of_getElem? hx1, rfl⟩) m hm'))))
          (Nat.le_trans (part_le (List.mem_map.2 ⟨x1, List.mem_of_getElem? hx1, rfl⟩)) (Nat.le_of_succ_le (Nat.le_trans (slice_le _ _) hk)))
        refine ⟨y, hg, c, kd.K_len hy, hy, fun j u hj => ?_⟩
        unfold World.cells? at hcs
        split at hcs
        · have hjl : j < c.length := (List.getElem?_eq_some_iff.1 hj).1
          have hcl := kd.K_len hy
          have := mapM_some_get hcs j j (List.getElem?_range (by rw [← he.sz]; omega))
          rw [hj, Addr.add_add, ← he.sz] at this
          exact this
        · cases hcs
      obtain ⟨ys, hyl, hys⟩ := choose_list len _ each
      refine ⟨ys, ⟨some a, cap, by rw [hyl], by omega, ?_⟩, ?_, ?_, ?_⟩
      · refine ⟨rfl, by simp only [maxLen] at hm; omega, fun _ => ⟨a, rfl, fun j p hp => ?_⟩⟩
        obtain ⟨_, c, h1, h2, h3⟩ := hys j p hp
        exact ⟨c, h1, h2, h3⟩
      · have h1 := length_le (elems.map (·.1))
        have h2 := slice_le (elems.map (·.1)) (rest.map (·.1))
        rw [List.length_map] at h1
        have hk' : Rows.uptoBulk (DataW.slice (elems.map (·.1)) (rest.map (·.1))) ≤ 1048576 := hk
        omega
      · have := hwt _ (List.mem_cons_self ..)
        rw [hB] at this
        rw [hyl, ← hlen]
        have h2 : elems.length * B ≤ (elems.length + rest.length) * B := Nat.mul_le_mul_right _ (by omega)
        simp only [reachBytes] at this
        omega
      · intro y hy
        obtain ⟨i, hi⟩ := List.getElem?_of_mem hy
        exact (hys i y hi).1

/-- The fields of a struct, from the cell o on. -/
def FieldsAt {α : Type} (F : Nat) (P : Program) (fs : List Field) (o : Nat) (kd : Kd α) (good : α → Prop) : Prop :=
  ∀ {H : Type} {enc : TypeId × Value → H} {W : World} {base : Nat} {spare : Nat → Bool} {held : Bool} {n : Nat} {cs : List Value} {xs : List (DataW H × List MemPlace)},
    n ≤ F → cs.length = o + kd.sz → xs.length = fs.length →
    (∀ (i : Nat) (f : Field), fs[i]? = some f → DataW.trod enc P W base spare held n f.type ((cs.drop f.offset).take (P.cellsOf f.type)) = xs[i]?) →
    (∀ m ∈ DataW.weightsEach P (fs.map (·.type)) (xs.map (·.1)), m ≤ reachBytes) → Rows.uptoBulkAll (xs.map (·.1)) ≤ 1048576 → ∃ y : α, kd.K W y (cs.drop o) ∧ good y

theorem fields_one {α : Type} {f : Field} {o : Nat} {kd : Kd α} {g : α → Prop} (ho : f.offset = o) (h : OpensAt F P f.type kd g) : FieldsAt F P [f] o kd g := by
  intro H enc W base spare held n cs xs hn hl hx hf hw hk
  have h1 := hf 0 f rfl
  match xs, hx with
  | [x], _ =>
    rw [ho, List.take_of_length_le (by rw [List.length_drop, ← h.sz]; omega)] at h1
    exact h.op hn h1 (fun m hm => hw m (by simp only [List.map, DataW.weightsEach]; exact List.mem_append_left _ hm)) (Nat.le_trans (part_le (by simp)) hk)

theorem fields_cons {α β : Type} {f : Field} {fs : List Field} {o : Nat} {kd : Kd α} {kd' : Kd β} {g : α → Prop} {g' : β → Prop} (ho : f.offset = o) (h : OpensAt F P f.type kd g)
    (h' : FieldsAt F P fs (o + kd.sz) kd' g') : FieldsAt F P (f :: fs) o (Kd.pair kd kd') (fun y => g y.1 ∧ g' y.2) := by
  intro H enc W base spare held n cs xs hn hl hx hf hw hk
  match xs, hx with
  | x :: xs, hx =>
    have h1 := hf 0 f rfl
    rw [ho] at h1
    obtain ⟨y, hy, hg⟩ := h.op hn h1 (fun m hm => hw m (by simp only [List.map, DataW.weightsEach]; exact List.mem_append_left _ hm)) (Nat.le_trans (part_le (by simp)) hk)
    have hsz : (Kd.pair kd kd').sz = kd.sz + kd'.sz := rfl
    obtain ⟨z, hz, hg'⟩ := h' (xs := xs) hn (by rw [hl, hsz]; omega) (by simpa using hx) (fun i f' hf' => by simpa using hf (i + 1) f' (by simpa using hf'))
      (fun m hm => hw m (by simp only [List.map, DataW.weightsEach]; exact List.mem_append_right _ hm)) (by
      simp only [List.map, Rows.uptoBulkAll] at hk
      omega)
    refine ⟨(y, z), ⟨_, _, ?_, hy, hz⟩, hg, hg'⟩
    rw [← h.sz, ← List.drop_drop, List.take_append_drop]

theorem at_struct {α : Type} {fs : Array Field} {fl : List Field} {kd : Kd α} {g : α → Prop} (hu : P.underlying t = some (.struct fs)) (hl : fs.toList = fl) (hc : P.cellsOf t = kd.sz) (h : FieldsAt F P fl 0 kd g) : OpensAt (F + 1) P t kd g where
  sz := hc.symm
  op := by
    intro H enc W base spare held fuel cs x hf h0 hw hk
    obtain ⟨xs, n, rfl, rfl, hcl, hxl, hx⟩ := DataW.trod_struct hu h0
    have := h (xs := xs) (n := n) (by omega) (by rw [hcl, hc]; omega) (by rw [hxl, ← hl]; simp) (fun i f hf => hx i f (by rw [← hl] at hf; simpa using hf)) (fun m hm => hw m (by
      simp only [DataW.weights, hu]
      rw [hl]
      exact hm)) (by
      simp only [Rows.uptoBulk] at hk
      omega)
    simpa using this

theorem OpensAt.good_imp {α : Type} {kd : Kd α} {g g' : α → Prop} (h : OpensAt F P t kd g) (hg : ∀ x, g x → g' x) : OpensAt F P t kd g' where
  sz := h.sz
  op := fun hf h0 hw hk => by
    obtain ⟨y, hy, hgy⟩ := h.op hf h0 hw hk
    exact ⟨y, hy, hg y hgy⟩

theorem OpensAt.weaken {α : Type} {kd : Kd α} {g : α → Prop} (h : OpensAt (F + 1) P t kd g) : OpensAt F P t kd g where
  sz := h.sz
  op := fun hf h0 hw hk => h.op (Nat.le_succ_of_le hf) h0 hw hk

theorem opens_int {k : IntKind} (hu : P.underlying t = some (.int k)) (hc : P.cellsOf t = 1) : Opens P t (Kd.int k) (fun x => (Lit.int k x).wf = true) := fun _ => at_int hu hc
theorem opens_bool (hu : P.underlying t = some .bool) (hc : P.cellsOf t = 1) : Opens P t Kd.bool (fun _ => True) := fun _ => at_bool hu hc
theorem opens_slice {α : Type} {kd : Kd α} {g : α → Prop} {B : Nat} (hu : P.underlying t = some (.slice e)) (hc : P.cellsOf t = 1) (hB : P.bytesOf e = B) (he : Opens P e kd g) :
    Opens P t (Kd.slice e kd) (GoodB B g) := fun F => (at_slice hu hc hB (he F)).weaken
def Fields {α : Type} (P : Program) (fs : List Field) (o : Nat) (kd : Kd α) (good : α → Prop) : Prop := ∀ F, FieldsAt F P fs o kd good
theorem fields1 {α : Type} {f : Field} {o : Nat} {kd : Kd α} {g : α → Prop} (ho : f.offset = o) (h : Opens P f.type kd g) : Fields P [f] o kd g := fun F => fields_one ho (h F)
theorem fields2 {α β : Type} {f : Field} {fs : List Field} {o : Nat} {kd : Kd α} {kd' : Kd β} {g : α → Prop} {g' : β → Prop} (ho : f.offset = o) (h : Opens P f.type kd g)
    (h' : Fields P fs (o + kd.sz) kd' g') : Fields P (f :: fs) o (Kd.pair kd kd') (fun y => g y.1 ∧ g' y.2) := fun F => fields_cons ho (h F) (h' F)
theorem opens_struct {α : Type} {fs : Array Field} {fl : List Field} {kd : Kd α} {g : α → Prop} (hu : P.underlying t = some (.struct fs)) (hl : fs.toList = fl) (hc : P.cellsOf t = kd.sz) (h : Fields P fl 0 kd g) : Opens P t kd g :=
  fun F => (at_struct hu hl hc (h F)).weaken

/-- An argument, opened. -/
theorem open_arg {α : Type} {kd : Kd α} {g : α → Prop} (h : ∀ F, OpensAt F P t kd g) {H : Type} {enc : TypeId × Value → H} {W : World} {base : Nat} {spare : Nat → Bool} {held : Bool} {v : Value} {d : DataW H} {ps : List MemPlace}
    {ts : List TypeId} {ds : List (DataW H)} {j : Nat} (hsz : (DataW.weightsEach P ts ds).all (· ≤ reachBytes) = true) (ht : ts[j]? = some t) (hd : ds[j]? = some d) (hk : Rows.uptoBulkAll ds ≤ 1048576)
    (hr : DataW.Trod enc P W base spare held t v d ps) : ∃ y : α, kd.K W y v.cells.toList ∧ g y := by
  obtain ⟨fuel, hf⟩ := hr
  exact (h fuel).op (Nat.le_refl _) hf (fun m hm => by
    have := List.all_eq_true.1 hsz m (DataW.weights_mem_each ht hd m hm)
    simpa using this) (Nat.le_trans (part_le (List.mem_of_getElem? hd)) hk)

end Go.Proofs.YtdflblegdfpdpaaDoor.OpenB
end

section
/- larderlaw9.fits: the machine's calls. -/
namespace Go.Proofs.YtdflblegdfpdpaaDoor.FitW
open Go Go.RowKit Go.Proofs.YtdflblegdfpdpaaDoorW.PrintWords Go.Proofs.YtdflblegdfpdpaaDoorW.PrintLast Go.Proofs.YtdflblegdfpdpaaDoorW.PrintMore Go.Proofs.YtdflblegdfpdpaaDoor.HeldW Go.Proofs.YtdflblegdfpdpaaDoor.ScoreW Go.Proofs.YtdflblegdfpdpaaDoor.ClassS Go.Proofs.YtdflblegdfpdpaaDoor.AskW Go.Proofs.YtdflblegdfpdpaaDoor.WriteW
set_option linter.unusedVariables false
set_option maxRecDepth 100000

set_option maxHeartbeats 3200000 in
theorem fits.calls (d b0 : Int) (neg : Bool) (A : Option Addr) (c : Nat) (l : List MemT) (b : Int) (w : World) (hC : kMem.C w A l.length l) (hlen : l.length ≤ 140737488355328) :
    Calls Tryd.prog 17 #[.agg #[.int .i64 d, .int .u8 b0, .bool neg, .slice A l.length c], .int .u8 b] w fun e w' => e = .returned (.bool (fitsL (toP d b0 neg l) b)) ∧ Below w.heap.size w w' := by
  have HC := Aside0.mk hC
  have HB := Aside0.mk (Below.refl w.heap.size w)
  have HE : Aside0 (fitsL (toP d b0 neg l) b = ((l.any fun y => inMem (toM y) b) != neg)) := ⟨by simp [fitsL, toP, List.any_map, Function.comp_def]⟩
  clear hC
  go_enter Tryd.func17, Tryd.ntmps17
  go_wp2_with (first
    | ((with_reducible refine gate_dst (N := 2) rfl ?_); refine box_event ?hg (N := 2) ?hd (cs := #[.int .i64 d, .int .u8 b0, .bool neg, .slice A l.length c]) (t := 35) ?hr ?_; (case hd => rfl); (case hg => rfl); (case hr => first | (go_simp; done) | (go_simp; rfl)); intro gb hgb w5 hbox hb; have n0_ := Aside0.mk (below_step HB.out hb); have BK := Aside0.mk hbox; have z2 : w5.cell? ⟨gb, 2, none⟩ = some (.bool neg) := (blk_cell BK.out 2).trans rfl; have z3 : w5.cell? ⟨gb, 3, none⟩ = some (.slice A l.length c) := (blk_cell BK.out 3).trans rfl; clear HB; have HB := n0_; clear n0_ hb hbox hgb))
  go_loopw [5, 6] (fun v5 v6 wr => ∃ (i : Nat) (acc : Bool), v6 = .int .i64 i ∧ i ≤ l.length ∧ v5 = .bool acc ∧ Aside0 (((l.take i).any fun y => inMem (toM y) b) = acc ∧ Below w5.heap.size w5 wr)) (fun v5 v6 wr => l.length - (intOf v6).toNat)
  case atStart => exact ⟨0, false, rfl, by omega, rfl, ⟨by simp, Below.refl _ _⟩⟩
  case round =>
    obtain ⟨i, acc, rfl, hi2, rfl, HI⟩ := hrel
    have z3' := pw_cell_below HI.out.2 z3
    have z2' := pw_cell_below HI.out.2 z2
    clear z2 z3
    by_cases hlt : i < l.length
    · have c1 : decide ((i : Int) < l.length) = true := decide_eq_true (by omega)
      have c1' : decide (i < l.length) = true := decide_eq_true hlt
      have HCr := Aside0.mk (Kd.C_below HC.out (PB.below_next HB.out HI.out.2))
      obtain ⟨y, hy⟩ : ∃ y, l[i]? = some y := ⟨_, List.getElem?_eq_getElem hlt⟩
      obtain ⟨ad, hAd⟩ : ∃ ad, A = some ad := by
        obtain ⟨ad, _, hh, _⟩ := Kd.C_get HCr.out y (i : Int) (by omega) (by omega)
        exact ⟨ad, hh⟩
      subst hAd
      have HK := Aside0.mk (mem_cells HCr.out i y hy)
      have HIN : Aside0 (((l.take (i + 1)).any fun y => inMem (toM y) b) = (acc || inMem (toM y) b)) := ⟨by
        rw [List.take_add_one, hy, Option.toList_some, List.any_append, HI.out.1]
        simp⟩
      obtain ⟨lo, hiB, rg, pl⟩ := y
      obtain ⟨h8, hh8⟩ : ∃ h8, h8 = (if rg = true then hiB else lo) := ⟨_, rfl⟩
      have HTY : Aside0 (inMem (toM (lo, hiB, rg, pl)) b = decide (lo ≤ b ∧ b ≤ h8 ∨ h8 ≤ b ∧ b ≤ lo)) := ⟨by rw [hh8]; rfl⟩
      have H8 := Aside0.mk hh8
      have HSZ := Aside0.mk (show (Tryd.prog.info? 72).map (·.size) = some 4 by kernel_rfl)
      have HONE := Aside0.mk (show (#[.int .u8 lo, .int .u8 hiB, .bool rg, .bool pl] : Array Value).all (·.oneCell') = true by
        rw [Array.all_eq_true_iff_forall_mem]
        intro v hv
        have hv : v ∈ ([.int .u8 lo, .int .u8 hiB, .bool rg, .bool pl] : List Value) := by simpa using hv
        simp only [List.mem_cons, List.not_mem_nil, or_false] at hv
        rcases hv with rfl | rfl | rfl | rfl <;> rfl)
      have HSZ2 := Aside0.mk (show (Tryd.prog.info? 72).map (·.size) = some (#[.int .u8 lo, .int .u8 hiB, .bool rg, .bool pl] : Array Value).size from HSZ.out)
      clear hy hh8
      go_upto_region 6 with (first
        | ((with_reducible refine gate_dst (N := 20) rfl ?_); refine wpList_load_at rfl 72 (.tmp 19) rfl (ad.add (i * 4)) rfl [.int .u8 lo, .int .u8 hiB, .bool rg, .bool pl] _ HK.out Tryd.underlying72 rfl HSZ.out ?_)
        | ((with_reducible refine gate_dst (N := 7) rfl ?_); refine box_event ?hg (N := 7) ?hd (cs := #[.int .u8 0, .int .u8 0, .bool false, .bool false]) (t := 72) ?hr ?_; (case hd => rfl); (case hg => rfl); (case hr => first | (go_simp; done) | (go_simp; rfl)); intro ga hga w7 hbox hb; have BA := Aside0.mk hbox; have HB7 := Aside0.mk hb; have GA := Aside0.mk hga; clear hbox hb hga)
        | ((with_reducible refine gate_store (p := 7) rfl ?_); refine wpList_store_row rfl 72 (.tmp 7) (.tmp 20) rfl ga #[.int .u8 lo, .int .u8 hiB, .bool rg, .bool pl] rfl rfl 72 #[.int .u8 0, .int .u8 0, .bool false, .bool false] BA.out HSZ2.out rfl HONE.out ?_; obtain ⟨w8, hw8⟩ : ∃ w8, w8 = w7.setRow ga #[.int .u8 lo, .int .u8 hiB, .bool rg, .bool pl] := ⟨_, rfl⟩; rw [← hw8]; have BC := Aside0.mk (show w8.heap[ga]? = some (.cells #[.int .u8 lo, .int .u8 hiB, .bool rg, .bool pl] 72 (0, 0)) by rw [hw8]; exact setRow_heap _ _ _ _ _ _ BA.out); have HB8 := Aside0.mk (show Below wr.heap.size wr w8 by rw [hw8]; exact below_setRow HB7.out (by rw [GA.out]; exact Nat.le_refl _) _); clear hw8))
      have x0 : w8.cell? ⟨ga, 0, none⟩ = some (.int .u8 lo) := (blk_cell BC.out 0).trans rfl
      have x1 : w8.cell? ⟨ga, 1, none⟩ = some (.int .u8 hiB) := (blk_cell BC.out 1).trans rfl
      have x2 : w8.cell? ⟨ga, 2, none⟩ = some (.bool rg) := (blk_cell BC.out 2).trans rfl
      have HW8 : Aside0 (Below w5.heap.size w5 w8) := ⟨PB.below_next HI.out.2 HB8.out⟩
      clear HB7 GA BA HSZ HSZ2 HONE HK z3' z2' HB8
      go_upto_if 25 with fail
      go_cut [8] (fun v8 wc => v8 = .int .u8 h8 ∧ wc = w8)
      case first =>
        cases rg with
        | false =>
          go_wp2_with fail
          go_meet
          exact ⟨by rw [H8.out]; rfl, rfl⟩
        | true =>
          go_wp2_with fail
          go_meet
          exact ⟨by rw [H8.out]; rfl, rfl⟩
      case rest =>
        obtain ⟨rfl, rfl⟩ := hcut
        cases acc with
        | true =>
          have HR : Aside0 (((l.take (i + 1)).any fun y => inMem (toM y) b) = true) := ⟨by rw [HIN.out, HTY.out]; rfl⟩
          clear HIN HTY
          go_wp2_with fail
          go_roundw
          case rel => exact ⟨i + 1, true, by go_num, by omega, rfl, ⟨HR.out, HW8.out⟩⟩
          case measure => simp [intOf]; omega
        | false =>
          by_cases k1 : lo ≤ b
          · have e1 : decide (lo ≤ b) = true := decide_eq_true k1
            by_cases k2 : b ≤ h8
            · have e2 : decide (b ≤ h8) = true := decide_eq_true k2
              have HR : Aside0 (((l.take (i + 1)).any fun y => inMem (toM y) b) = true) := ⟨by rw [HIN.out, HTY.out]; simp only [Bool.false_or]; exact decide_eq_true (by omega)⟩
              clear HIN HTY
              go_wp2_with fail
              go_roundw
              case rel => exact ⟨i + 1, true, by go_num, by omega, rfl, ⟨HR.out, HW8.out⟩⟩
              case measure => simp [intOf]; omega
            · have e2 : decide (b ≤ h8) = false := decide_eq_false k2
              have e3 : decide (h8 ≤ b) = true := decide_eq_true (by omega)
              by_cases k4 : b ≤ lo
              · have e4 : decide (b ≤ lo) = true := decide_eq_true k4
                have HR : Aside0 (((l.take (i + 1)).any fun y => inMem (toM y) b) = true) := ⟨by rw [HIN.out, HTY.out]; simp only [Bool.false_or]; exact decide_eq_true (by omega)⟩
                clear HIN HTY
                go_wp2_with fail
                go_roundw
                case rel => exact ⟨i + 1, true, by go_num, by omega, rfl, ⟨HR.out, HW8.out⟩⟩
                case measure => simp [intOf]; omega
              · have e4 : decide (b ≤ lo) = false := decide_eq_false k4
                have HR : Aside0 (((l.take (i + 1)).any fun y => inMem (toM y) b) = false) := ⟨by rw [HIN.out, HTY.out]; simp only [Bool.false_or]; exact decide_eq_false (by omega)⟩
                clear HIN HTY
                go_wp2_with fail
                go_roundw
                case rel => exact ⟨i + 1, false, by go_num, by omega, rfl, ⟨HR.out, HW8.out⟩⟩
                case measure => simp [intOf]; omega
          · have e1 : decide (lo ≤ b) = false := decide_eq_false k1
            have e4 : decide (b ≤ lo) = true := decide_eq_true (by omega)
            by_cases k3 : h8 ≤ b
            · have e3 : decide (h8 ≤ b) = true := decide_eq_true k3
              have HR : Aside0 (((l.take (i + 1)).any fun y => inMem (toM y) b) = true) := ⟨by rw [HIN.out, HTY.out]; simp only [Bool.false_or]; exact decide_eq_true (by omega)⟩
              clear HIN HTY
              go_wp2_with fail
              go_roundw
              case rel => exact ⟨i + 1, true, by go_num, by omega, rfl, ⟨HR.out, HW8.out⟩⟩
              case measure => simp [intOf]; omega
            · have e3 : decide (h8 ≤ b) = false := decide_eq_false k3
              have HR : Aside0 (((l.take (i + 1)).any fun y => inMem (toM y) b) = false) := ⟨by rw [HIN.out, HTY.out]; simp only [Bool.false_or]; exact decide_eq_false (by omega)⟩
              clear HIN HTY
              go_wp2_with fail
              go_roundw
              case rel => exact ⟨i + 1, false, by go_num, by omega, rfl, ⟨HR.out, HW8.out⟩⟩
              case measure => simp [intOf]; omega
    · obtain rfl : i = l.length := by omega
      have c1 : decide ((l.length : Int) < l.length) = false := decide_eq_false (by omega)
      have HF : Aside0 ((l.any fun y => inMem (toM y) b) = acc) := ⟨by have := HI.out.1; rw [List.take_length] at this; exact this⟩
      have HFW : Aside0 (Below w5.heap.size w5 wr) := ⟨HI.out.2⟩
      clear HI
      go_wp2_with fail
      go_ret
      exact ⟨by rw [HE.out, HF.out]; rfl, PB.below_next HB.out HFW.out⟩
end Go.Proofs.YtdflblegdfpdpaaDoor.FitW
end

section
/- The laws' parameter Parts, opened; its pieces' cells. -/
namespace Go.Proofs.YtdflblegdfpdpaaDoor.PartW
open Go Go.RowKit Go.Proofs.YtdflblegdfpdpaaDoorW.PrintWords Go.Proofs.YtdflblegdfpdpaaDoor.Open Go.Proofs.YtdflblegdfpdpaaDoor.AskW Go.Proofs.YtdflblegdfpdpaaDoor.WriteW Go.Proofs.YtdflblegdfpdpaaDoor.ClassS Go.Proofs.YtdflblegdfpdpaaDoor.GlobS Go.Proofs.YtdflblegdfpdpaaDoor.GlobT
set_option linter.unusedVariables false
def gMem (y : MemT) : Prop := gB y.1 ∧ gB y.2.1 ∧ gT y.2.2.1 ∧ gT y.2.2.2
theorem o_mem : Opens Tryd.prog 72 kMem gMem :=
  opens_struct Tryd.underlying72 rfl (by kernel_rfl) (fields2 rfl o_u8 (fields2 rfl o_u8 (fields2 rfl o_bool (fields1 rfl o_bool))))
def kMems : Kd (List MemT) := Kd.slice 72 kMem
def gMems (l : List MemT) : Prop := GoodL 4 gMem l
theorem o_mems : Opens Tryd.prog 33 kMems gMems := opens_slice Tryd.underlying33 (by kernel_rfl) (by kernel_rfl) o_mem
abbrev PieT := Int × Int × Bool × List MemT
/-- Do, B, Not, Members -/
def kPie : Kd PieT := Kd.pair (Kd.int .i64) (Kd.pair (Kd.int .u8) (Kd.pair Kd.bool kMems))
def gPie (y : PieT) : Prop := gI y.1 ∧ gB y.2.1 ∧ gT y.2.2.1 ∧ gMems y.2.2.2
theorem o_pie : Opens Tryd.prog 35 kPie gPie :=
  opens_struct Tryd.underlying35 rfl (by kernel_rfl) (fields2 rfl o_int (fields2 rfl o_u8 (fields2 rfl o_bool (fields1 rfl o_mems))))
def kPies : Kd (List PieT) := Kd.slice 35 kPie
def gPies (l : List PieT) : Prop := GoodL 40 gPie l
theorem o_pies : Opens Tryd.prog 30 kPies gPies := opens_slice Tryd.underlying30 (by kernel_rfl) (by kernel_rfl) o_pie
abbrev PartT := List PieT × List PieT × List Int
/-- P, Q, T -/
def kParts : Kd PartT := Kd.pair kPies (Kd.pair kPies kBytes)
def gParts (y : PartT) : Prop := gPies y.1 ∧ gPies y.2.1 ∧ gBytes y.2.2
theorem o_parts : Opens Tryd.prog 32 kParts gParts :=
  opens_struct Tryd.underlying32 rfl (by kernel_rfl) (fields2 rfl o_pies (fields2 rfl o_pies (fields1 rfl o_bytes)))
theorem parts_cells {W : World} {y : PartT} {cs : List Value} (h : kParts.K W y cs) : ∃ Ap cp Aq cq At ct, cs = [.slice Ap y.1.length cp, .slice Aq y.2.1.length cq, .slice At y.2.2.length ct] ∧
    y.1.length ≤ cp ∧ kPie.C W Ap y.1.length y.1 ∧ y.2.1.length ≤ cq ∧ kPie.C W Aq y.2.1.length y.2.1 ∧ y.2.2.length ≤ ct ∧ (Kd.int .u8).C W At y.2.2.length y.2.2 := by
  obtain ⟨b0, b1, rfl, ⟨Ap, cp, rfl, hp, hP⟩, c0, c1, rfl, ⟨Aq, cq, rfl, hq, hQ⟩, ⟨At, ct, rfl, ht, hT⟩⟩ := h
  exact ⟨Ap, cp, Aq, cq, At, ct, rfl, hp, hP, hq, hQ, ht, hT⟩
theorem pie_cells {w : World} {ad : Addr} {n : Nat} {l : List PieT} (h : kPie.C w (some ad) n l) (i : Nat) (y : PieT) (hy : l[i]? = some y) :
    ∃ A c, y.2.2.2.length ≤ c ∧ kMem.C w A y.2.2.2.length y.2.2.2 ∧ ∀ j u, ([.int .i64 y.1, .int .u8 y.2.1, .bool y.2.2.1, .slice A y.2.2.2.length c] : List Value)[j]? = some u → w.cell? ((ad.add (i * 4)).add j) = some u := by
  obtain ⟨hi, hp'⟩ := List.getElem?_eq_some_iff.1 hy
  have hn : l.length = n := h.1
  obtain ⟨ad', c, hh, hc, hK, hcells⟩ := Kd.C_get h y (i : Int) (by omega) (by omega)
  obtain rfl : ad = ad' := Option.some.inj hh
  rw [Int.toNat_natCast] at hK hcells
  have he : l.getD i y = y := by rw [List.getD_eq_getElem?_getD, hy]; rfl
  rw [he] at hK
  obtain ⟨b0, b1, rfl, h0, c0, c1, rfl, h1, d0, d1, rfl, h2, ⟨A, cc, rfl, hl, hC⟩⟩ := hK
  have a0 : b0 = [_] := h0
  have a1 : c0 = [_] := h1
  have a2 : d0 = [_] := h2
  subst a0 a1 a2
  refine ⟨A, cc, hl, hC, ?_⟩
  intro j u hu
  rw [HeldW.add_add]
  exact hcells j u hu
theorem good_mems {l : List MemT} (h : gMems l) : ∀ m ∈ l.map toM, goodMem m := by
  intro m hm
  obtain ⟨y, hy, rfl⟩ := List.mem_map.1 hm
  have := h.2 y hy
  exact ⟨wf_u8 this.1, wf_u8 this.2.1⟩
theorem in_spell {b : Int} (pl : Bool) (hb : 0 ≤ b ∧ b < 256) : ∀ x ∈ spellL b pl, 0 ≤ x ∧ x < 256 := by
  intro x hx
  unfold spellL at hx
  split at hx
  · simp only [List.mem_cons, List.not_mem_nil, or_false] at hx; omega
  · simp only [List.mem_cons, List.not_mem_nil, or_false] at hx; omega
theorem in_mems (ms : List Mem) (h : ∀ m ∈ ms, goodMem m) : ∀ x ∈ memsL ms, 0 ≤ x ∧ x < 256 := by
  intro x hx
  obtain ⟨m, hm, hx⟩ := List.mem_flatMap.1 hx
  unfold memL at hx
  rcases List.mem_append.1 hx with hx | hx
  · exact in_spell _ (h m hm).1 x hx
  · split at hx
    · rcases List.mem_cons.1 hx with rfl | hx
      · decide
      · exact in_spell _ (h m hm).2 x hx
    · cases hx
theorem in_write (x : Pie) (hb : 0 ≤ x.b ∧ x.b < 256) (h : ∀ m ∈ x.ms, goodMem m) : ∀ c ∈ writeL x, 0 ≤ c ∧ c < 256 := by
  intro c hc
  unfold writeL at hc
  split at hc
  · simp at hc; omega
  split at hc
  · simp at hc; omega
  split at hc
  · simp at hc; omega
  · rcases List.mem_append.1 hc with hc | hc
    · rcases List.mem_append.1 hc with hc | hc
      · rcases List.mem_append.1 hc with hc | hc
        · simp at hc; omega
        · split at hc
          · simp at hc; omega
          · cases hc
      · exact in_mems _ h c hc
    · simp at hc; omega

/-- A class fits one byte, and that it names. -/
theorem class_pieces (b : Int) (neg : Bool) (l : List MemT) : piecesL (writeL (toP 3 b neg l)) = [⟨false, classQ (toP 3 b neg l)⟩] := by
  have := pieces_write (toP 3 b neg l) []
  rw [List.append_nil] at this
  rw [this]
  have e : piecesL [] = [] := by rw [piecesL]
  rw [e]
  rfl
theorem class_one (b : Int) (neg : Bool) (l : List MemT) (hg : gMems l) (c : Int) (hc : 0 ≤ c ∧ c < 256) : globL (writeL (toP 3 b neg l)) [c] = fitsL (toP 3 b neg l) c := by
  unfold globL
  rw [class_pieces, fits_set rfl, ← has_class (toP 3 b neg l) (good_mems hg) c hc]
  simp [fits]
theorem class_none (b : Int) (neg : Bool) (l : List MemT) : globL (writeL (toP 3 b neg l)) [] = false := by
  unfold globL
  rw [class_pieces, fits_set_nil rfl]
theorem class_two (b : Int) (neg : Bool) (l : List MemT) : globL (writeL (toP 3 b neg l)) [97, 98] = false := by
  unfold globL
  rw [class_pieces, fits_set rfl]
  simp [fits]
end Go.Proofs.YtdflblegdfpdpaaDoor.PartW
end

section
/- The laws' parameter Parts, opened with the second form's bound. -/
namespace Go.Proofs.YtdflblegdfpdpaaDoor.PartB
open Go Go.RowKit Go.Proofs.YtdflblegdfpdpaaDoorW.PrintWords Go.Proofs.YtdflblegdfpdpaaDoor.AskW Go.Proofs.YtdflblegdfpdpaaDoor.WriteW Go.Proofs.YtdflblegdfpdpaaDoor.ClassS Go.Proofs.YtdflblegdfpdpaaDoor.PartW Go.Proofs.YtdflblegdfpdpaaDoor.OpenB
set_option linter.unusedVariables false
theorem b_u8 : OpenB.Opens Tryd.prog 5 (Kd.int .u8) gB := OpenB.opens_int Tryd.underlying5 (by kernel_rfl)
theorem b_int : OpenB.Opens Tryd.prog 3 (Kd.int .i64) gI := OpenB.opens_int Tryd.underlying3 (by kernel_rfl)
theorem b_bool : OpenB.Opens Tryd.prog 4 Kd.bool gT := fun F => ⟨(OpenB.opens_bool Tryd.underlying4 (by kernel_rfl) F).sz, fun hf h hw hk => by
  obtain ⟨y, hy, _⟩ := (OpenB.opens_bool (P := Tryd.prog) Tryd.underlying4 (by kernel_rfl) F).op hf h hw hk
  exact ⟨y, hy, rfl⟩⟩
def gBytesB (l : List Int) : Prop := GoodB 1 (fun x => (Lit.int .u8 x).wf = true) l
theorem b_bytes : OpenB.Opens Tryd.prog 22 kBytes gBytesB := OpenB.opens_slice Tryd.underlying22 (by kernel_rfl) (by kernel_rfl) b_u8
theorem b_mem : OpenB.Opens Tryd.prog 72 kMem gMem :=
  OpenB.opens_struct Tryd.underlying72 rfl (by kernel_rfl) (OpenB.fields2 rfl b_u8 (OpenB.fields2 rfl b_u8 (OpenB.fields2 rfl b_bool (OpenB.fields1 rfl b_bool))))
def gMemsB (l : List MemT) : Prop := GoodB 4 gMem l
theorem b_mems : OpenB.Opens Tryd.prog 33 kMems gMemsB := OpenB.opens_slice Tryd.underlying33 (by kernel_rfl) (by kernel_rfl) b_mem
def gPieB (y : PieT) : Prop := gI y.1 ∧ gB y.2.1 ∧ gT y.2.2.1 ∧ gMemsB y.2.2.2
theorem b_pie : OpenB.Opens Tryd.prog 35 kPie gPieB :=
  OpenB.opens_struct Tryd.underlying35 rfl (by kernel_rfl) (OpenB.fields2 rfl b_int (OpenB.fields2 rfl b_u8 (OpenB.fields2 rfl b_bool (OpenB.fields1 rfl b_mems))))
def gPiesB (l : List PieT) : Prop := GoodB 40 gPieB l
theorem b_pies : OpenB.Opens Tryd.prog 30 kPies gPiesB := OpenB.opens_slice Tryd.underlying30 (by kernel_rfl) (by kernel_rfl) b_pie
def gPartsB (y : PartT) : Prop := gPiesB y.1 ∧ gPiesB y.2.1 ∧ gBytesB y.2.2
theorem b_parts : OpenB.Opens Tryd.prog 32 kParts gPartsB :=
  OpenB.opens_struct Tryd.underlying32 rfl (by kernel_rfl) (OpenB.fields2 rfl b_pies (OpenB.fields2 rfl b_pies (OpenB.fields1 rfl b_bytes)))
end Go.Proofs.YtdflblegdfpdpaaDoor.PartB
end

section
/- Layer 9's parameter Asks, opened with the second form's bound. -/
namespace Go.Proofs.YtdflblegdfpdpaaDoor.AskB
open Go Go.RowKit Go.Proofs.YtdflblegdfpdpaaDoorW.PrintWords Go.Proofs.YtdflblegdfpdpaaDoor.AskW Go.Proofs.YtdflblegdfpdpaaDoor.OpenB Go.Proofs.YtdflblegdfpdpaaDoor.PartB
set_option linter.unusedVariables false
theorem b_i64 : OpenB.Opens Tryd.prog 2 (Kd.int .i64) gI := OpenB.opens_int Tryd.underlying2 (by kernel_rfl)
theorem b_bound : OpenB.Opens Tryd.prog 41 kBound gBound :=
  show OpenB.Opens Tryd.prog 41 (Kd.pair (Kd.int .i64) (Kd.pair (Kd.int .i64) Kd.bool)) (fun y => gI y.1 ∧ gI y.2.1 ∧ gT y.2.2) from OpenB.opens_struct Tryd.underlying41 rfl (by kernel_rfl) (OpenB.fields2 rfl b_int (OpenB.fields2 rfl b_i64 (OpenB.fields1 rfl b_bool)))
def gLexB (y : Int × List Int × Bool) : Prop := gI y.1 ∧ gBytesB y.2.1 ∧ gT y.2.2
theorem b_lex : OpenB.Opens Tryd.prog 43 kLex gLexB :=
  show OpenB.Opens Tryd.prog 43 (Kd.pair (Kd.int .i64) (Kd.pair kBytes Kd.bool)) (fun y => gI y.1 ∧ gBytesB y.2.1 ∧ gT y.2.2) from OpenB.opens_struct Tryd.underlying43 rfl (by kernel_rfl) (OpenB.fields2 rfl b_int (OpenB.fields2 rfl b_bytes (OpenB.fields1 rfl b_bool)))
def gAskB (y : AskT) : Prop := gI y.1 ∧ gBytesB y.2.1 ∧ gBytesB y.2.2.1 ∧ gI y.2.2.2.1 ∧ gI y.2.2.2.2.1 ∧ gI y.2.2.2.2.2.1 ∧ gBound y.2.2.2.2.2.2.1 ∧ gBound y.2.2.2.2.2.2.2.1 ∧ gLexB y.2.2.2.2.2.2.2.2.1 ∧ gLexB y.2.2.2.2.2.2.2.2.2
theorem b_ask : OpenB.Opens Tryd.prog 45 kAsk gAskB :=
  OpenB.opens_struct Tryd.underlying45 rfl (by kernel_rfl) (OpenB.fields2 rfl b_int (OpenB.fields2 rfl b_bytes (OpenB.fields2 rfl b_bytes (OpenB.fields2 rfl b_i64 (OpenB.fields2 rfl b_i64 (OpenB.fields2 rfl b_int (OpenB.fields2 rfl b_bound (OpenB.fields2 rfl b_bound (OpenB.fields2 rfl b_lex (OpenB.fields1 rfl b_lex))))))))))
def gAsksB (l : List AskT) : Prop := GoodB 208 gAskB l
theorem b_asksl : OpenB.Opens Tryd.prog 58 kAsks gAsksB := OpenB.opens_slice Tryd.underlying58 (by kernel_rfl) (by kernel_rfl) b_ask
theorem b_asks : OpenB.Opens Tryd.prog 60 kAsks gAsksB :=
  OpenB.opens_struct Tryd.underlying60 rfl (by kernel_rfl) (OpenB.fields1 rfl b_asksl)
end Go.Proofs.YtdflblegdfpdpaaDoor.AskB
end

section
/- larderlaw9.answers to Fold and Fill; MatchFills. -/
namespace Go.Proofs.YtdflblegdfpdpaaDoor.AnsF
open Go Go.RowKit Go.Proofs.YtdflblegdfpdpaaDoorW.PrintWords Go.Proofs.YtdflblegdfpdpaaDoorW.PrintLast Go.Proofs.YtdflblegdfpdpaaDoorW.PrintMore Go.Proofs.YtdflblegdfpdpaaDoor.AskW Go.Proofs.YtdflblegdfpdpaaDoor.HeldW Go.Proofs.YtdflblegdfpdpaaDoor.HeldM Go.Proofs.YtdflblegdfpdpaaDoor.ScoreW Go.Proofs.YtdflblegdfpdpaaDoor.CopyW Go.Proofs.YtdflblegdfpdpaaDoor.FoldW Go.Proofs.YtdflblegdfpdpaaDoor.FillS Go.Proofs.YtdflblegdfpdpaaDoor.FillW Go.Proofs.YtdflblegdfpdpaaDoor.FillR Go.Proofs.YtdflblegdfpdpaaDoor.AskB Go.Proofs.YtdflblegdfpdpaaDoor.PartB Go.Proofs.YtdflblegdfpdpaaDoor.GlobW
set_option linter.unusedVariables false
set_option maxRecDepth 100000
theorem keep1 {w W W' : World} {g : Nat} {v : Value} (h : W.cell? ⟨g, 1, none⟩ = some v ∧ Aside0 (Below w.heap.size w W)) (hb : Below W.heap.size W W') : W'.cell? ⟨g, 1, none⟩ = some v ∧ Aside0 (Below w.heap.size w W') :=
  ⟨pw_cell_below hb h.1, ⟨PB.below_next h.2.out hb⟩⟩
theorem keep2 {w W W' : World} {g : Nat} {v u : Value} (h : W.cell? ⟨g, 1, none⟩ = some v ∧ W.cell? ⟨g, 2, none⟩ = some u ∧ Aside0 (Below w.heap.size w W)) (hb : Below W.heap.size W W') : W'.cell? ⟨g, 1, none⟩ = some v ∧ W'.cell? ⟨g, 2, none⟩ = some u ∧ Aside0 (Below w.heap.size w W') :=
  ⟨pw_cell_below hb h.1, pw_cell_below hb h.2.1, ⟨PB.below_next h.2.2.out hb⟩⟩
theorem foldX.calls (A : Option Addr) (c : Nat) (l : List Int) (sx : ByteArray) (hsx : strOfNums (l.map upB) = sx) (w : World) (hr : Kd.C (Kd.int .u8) w A l.length l) (hl : l.length ≤ 1048576) (hi : ∀ x ∈ l, 0 ≤ x ∧ x < 256) :
    Calls Tryd.prog 48 #[.slice A l.length c] w fun e w' => e = .returned (.string sx) ∧ Below w.heap.size w w' := hsx ▸ fold.calls A c l w hr (by omega) hi
theorem upperX.calls (A : Option Addr) (c : Nat) (l : List Int) (sx : ByteArray) (hsx : strOfNums (l.map upB) = sx) (w : World) (hr : Kd.C (Kd.int .u8) w A l.length l) (hl : l.length ≤ 1048576) (hi : ∀ x ∈ l, 0 ≤ x ∧ x < 256) :
    Calls Tryd.prog 49 #[.slice A l.length c] w fun e w' => e = .returned (.string sx) ∧ Below w.heap.size w w' := hsx ▸ upper.calls A c l w hr (by omega) hi
theorem eqT.calls (A : Option Addr) (c : Nat) (l : List Int) (A1 : Option Addr) (c1 : Nat) (w : World) (hr : Kd.C (Kd.int .u8) w A l.length l) (hc : l.length ≤ c) (hr1 : Kd.C (Kd.int .u8) w A1 l.length l) (hc1 : l.length ≤ c1) (hn : l.length ≤ 140737488355328) :
    Calls Tryd.prog 15 #[.slice A l.length c, .slice A1 l.length c1] w fun e w' => e = .returned (.bool true) ∧ Below w.heap.size w w' := by
  have := HoldW.eq.calls A c l A1 c1 l w hr hc hr1 hc1 hn
  rw [decide_eq_true rfl] at this
  exact this
theorem fillX.calls (Ap : Option Addr) (cp : Nat) (p : List Int) (At : Option Addr) (ct : Nat) (t : List Int) (m : Int) (w : World) (K F : List Int) (st : Bool) (hF : fillS p t = (K, F, st)) (hp : Kd.C (Kd.int .u8) w Ap p.length p) (hn : Ap = none → cp = 0) (hcp : p.length ≤ cp) (ht : Kd.C (Kd.int .u8) w At t.length t) (hct : t.length ≤ ct) (ip : ∀ x ∈ p, 0 ≤ x ∧ x < 256) (it : ∀ x ∈ t, 0 ≤ x ∧ x < 256) (lp : p.length ≤ 1048576) (lt : t.length ≤ 1048576) (hm : w.cell? ⟨2, 0, none⟩ = some (.int .i64 m)) :
    Calls Tryd.prog 50 #[.slice Ap p.length cp, .slice At t.length ct] w fun e w' => FillGot w K F st e w' := by
  have := fill.calls Ap cp p At ct t m w hp hn hcp ht hct ip it lp lt hm
  rw [hF] at this
  exact this
theorem refX.calls (Ap : Option Addr) (cp : Nat) (p : List Int) (At : Option Addr) (ct : Nat) (t : List Int) (w : World) (K F : List Int) (st : Bool) (hF : fillS p t = (K, F, st)) (hp : Kd.C (Kd.int .u8) w Ap p.length p) (hcp : p.length ≤ cp) (ht : Kd.C (Kd.int .u8) w At t.length t) (hct : t.length ≤ ct) (lp : p.length ≤ 1048576) (lt : t.length ≤ 1048576) :
    Calls Tryd.prog 51 #[.slice Ap p.length cp, .slice At t.length ct] w fun e w' => FillGot w K F st e w' := by
  have := refFill.calls Ap cp p At ct t w hp hcp ht hct lp lt
  rw [hF] at this
  exact this
theorem fill_len (p t : List Int) : (fillS p t).1.length ≤ p.length + t.length ∧ (fillS p t).2.1.length ≤ p.length := by
  unfold fillS
  split
  · simp
  · rename_i h
    have hs : (starI p).toNat < p.length := by
      rcases star_spec p with ⟨h1, _⟩ | ⟨i, h1, h2, _⟩
      · exact absurd h1 h
      · have := (List.getElem?_eq_some_iff.1 h2).1
        omega
    split
    · simp only [List.length_append, List.length_take, List.length_drop]; omega
    · simp only [List.length_append, List.length_take, List.length_drop, List.length_nil]; omega

set_option maxHeartbeats 8000000 in
theorem ans7 (y : AskT) (hd : y.1 = 7) (hP : gBytesB y.2.1) (hT : gBytesB y.2.2.1) : AnsM y := by
  intro w ca hG hK
  obtain ⟨Ap, cp, At, ct, A3, c3, A4, c4, he, hcp, hCp, hct, hCt, _⟩ := ask_cells hK
  obtain ⟨d, lp, lt, I, J, N, ⟨f1, s1, o1⟩, ⟨f2, s2, o2⟩, ⟨f3, l3, o3⟩, ⟨f4, l4, o4⟩⟩ := y
  obtain rfl : d = 7 := hd
  obtain rfl : ca = #[.int .i64 7, .slice Ap lp.length cp, .slice At lt.length ct, .int .i64 I, .int .i64 J, .int .i64 N, .int .i64 f1, .int .i64 s1, .bool o1, .int .i64 f2, .int .i64 s2, .bool o2, .int .i64 f3, .slice A3 l3.length c3, .bool o3, .int .i64 f4, .slice A4 l4.length c4, .bool o4] := by cases ca; simp_all
  have hlp : lp.length ≤ 1048576 := hP.1
  have hlt : lt.length ≤ 1048576 := hT.1
  have HIP : Aside0 (∀ x ∈ lp, 0 ≤ x ∧ x < 256) := ⟨fun x hx => wf_u8 (hP.2.2 x hx)⟩
  have HIT : Aside0 (∀ x ∈ lt, 0 ≤ x ∧ x < 256) := ⟨fun x hx => wf_u8 (hT.2.2 x hx)⟩
  have hcp : lp.length ≤ cp := hcp
  have hct : lt.length ≤ ct := hct
  have hCp : Kd.C (Kd.int .u8) w Ap lp.length lp := hCp
  have hCt : Kd.C (Kd.int .u8) w At lt.length lt := hCt
  rename_i hrest_
  clear hrest_
  have HG := Aside0.mk hG
  have HP := Aside0.mk hCp
  have HT := Aside0.mk hCt
  have HB := Aside0.mk (Below.refl w.heap.size w)
  obtain ⟨sx, hsx⟩ : ∃ sx, strOfNums (lp.map upB) = sx := ⟨_, rfl⟩
  have HSX := Aside0.mk hsx
  clear hsx
  clear hG hK he hP hT hCp hCt
  go_enter Tryd.func37, Tryd.ntmps37
  go_upto_region 14 with (first
    | ((with_reducible refine gate_dst (N := 1) rfl ?_); refine box_event ?hg (N := 1) ?hd (cs := #[.int .i64 7, .slice Ap lp.length cp, .slice At lt.length ct, .int .i64 I, .int .i64 J, .int .i64 N, .int .i64 f1, .int .i64 s1, .bool o1, .int .i64 f2, .int .i64 s2, .bool o2, .int .i64 f3, .slice A3 l3.length c3, .bool o3, .int .i64 f4, .slice A4 l4.length c4, .bool o4]) (t := 45) ?hr ?_; (case hd => rfl); (case hg => rfl); (case hr => first | (go_simp; done) | (go_simp; rfl)); intro gb hgb w5 hbox hb; have n0_ := Aside0.mk (below_step HB.out hb); have BK := Aside0.mk hbox; clear HB; have HB := n0_; clear n0_ hb hbox hgb; have z0 : w5.cell? ⟨gb, 0, none⟩ = some (.int .i64 7) := (blk_cell BK.out 0).trans rfl; have z1 : w5.cell? ⟨gb, 1, none⟩ = some (.slice Ap lp.length cp) := (blk_cell BK.out 1).trans rfl; have z2 : w5.cell? ⟨gb, 2, none⟩ = some (.slice At lt.length ct) := (blk_cell BK.out 2).trans rfl; clear BK))
  have hS0 : w5.drew.cell? ⟨gb, 1, none⟩ = some (.slice Ap lp.length cp) ∧ Aside0 (Below w.heap.size w w5.drew) := ⟨z1, ⟨HB.out.drew⟩⟩
  clear z0 z1 z2
  refine wp_region_held_drew (S := (fun W => W.cell? ⟨gb, 1, none⟩ = some (.slice Ap lp.length cp) ∧ Aside0 (Below w.heap.size w W))) (by kernel_rfl) (by exact hS0) (fun hHeld => ?_)
  refine wpAnyH_take (i := 0) (oi := ({ dst := some 73, op := Go.Op.fieldAddr 45 (Go.Operand.tmp 1) 1, type := 0, pos := "law.go:85", after := #[], guard := none } : Oper)) (v := ?vp0) rfl (by kernel_rfl) (by kernel_rfl) (by kernel_rfl) (fun _ _ _ h => h) (Or.inl ⟨by rfl, ?hyp0⟩) (by assumption) ?restp0
  case hyp0 => (intro w hSw; (try dsimp only at hSw); go_simp; (try with_reducible rfl))
  (try simp only [Act.put, List.setIfInBounds_toArray, List.set_cons_zero, List.set_cons_succ])
  refine wpAnyH_take (i := 1) (oi := ({ dst := some 74, op := Go.Op.load 22 (Go.Operand.tmp 73), type := 22, pos := "law.go:85", after := #[{ on := 0, ground := Go.Ground.data }], guard := none } : Oper)) (v := ?vp1) rfl (by kernel_rfl) (by kernel_rfl) (by kernel_rfl) (fun _ _ _ h => h) (Or.inl ⟨by rfl, ?hyp1⟩) (by assumption) ?restp1
  case hyp1 => (intro w hSw; (try dsimp only at hSw); go_simp; (try with_reducible rfl))
  (try simp only [Act.put, List.setIfInBounds_toArray, List.set_cons_zero, List.set_cons_succ])
  refine wpAnyH_take (i := 4) (oi := ({ dst := some 77, op := Go.Op.fieldAddr 45 (Go.Operand.tmp 1) 1, type := 0, pos := "law.go:85", after := #[], guard := none } : Oper)) (v := ?vp4) rfl (by kernel_rfl) (by kernel_rfl) (by kernel_rfl) (fun _ _ _ h => h) (Or.inl ⟨by rfl, ?hyp4⟩) (by assumption) ?restp4
  case hyp4 => (intro w hSw; (try dsimp only at hSw); go_simp; (try with_reducible rfl))
  (try simp only [Act.put, List.setIfInBounds_toArray, List.set_cons_zero, List.set_cons_succ])
  refine wpAnyH_take (i := 5) (oi := ({ dst := some 78, op := Go.Op.load 22 (Go.Operand.tmp 77), type := 22, pos := "law.go:85", after := #[{ on := 4, ground := Go.Ground.data }], guard := none } : Oper)) (v := ?vp5) rfl (by kernel_rfl) (by kernel_rfl) (by kernel_rfl) (fun _ _ _ h => h) (Or.inl ⟨by rfl, ?hyp5⟩) (by assumption) ?restp5
  case hyp5 => (intro w hSw; (try dsimp only at hSw); go_simp; (try with_reducible rfl))
  (try simp only [Act.put, List.setIfInBounds_toArray, List.set_cons_zero, List.set_cons_succ])
  refine wpAnyH_ready (rs := [2]) (by kernel_rfl) (by simp) ?_
  refine AllReadyH.cons (o := ({ dst := some 75, op := Go.Op.call { callee := Go.Callee.value (Go.Operand.func 44), args := #[Go.Operand.tmp 74], argTypes := #[22] }, type := 22, pos := "law.go:85", after := #[{ on := 1, ground := Go.Ground.data }], guard := none } : Oper)) rfl (fun K hK => ?_) AllReadyH.nil
  go_simp
  refine (twin.calls Ap cp lp _ (Kd.C_below HP.out hHeld.2.out) (by omega)).mono ?_
  rintro e wx ⟨B1, cB1, rfl, hcB1, hC, hb, hzB1⟩
  have HWB1 := Aside0.mk hC
  have hS1 := keep1 hHeld hb
  clear hb hC
  (try go_wp2_with fail)
  refine hK.out _ _ (by exact hS1) (fun hHeld => ?_)
  clear hK K
  (try simp only [Act.put, List.setIfInBounds_toArray, List.set_cons_zero, List.set_cons_succ])
  refine wpAnyH_ready (rs := [3]) (by kernel_rfl) (by simp) ?_
  refine AllReadyH.cons (o := ({ dst := some 76, op := Go.Op.call { callee := Go.Callee.value (Go.Operand.func 48), args := #[Go.Operand.tmp 75], argTypes := #[22] }, type := 9, pos := "law.go:85", after := #[{ on := 2, ground := Go.Ground.data }, { on := 2, ground := Go.Ground.chain }], guard := none } : Oper)) rfl (fun K hK => ?_) AllReadyH.nil
  go_simp
  refine (foldX.calls B1 cB1 lp sx HSX.out _ HWB1.out hlp HIP.out).mono ?_
  rintro e wx ⟨rfl, hb⟩
  have hS1 := keep1 hHeld hb
  clear hb
  (try go_wp2_with fail)
  refine hK.out _ _ (by exact hS1) (fun hHeld => ?_)
  clear hK K
  (try simp only [Act.put, List.setIfInBounds_toArray, List.set_cons_zero, List.set_cons_succ])
  refine wpAnyH_ready (rs := [6]) (by kernel_rfl) (by simp) ?_
  refine AllReadyH.cons (o := ({ dst := some 79, op := Go.Op.call { callee := Go.Callee.value (Go.Operand.func 49), args := #[Go.Operand.tmp 78], argTypes := #[22] }, type := 9, pos := "law.go:85", after := #[{ on := 5, ground := Go.Ground.data }, { on := 3, ground := Go.Ground.chain }], guard := none } : Oper)) rfl (fun K hK => ?_) AllReadyH.nil
  go_simp
  refine (upperX.calls Ap cp lp sx HSX.out _ (Kd.C_below HP.out hHeld.2.out) hlp HIP.out).mono ?_
  rintro e wx ⟨rfl, hb⟩
  have hS1 := keep1 hHeld hb
  clear hb
  (try go_wp2_with fail)
  refine hK.out _ _ (by exact hS1) (fun hHeld => ?_)
  clear hK K
  (try simp only [Act.put, List.setIfInBounds_toArray, List.set_cons_zero, List.set_cons_succ])
  refine wpAnyH_take (i := 7) (oi := ({ dst := some 80, op := Go.Op.binOp Go.BinOp.eql 9 (Go.Operand.tmp 76) (Go.Operand.tmp 79) 9, type := 4, pos := "law.go:85", after := #[{ on := 3, ground := Go.Ground.data }, { on := 6, ground := Go.Ground.data }], guard := none } : Oper)) (v := Value.bool true) rfl (by kernel_rfl) (by kernel_rfl) (by kernel_rfl) (fun _ _ _ h => h) (Or.inl ⟨by rfl, ?hyp7⟩) (by assumption) ?restp7
  case hyp7 => (intro w hSw; (try dsimp only at hSw); go_simp; (try simp); (try with_reducible rfl))
  (try simp only [Act.put, List.setIfInBounds_toArray, List.set_cons_zero, List.set_cons_succ])
  refine wpAnyH_take (i := 8) (oi := ({ dst := some 2, op := Go.Op.assign (Go.Operand.tmp 80), type := 4, pos := "law.go:85", after := #[{ on := 7, ground := Go.Ground.data }, { on := 6, ground := Go.Ground.chain }, { on := 0, ground := Go.Ground.phase }, { on := 1, ground := Go.Ground.phase }, { on := 2, ground := Go.Ground.phase }, { on := 3, ground := Go.Ground.phase }, { on := 4, ground := Go.Ground.phase }, { on := 5, ground := Go.Ground.phase }, { on := 6, ground := Go.Ground.phase }, { on := 7, ground := Go.Ground.phase }], guard := none } : Oper)) (v := ?vp8) rfl (by kernel_rfl) (by kernel_rfl) (by kernel_rfl) (fun _ _ _ h => h) (Or.inl ⟨by rfl, ?hyp8⟩) (by assumption) ?restp8
  case hyp8 => (intro w hSw; (try dsimp only at hSw); go_simp; (try with_reducible rfl))
  (try simp only [Act.put, List.setIfInBounds_toArray, List.set_cons_zero, List.set_cons_succ])
  refine wpAnyH_done (by kernel_rfl) ?_ _
  (try go_wp2_with fail)
  go_ret
  exact ⟨rfl, hHeld.2.out⟩
set_option maxHeartbeats 8000000 in
theorem ans8 (y : AskT) (hd : y.1 = 8) (hP : gBytesB y.2.1) (hT : gBytesB y.2.2.1) : AnsM y := by
  intro w ca hG hK
  obtain ⟨Ap, cp, At, ct, A3, c3, A4, c4, he, hcp, hCp, hct, hCt, _⟩ := ask_cells hK
  obtain ⟨d, lp, lt, I, J, N, ⟨f1, s1, o1⟩, ⟨f2, s2, o2⟩, ⟨f3, l3, o3⟩, ⟨f4, l4, o4⟩⟩ := y
  obtain rfl : d = 8 := hd
  obtain rfl : ca = #[.int .i64 8, .slice Ap lp.length cp, .slice At lt.length ct, .int .i64 I, .int .i64 J, .int .i64 N, .int .i64 f1, .int .i64 s1, .bool o1, .int .i64 f2, .int .i64 s2, .bool o2, .int .i64 f3, .slice A3 l3.length c3, .bool o3, .int .i64 f4, .slice A4 l4.length c4, .bool o4] := by cases ca; simp_all
  have hlp : lp.length ≤ 1048576 := hP.1
  have hlt : lt.length ≤ 1048576 := hT.1
  have HIP : Aside0 (∀ x ∈ lp, 0 ≤ x ∧ x < 256) := ⟨fun x hx => wf_u8 (hP.2.2 x hx)⟩
  have HIT : Aside0 (∀ x ∈ lt, 0 ≤ x ∧ x < 256) := ⟨fun x hx => wf_u8 (hT.2.2 x hx)⟩
  have hcp : lp.length ≤ cp := hcp
  have hct : lt.length ≤ ct := hct
  have hCp : Kd.C (Kd.int .u8) w Ap lp.length lp := hCp
  have hCt : Kd.C (Kd.int .u8) w At lt.length lt := hCt
  rename_i hrest_
  clear hrest_
  have HG := Aside0.mk hG
  have HP := Aside0.mk hCp
  have HT := Aside0.mk hCt
  have HB := Aside0.mk (Below.refl w.heap.size w)
  obtain ⟨KL, FL, st, hF⟩ : ∃ KL FL st, fillS lp lt = (KL, FL, st) := ⟨_, _, _, rfl⟩
  have hl := fill_len lp lt
  rw [hF] at hl
  have HF := Aside0.mk hF
  clear hF
  clear hG hK he hP hT hCp hCt
  go_enter Tryd.func37, Tryd.ntmps37
  go_upto_region 16 with (first
    | ((with_reducible refine gate_dst (N := 1) rfl ?_); refine box_event ?hg (N := 1) ?hd (cs := #[.int .i64 8, .slice Ap lp.length cp, .slice At lt.length ct, .int .i64 I, .int .i64 J, .int .i64 N, .int .i64 f1, .int .i64 s1, .bool o1, .int .i64 f2, .int .i64 s2, .bool o2, .int .i64 f3, .slice A3 l3.length c3, .bool o3, .int .i64 f4, .slice A4 l4.length c4, .bool o4]) (t := 45) ?hr ?_; (case hd => rfl); (case hg => rfl); (case hr => first | (go_simp; done) | (go_simp; rfl)); intro gb hgb w5 hbox hb; have n0_ := Aside0.mk (below_step HB.out hb); have BK := Aside0.mk hbox; clear HB; have HB := n0_; clear n0_ hb hbox hgb; have z0 : w5.cell? ⟨gb, 0, none⟩ = some (.int .i64 8) := (blk_cell BK.out 0).trans rfl; have z1 : w5.cell? ⟨gb, 1, none⟩ = some (.slice Ap lp.length cp) := (blk_cell BK.out 1).trans rfl; have z2 : w5.cell? ⟨gb, 2, none⟩ = some (.slice At lt.length ct) := (blk_cell BK.out 2).trans rfl; clear BK))
  have hS0 : w5.drew.cell? ⟨gb, 1, none⟩ = some (.slice Ap lp.length cp) ∧ w5.drew.cell? ⟨gb, 2, none⟩ = some (.slice At lt.length ct) ∧ Aside0 (Below w.heap.size w w5.drew) := ⟨z1, z2, ⟨HB.out.drew⟩⟩
  clear z0 z1 z2
  refine wp_region_held_drew (S := (fun W => W.cell? ⟨gb, 1, none⟩ = some (.slice Ap lp.length cp) ∧ W.cell? ⟨gb, 2, none⟩ = some (.slice At lt.length ct) ∧ Aside0 (Below w.heap.size w W))) (by kernel_rfl) (by exact hS0) (fun hHeld => ?_)
  refine wpAnyH_take (i := 0) (oi := ({ dst := some 84, op := Go.Op.fieldAddr 45 (Go.Operand.tmp 1) 1, type := 0, pos := "law.go:87", after := #[], guard := none } : Oper)) (v := ?vq0) rfl (by kernel_rfl) (by kernel_rfl) (by kernel_rfl) (fun _ _ _ h => h) (Or.inl ⟨by rfl, ?hyq0⟩) (by assumption) ?restq0
  case hyq0 => (intro w hSw; (try dsimp only at hSw); go_simp; (try with_reducible rfl))
  (try simp only [Act.put, List.setIfInBounds_toArray, List.set_cons_zero, List.set_cons_succ])
  refine wpAnyH_take (i := 1) (oi := ({ dst := some 85, op := Go.Op.load 22 (Go.Operand.tmp 84), type := 22, pos := "law.go:87", after := #[{ on := 0, ground := Go.Ground.data }], guard := none } : Oper)) (v := ?vq1) rfl (by kernel_rfl) (by kernel_rfl) (by kernel_rfl) (fun _ _ _ h => h) (Or.inl ⟨by rfl, ?hyq1⟩) (by assumption) ?restq1
  case hyq1 => (intro w hSw; (try dsimp only at hSw); go_simp; (try with_reducible rfl))
  (try simp only [Act.put, List.setIfInBounds_toArray, List.set_cons_zero, List.set_cons_succ])
  refine wpAnyH_take (i := 3) (oi := ({ dst := some 87, op := Go.Op.fieldAddr 45 (Go.Operand.tmp 1) 2, type := 0, pos := "law.go:87", after := #[], guard := none } : Oper)) (v := ?vq3) rfl (by kernel_rfl) (by kernel_rfl) (by kernel_rfl) (fun _ _ _ h => h) (Or.inl ⟨by rfl, ?hyq3⟩) (by assumption) ?restq3
  case hyq3 => (intro w hSw; (try dsimp only at hSw); go_simp; (try with_reducible rfl))
  (try simp only [Act.put, List.setIfInBounds_toArray, List.set_cons_zero, List.set_cons_succ])
  refine wpAnyH_take (i := 4) (oi := ({ dst := some 88, op := Go.Op.load 22 (Go.Operand.tmp 87), type := 22, pos := "law.go:87", after := #[{ on := 3, ground := Go.Ground.data }], guard := none } : Oper)) (v := ?vq4) rfl (by kernel_rfl) (by kernel_rfl) (by kernel_rfl) (fun _ _ _ h => h) (Or.inl ⟨by rfl, ?hyq4⟩) (by assumption) ?restq4
  case hyq4 => (intro w hSw; (try dsimp only at hSw); go_simp; (try with_reducible rfl))
  (try simp only [Act.put, List.setIfInBounds_toArray, List.set_cons_zero, List.set_cons_succ])
  refine wpAnyH_ready (rs := [2]) (by kernel_rfl) (by simp) ?_
  refine AllReadyH.cons (o := ({ dst := some 86, op := Go.Op.call { callee := Go.Callee.value (Go.Operand.func 44), args := #[Go.Operand.tmp 85], argTypes := #[22] }, type := 22, pos := "law.go:87", after := #[{ on := 1, ground := Go.Ground.data }], guard := none } : Oper)) rfl (fun K hK => ?_) AllReadyH.nil
  go_simp
  refine (twin.calls Ap cp lp _ (Kd.C_below HP.out hHeld.2.2.out) (by omega)).mono ?_
  rintro e wx ⟨B1, cB1, rfl, hcB1, hC, hb, hzB1⟩
  have HWB1 := Aside0.mk hC
  have hS1 := keep2 hHeld hb
  clear hb hC
  (try go_wp2_with fail)
  refine hK.out _ _ (by exact hS1) (fun hHeld => ?_)
  clear hK K
  (try simp only [Act.put, List.setIfInBounds_toArray, List.set_cons_zero, List.set_cons_succ])
  refine wpAnyH_ready (rs := [5]) (by kernel_rfl) (by simp) ?_
  refine AllReadyH.cons (o := ({ dst := some 89, op := Go.Op.call { callee := Go.Callee.value (Go.Operand.func 44), args := #[Go.Operand.tmp 88], argTypes := #[22] }, type := 22, pos := "law.go:87", after := #[{ on := 4, ground := Go.Ground.data }, { on := 2, ground := Go.Ground.chain }], guard := none } : Oper)) rfl (fun K hK => ?_) AllReadyH.nil
  go_simp
  refine (twin.calls At ct lt _ (Kd.C_below HT.out hHeld.2.2.out) (by omega)).mono ?_
  rintro e wx ⟨B2, cB2, rfl, hcB2, hC, hb, hzB2⟩
  have HWB2 := Aside0.mk hC
  have hS1 := keep2 hHeld hb
  have HWB1b := Aside0.mk (Kd.C_below HWB1.out hb)
  clear hb hC HWB1
  (try go_wp2_with fail)
  refine hK.out _ _ (by exact hS1) (fun hHeld => ?_)
  clear hK K
  (try simp only [Act.put, List.setIfInBounds_toArray, List.set_cons_zero, List.set_cons_succ])
  refine wpAnyH_ready (rs := [6]) (by kernel_rfl) (by simp) ?_
  refine AllReadyH.cons (o := ({ dst := some 90, op := Go.Op.call { callee := Go.Callee.value (Go.Operand.func 50), args := #[Go.Operand.tmp 86, Go.Operand.tmp 89], argTypes := #[22, 22] }, type := 89, pos := "law.go:87", after := #[{ on := 2, ground := Go.Ground.data }, { on := 5, ground := Go.Ground.data }, { on := 5, ground := Go.Ground.chain }], guard := none } : Oper)) rfl (fun K hK => ?_) AllReadyH.nil
  go_simp
  obtain ⟨m, hm⟩ := (HG.out.below hHeld.2.2.out).ml
  refine (fillX.calls B1 cB1 lp B2 cB2 lt m _ KL FL st HF.out HWB1b.out hzB1 hcB1 HWB2.out hcB2 HIP.out HIT.out hlp hlt hm).mono ?_
  rintro e wx ⟨Ak, ck, Af, cf, rfl, hck, hCk, hcf, hCf, hb⟩
  have HKC := Aside0.mk hCk
  have HFC := Aside0.mk hCf
  have hS1 := keep2 hHeld hb
  clear hb hCk hCf hm
  (try go_wp2_with fail)
  refine hK.out _ _ (by exact hS1) (fun hHeld => ?_)
  clear hK K
  (try simp only [Act.put, List.setIfInBounds_toArray, List.set_cons_zero, List.set_cons_succ])
  refine wpAnyH_take (i := 7) (oi := ({ dst := some 83, op := Go.Op.move (Go.Operand.tmp 90), type := 89, pos := "law.go:87", after := #[{ on := 6, ground := Go.Ground.data }], guard := none } : Oper)) (v := ?vq7) rfl (by kernel_rfl) (by kernel_rfl) (by kernel_rfl) (fun _ _ _ h => h) (Or.inl ⟨by rfl, ?hyq7⟩) (by assumption) ?restq7
  case hyq7 => (intro w hSw; (try dsimp only at hSw); go_simp; (try with_reducible rfl))
  (try simp only [Act.put, List.setIfInBounds_toArray, List.set_cons_zero, List.set_cons_succ])
  refine wpAnyH_take (i := 8) (oi := ({ dst := some 91, op := Go.Op.extract (Go.Operand.tmp 83) 0, type := 22, pos := "law.go:87", after := #[{ on := 7, ground := Go.Ground.data }], guard := none } : Oper)) (v := ?vq8) rfl (by kernel_rfl) (by kernel_rfl) (by kernel_rfl) (fun _ _ _ h => h) (Or.inl ⟨by rfl, ?hyq8⟩) (by assumption) ?restq8
  case hyq8 => (intro w hSw; (try dsimp only at hSw); go_simp; (try with_reducible rfl))
  (try simp only [Act.put, List.setIfInBounds_toArray, List.set_cons_zero, List.set_cons_succ])
  refine wpAnyH_take (i := 9) (oi := ({ dst := some 92, op := Go.Op.extract (Go.Operand.tmp 83) 1, type := 22, pos := "law.go:87", after := #[{ on := 7, ground := Go.Ground.data }, { on := 11, ground := Go.Ground.gcOnly Go.Departure.lateStores }], guard := none } : Oper)) (v := ?vq9) rfl (by kernel_rfl) (by kernel_rfl) (by kernel_rfl) (fun _ _ _ h => h) (Or.inl ⟨by rfl, ?hyq9⟩) (by assumption) ?restq9
  case hyq9 => (intro w hSw; (try dsimp only at hSw); go_simp; (try with_reducible rfl))
  (try simp only [Act.put, List.setIfInBounds_toArray, List.set_cons_zero, List.set_cons_succ])
  refine wpAnyH_take (i := 10) (oi := ({ dst := some 93, op := Go.Op.extract (Go.Operand.tmp 83) 2, type := 4, pos := "law.go:87", after := #[{ on := 7, ground := Go.Ground.data }, { on := 12, ground := Go.Ground.gcOnly Go.Departure.lateStores }], guard := none } : Oper)) (v := ?vq10) rfl (by kernel_rfl) (by kernel_rfl) (by kernel_rfl) (fun _ _ _ h => h) (Or.inl ⟨by rfl, ?hyq10⟩) (by assumption) ?restq10
  case hyq10 => (intro w hSw; (try dsimp only at hSw); go_simp; (try with_reducible rfl))
  (try simp only [Act.put, List.setIfInBounds_toArray, List.set_cons_zero, List.set_cons_succ])
  refine wpAnyH_take (i := 11) (oi := ({ dst := some 7, op := Go.Op.assign (Go.Operand.tmp 91), type := 22, pos := "law.go:87", after := #[{ on := 8, ground := Go.Ground.data }, { on := 6, ground := Go.Ground.chain }, { on := 0, ground := Go.Ground.phase }, { on := 1, ground := Go.Ground.phase }, { on := 2, ground := Go.Ground.phase }, { on := 3, ground := Go.Ground.phase }, { on := 4, ground := Go.Ground.phase }, { on := 5, ground := Go.Ground.phase }, { on := 6, ground := Go.Ground.phase }, { on := 7, ground := Go.Ground.phase }, { on := 8, ground := Go.Ground.phase }, { on := 9, ground := Go.Ground.textOnly Go.Departure.lateStores }, { on := 10, ground := Go.Ground.textOnly Go.Departure.lateStores }], guard := none } : Oper)) (v := ?vq11) rfl (by kernel_rfl) (by kernel_rfl) (by kernel_rfl) (fun _ _ _ h => h) (Or.inl ⟨by rfl, ?hyq11⟩) (by assumption) ?restq11
  case hyq11 => (intro w hSw; (try dsimp only at hSw); go_simp; (try with_reducible rfl))
  (try simp only [Act.put, List.setIfInBounds_toArray, List.set_cons_zero, List.set_cons_succ])
  refine wpAnyH_take (i := 12) (oi := ({ dst := some 8, op := Go.Op.assign (Go.Operand.tmp 92), type := 22, pos := "law.go:87", after := #[{ on := 9, ground := Go.Ground.data }, { on := 11, ground := Go.Ground.chain }, { on := 0, ground := Go.Ground.phase }, { on := 1, ground := Go.Ground.phase }, { on := 2, ground := Go.Ground.phase }, { on := 3, ground := Go.Ground.phase }, { on := 4, ground := Go.Ground.phase }, { on := 5, ground := Go.Ground.phase }, { on := 6, ground := Go.Ground.phase }, { on := 7, ground := Go.Ground.phase }, { on := 8, ground := Go.Ground.phase }, { on := 9, ground := Go.Ground.phase }, { on := 10, ground := Go.Ground.textOnly Go.Departure.lateStores }, { on := 11, ground := Go.Ground.phase }], guard := none } : Oper)) (v := ?vq12) rfl (by kernel_rfl) (by kernel_rfl) (by kernel_rfl) (fun _ _ _ h => h) (Or.inl ⟨by rfl, ?hyq12⟩) (by assumption) ?restq12
  case hyq12 => (intro w hSw; (try dsimp only at hSw); go_simp; (try with_reducible rfl))
  (try simp only [Act.put, List.setIfInBounds_toArray, List.set_cons_zero, List.set_cons_succ])
  refine wpAnyH_take (i := 13) (oi := ({ dst := some 9, op := Go.Op.assign (Go.Operand.tmp 93), type := 4, pos := "law.go:87", after := #[{ on := 10, ground := Go.Ground.data }, { on := 12, ground := Go.Ground.chain }, { on := 0, ground := Go.Ground.phase }, { on := 1, ground := Go.Ground.phase }, { on := 2, ground := Go.Ground.phase }, { on := 3, ground := Go.Ground.phase }, { on := 4, ground := Go.Ground.phase }, { on := 5, ground := Go.Ground.phase }, { on := 6, ground := Go.Ground.phase }, { on := 7, ground := Go.Ground.phase }, { on := 8, ground := Go.Ground.phase }, { on := 9, ground := Go.Ground.phase }, { on := 10, ground := Go.Ground.phase }, { on := 11, ground := Go.Ground.phase }, { on := 12, ground := Go.Ground.phase }], guard := none } : Oper)) (v := ?vq13) rfl (by kernel_rfl) (by kernel_rfl) (by kernel_rfl) (fun _ _ _ h => h) (Or.inl ⟨by rfl, ?hyq13⟩) (by assumption) ?restq13
  case hyq13 => (intro w hSw; (try dsimp only at hSw); go_simp; (try with_reducible rfl))
  (try simp only [Act.put, List.setIfInBounds_toArray, List.set_cons_zero, List.set_cons_succ])
  refine wpAnyH_done (by kernel_rfl) ?_ _
  obtain ⟨z1, z2, HB6⟩ := hHeld
  have n1 : (st == st) = true := by simp
  have hl1 : KL.length ≤ 2097152 := by omega
  have hl2 : FL.length ≤ 1048576 := by omega
  (try go_wp2_with fail)
  refine (refX.calls Ap cp lp At ct lt _ KL FL st HF.out (Kd.C_below HP.out HB6.out) hcp (Kd.C_below HT.out HB6.out) hct hlp hlt).mono ?_
  rintro e w8 ⟨Bk, dk, Bf, df, rfl, hdk, hDk, hdf, hDf, hb⟩
  have KC := Aside0.mk (Kd.C_below HKC.out hb)
  have FC := Aside0.mk (Kd.C_below HFC.out hb)
  have KD := Aside0.mk hDk
  have FD := Aside0.mk hDf
  have HB8 := Aside0.mk (PB.below_next HB6.out hb)
  clear hb hDk hDf HKC HFC
  go_wp2_with fail
  refine (eqT.calls Ak ck KL Bk dk _ KC.out hck KD.out hdk (by omega)).mono ?_
  rintro e w9 ⟨rfl, hb⟩
  have FC9 := Aside0.mk (Kd.C_below FC.out hb)
  have FD9 := Aside0.mk (Kd.C_below FD.out hb)
  have HB9 := Aside0.mk (PB.below_next HB8.out hb)
  clear hb
  go_wp2_with fail
  refine (eqT.calls Af cf FL Bf df _ FC9.out hcf FD9.out hdf (by omega)).mono ?_
  rintro e w10 ⟨rfl, hb⟩
  have HB10 := Aside0.mk (PB.below_next HB9.out hb)
  clear hb
  go_wp2_with fail
  go_ret
  exact ⟨rfl, HB10.out⟩

set_option maxHeartbeats 1600000 in
theorem fills (A : Option Addr) (c : Nat) (l : List AskT) (w : World) (hC : kAsk.C w A l.length l) (hlen : l.length ≤ 140737488355328) (hG : GM w) (hg : ∀ y ∈ l, gAskB y) :
    Calls Tryd.prog 10 #[.agg #[.slice A l.length c]] w fun e w' => e = .returned (.bool true) ∧ Below w.heap.size w w' := by
  have hh := HeldM.held A c l 7 8 (w.alloc (.cells #[.slice A l.length c] 60)) (Kd.C_alloc hC _) hlen (hG.below (below_alloc (Below.refl _ _) _)) (fun y hy h1 h2 => by
    obtain ⟨_, hP, hT, _⟩ := hg y hy
    by_cases h : y.1 = 7
    · exact ans7 y h hP hT
    · exact ans8 y (by omega) hP hT)
  clear hC hG hg
  go_enter Tryd.func10, Tryd.ntmps10
  go_wp2_with fail
  refine hh.mono ?_
  rintro e w7 ⟨rfl, hb⟩
  go_wp2_with fail
  go_ret
  exact ⟨rfl, PB.below_next (below_alloc (Below.refl _ _) _) hb⟩
theorem walk (l : List AskT) (ca : Array Value) (W : World) (hK : kAsks.K W l ca.toList) (hg : gAsksB l) (hG : GL W) (hM : ∃ m : Int, W.cell? ⟨2, 0, none⟩ = some (.int .i64 m)) :
    Calls Tryd.prog 10 #[.agg ca] W fun e w' => e = .returned (.bool true) ∧ Below W.heap.size W w' := by
  obtain ⟨A, c, he, hc, hC⟩ := hK
  obtain rfl : ca = #[.slice A l.length c] := by cases ca; simp_all
  exact fills A c l W hC (by have := hg.1; omega) ⟨hG, hM⟩ hg.2.2
theorem ml_of {W : World} (h : W.ShapedOpen Tryd.prog) : ∃ m : Int, W.cell? ⟨2, 0, none⟩ = some (.int .i64 m) :=
  Go.Proofs.cell_of_shapedOpen_int (zero := #[.int .i64 0]) (t := 3) h (of_decide_eq_true (by kernel_rfl)) (by kernel_rfl) rfl (by kernel_rfl) (by kernel_rfl) Tryd.underlying3
end Go.Proofs.YtdflblegdfpdpaaDoor.AnsF
end

section
/- The law MatchFills as its given card says it: for every argument that can be read as data the call returns true, and what the argument leads to reads as before; the two listed variables are tied to the program's text. Condition: the argument's bulk is at most the row's bound. -/
namespace Go.Proofs.YtdflblegdfpdpaaDoor.LawMatchFills
open Go.ChangeShapes Go.WideShapes Go.ChangeAt Go.RowKit
theorem own : ownKnob Tryd.prog.godebug = none := by kernel_rfl
theorem laidOut : laidOutB Tryd.prog = true := by kernel_rfl
set_option maxRecDepth 100000 in
theorem contract (H : Type) (enc : TypeId × Value → H) (W : World) (base : Nat) (args : Array Value) (ds gs : List (DataW H)) (before : List MemPlace)
    (hval0 : ∀ (j : Nat) t v, Tryd.f10.params[j]? = some t → args[j]? = some v → Value.okWide Tryd.prog W .any base t v)
    (hW : DataW.Whole enc Tryd.prog Tryd.f10.params.toList Rows.matchFillsSpec.vars false W args.toList ds gs before)
    (hsz0 : (DataW.weightsEach Tryd.prog (Tryd.f10.params.toList ++ (OpenSpec.ofChange Rows.matchFillsSpec).bare.plain.varTypes Tryd.prog) (ds ++ gs)).all (· ≤ reachBytes) = true) (hL : laidMetH Tryd.prog Rows.matchFillsUptoRow.laid W) (hk : Rows.uptoSmall H (ds ++ gs) = true) (hsh : W.ShapedOpen Tryd.prog) :
    Calls Tryd.prog 10 args W fun e W' => ∃ v, e = .returned v ∧ Rows.matchFillsSpec.post enc Tryd.prog Tryd.f10 false true false false W args v W' := by
  have hsz : (DataW.weightsEach Tryd.prog (Tryd.f10.params.toList ++ Rows.matchFillsSpec.plain.varTypes Tryd.prog) (ds ++ gs)).all (· ≤ reachBytes) = true := hsz0
  have hG : GlobW.GL W := AskW.gl hL
  have hval : ∀ (j : Nat) t v, Tryd.f10.params[j]? = some t → args[j]? = some v → Value.okWide Tryd.prog W .any base t v := hval0
  have hW' := hW
  obtain ⟨p, q, hA0, hV, rfl, _, _⟩ := hW
  have hA : DataW.TrodAll enc Tryd.prog W 0 (fun _ => true) true Tryd.f10.params.toList args.toList ds p := hA0
  rw [Tryd.params10] at hA hval hsz
  obtain ⟨v0, vs0, d0, ds0, p0, q0, hargs, rfl, rfl, h0, r0⟩ := trodAll_cons hA
  obtain ⟨rfl, rfl, rfl⟩ := trodAll_nil r0
  obtain rfl : args = #[v0] := by cases args; simp_all
  obtain ⟨rfl, rfl⟩ := trodVars_none hV
  have k0 := h0
  have lt0 : ∀ x ∈ p0, x.block < W.heap.size := by obtain ⟨m, hm⟩ := k0; exact DataW.trod_lt m _ _ _ hm
  have hk0 : Rows.uptoBulkAll [d0] ≤ 1048576 := OpenB.bound (by simpa only [List.append_nil] using hk)
  obtain ⟨y, hK, hg⟩ := OpenB.open_arg AskB.b_asks hsz (j := 0) rfl rfl hk0 h0
  obtain ⟨ca, rfl, _⟩ := okWide_struct Tryd.underlying60 (hval 0 _ v0 rfl rfl)
  clear hA0 hval0 hsz0 hsz
  refine (AnsF.walk y ca W hK hg hG (AnsF.ml_of hsh)).mono fun e W' ⟨he, bel⟩ => ?_
  subst he
  exact ⟨_, rfl, _, _, _, [], _, [], hW', trodAll_mk1 (shut_bool Tryd.underlying4 _), (trodAll_cons_mk (Below.trod laidOut (by kernel_rfl) (of_decide_eq_true (by kernel_rfl)) k0 bel lt0) trodAll_mk0), rfl, bel.frame _, fun h => by cases h⟩
/-- A world for the witness: the settled one, the variables holding what their initialisers lay. -/
noncomputable def laidWorld (os : Os) : World :=
  { World.holding Tryd.prog os ⟨#[], #[], []⟩ with heap := (World.holding Tryd.prog os ⟨#[], #[], []⟩).heap.modify 1 fun
      | .cells _ t frozen => .cells #[.int .u64 18446744073709551615, .int .u64 18446744073709551615, .int .u64 18446744073709551615, .int .u64 18446744073709551615] t frozen
      | o => o }
theorem laid_met (os : Os) : laidMet Tryd.prog Rows.matchFillsUptoRow.laid ((laidWorld os).forCall (fun _ _ => 0) ⟨#[], #[.agg #[.slice none 0 0]], []⟩).memory :=
  laidMet_of_run' 8 (by kernel_rfl) (by kernel_rfl)
theorem reads (os : Os) {H : Type} (enc : TypeId × Value → H) : ∃ places, DataW.whole enc Tryd.prog ((laidWorld os).forCall (fun _ _ => 0) ⟨#[], #[.agg #[.slice none 0 0]], []⟩).memory Tryd.f10.params.toList Rows.matchFillsSpec.vars false (#[.agg #[.slice none 0 0]] : Array Value).toList 8 = some ([.agg [.nil]], [], places) :=
  ⟨[], by kernel_rfl⟩
set_option maxRecDepth 100000 in
theorem lifted (os : Os) (started : os.Started) (H : Type) (enc : TypeId × Value → H) (F : Stop.Interp) :
    ReturnsInHanded {} Tryd.checked os 10 .any ((Rows.OpenSpec.upto Rows.matchFillsSpec).preRow enc Tryd.prog Tryd.f10 Rows.matchFillsUptoRow.domain false Rows.matchFillsUptoRow.laid) (((Rows.OpenSpec.upto Rows.matchFillsSpec).at F).post enc Tryd.prog Tryd.f10 false true false false) := by
  obtain ⟨places, hx⟩ := reads os enc
  refine returnsInHanded_of_row (C := Tryd.checked) (s := Rows.OpenSpec.upto Rows.matchFillsSpec) own started (by kernel_rfl) Tryd.func10
    (witness_row_at (enc := enc) (C := Tryd.checked) false (laidWorld os) #[.agg #[.slice none 0 0]] rfl (by kernel_rfl) (by kernel_rfl) (by kernel_rfl)
      (OpenSpec.preRow_of_cond 8 hx (by kernel_rfl) (fun k hk => by cases hk; kernel_rfl) (by kernel_rfl) (laid_met os))) ?_
  intro W base args ds gs before hval hW _ hcond hsz hL hsh _
  exact contract H enc W base args ds gs before hval hW hsz hL (hcond _ rfl) hsh
theorem said : Rows.MatchFillsUptoSaid :=
  OpenClaim.holds_of_cond 10 Tryd.f10 rfl rfl rfl rfl rfl rfl rfl ⟨rfl, rfl, rfl, rfl, rfl⟩ rfl rfl rfl rfl rfl (by kernel_rfl) Tryd.func10 (by kernel_rfl)
    (of_decide_eq_true (by kernel_rfl)) (by unfold Func.isWrapper; first | (rw [if_pos (by decide +kernel)]; kernel_rfl) | (rw [if_neg (by decide +kernel)]; exact ⟨rfl, rfl⟩))
    (fun os started H enc _ F => by rw [OpenClaim.pre_eq_preRow]; exact lifted os started H enc F)
theorem plain (f : FuncId) (fn : Func) (hf : Tryd.pinned.checked.prog.funcNamed "larder/larderlaw9.MatchFills" = some f) (hfn : Tryd.pinned.checked.prog.funcs[f]? = some fn) :
    false = Tryd.pinned.checked.prog.looks [] ∧ ∀ (j : Nat) t, fn.params[j]? = some t → Tryd.pinned.checked.prog.wantsStandIn t = false := by
  obtain rfl : f = 10 := Option.some.inj ((show Tryd.prog.funcNamed "larder/larderlaw9.MatchFills" = some 10 by kernel_rfl).symm.trans hf) |>.symm
  obtain rfl : fn = Tryd.f10 := (Option.some.inj (Tryd.func10.symm.trans hfn)).symm
  refine ⟨by kernel_rfl, fun j t ht => ?_⟩
  rw [Tryd.params10] at ht
  obtain rfl : t = 60 := by simpa using Array.mem_of_getElem? ht
  exact (show Tryd.prog.wantsStandIn 60 = false by kernel_rfl)
theorem card : Rows.MatchFillsUptoCardSaid :=
  Claim7.holds_tied_plain_at .later [] _ _ _ _ said (fun _ h => by cases h) (by kernel_rfl) (fun _ h => by cases h) matchFillsUpto_row_tie rfl ⟨rfl, rfl⟩ (by kernel_rfl) rfl plain (by kernel_rfl)
#print axioms card
end Go.Proofs.YtdflblegdfpdpaaDoor.LawMatchFills
namespace Go.Proofs.YtdflblegdfpdpaaDoor
/-- The card, under a short name, for the claim. -/
theorem matchFills_holds : Rows.MatchFillsUptoCardSaid := LawMatchFills.card
end Go.Proofs.YtdflblegdfpdpaaDoor
end
