/- Whole blocks of words; a block that begins with a list of words. No function of the program. -/
import Derived.Test.YtfdkcnbkoagmiaaWMore
import Derived.Test.YtfdkcnbkoagmiaaProg
import Derived.Test.YtfdkcnbkoagmiaaNumA
import Derived.WalkKit
import Derived.Laws.Shifts
import Derived.Lib.Hide
import Derived.Laws.MakeOwn
import Derived.Laws.OwnMore
import Derived.KernelRfl
namespace Go.Proofs.Ytfdkcnbkoagmiaa.RowU
open Go Go.RowKit Go.Proofs.YtfdkcnbkoagmiaaW.PrintWords Go.Proofs.YtfdkcnbkoagmiaaW.PrintLast Go.Proofs.YtfdkcnbkoagmiaaW.PrintMore
set_option linter.unusedVariables false
set_option maxRecDepth 100000

theorem below_next {w w5 wr : World} (h : Below w.heap.size w w5) (h2 : Below w5.heap.size w5 wr) : Below w.heap.size w wr := h.trans ⟨h2.os, h2.tape, h2.output, h2.size, fun k hk => h2.block k (Nat.lt_of_lt_of_le hk h.size)⟩
theorem below_put {B : Nat} {w wr : World} (h : Below B w wr) {g : Nat} (hg : B ≤ g) (j : Nat) (v : Value) : Below B w (wr.setCell ⟨g, j, none⟩ v) :=
  ⟨h.os, h.tape, h.output, by have := h.size; simpa [World.setCell] using this, fun k hk => (Below.heap_setCell wr _ _ k (by show k ≠ g; omega)).trans (h.block k hk)⟩
/-- A word as a value. -/
def u64 (x : Nat) : Value := .int .u64 (x : Int)
/-- A whole block of words that begins with a list. -/
def WordsAt (W : World) (g cap : Nat) (l : List Nat) : Prop :=
  ∃ cur : List Value, W.heap[g]? = some (.cells cur.toArray 118 (0, 0)) ∧ cur.length = cap ∧ l.length ≤ cap ∧ cap ≤ maxLen ∧ cur.take l.length = l.map u64
theorem WordsAt.get {W : World} {g cap : Nat} {l : List Nat} (h : WordsAt W g cap l) (j : Nat) (x : Nat) (hx : l[j]? = some x) : W.cell? ⟨g, j, none⟩ = some (.int .u64 (x : Int)) := by
  obtain ⟨cur, h1, h2, h3, _, h4⟩ := h
  have hj : j < l.length := (List.getElem?_eq_some_iff.1 hx).1
  have : cur.toArray[j]? = some (u64 x) := by
    have h5 := congrArg (fun r => r[j]?) h4
    simp only [List.getElem?_take, if_pos hj, List.getElem?_map, hx, Option.map_some] at h5
    simpa using h5
  exact (blk_cell h1 j).trans this
theorem WordsAt.below {W W' : World} {g cap : Nat} {l : List Nat} (h : WordsAt W g cap l) (hb : Below W.heap.size W W') : WordsAt W' g cap l := by
  obtain ⟨cur, h1, h2⟩ := h
  exact ⟨cur, blk_below h1 hb, h2⟩
theorem WordsAt.frozen {W : World} {g cap : Nat} {l : List Nat} (h : WordsAt W g cap l) (j : Nat) : W.frozen? ⟨g, j, none⟩ = false := by
  obtain ⟨cur, h1, h2⟩ := h
  exact blk_frozen h1 j
theorem WordsAt.set {W : World} {g cap : Nat} {l : List Nat} (h : WordsAt W g cap l) (j : Nat) (hj : j < l.length) (y : Nat) : WordsAt (W.setCell ⟨g, j, none⟩ (.int .u64 (y : Int))) g cap (l.set j y) := by
  obtain ⟨cur, h1, h2, h3, h5, h4⟩ := h
  refine ⟨cur.set j (u64 y), ?_, by simpa using h2, by simpa using h3, h5, ?_⟩
  · have := blk_set h1 j (u64 y)
    rw [List.setIfInBounds_toArray] at this
    exact this
  · rw [List.length_set, List.take_set, h4, List.map_set]
theorem WordsAt.other {W : World} {g g' cap : Nat} {l : List Nat} (h : WordsAt W g cap l) (hg : g ≠ g') (k : Nat) (v : Value) : WordsAt (W.setCell ⟨g', k, none⟩ v) g cap l := by
  obtain ⟨cur, h1, h2⟩ := h
  exact ⟨cur, by rw [Below.heap_setCell W _ _ g hg]; exact h1, h2⟩
theorem cell_lt {W : World} {g : Nat} {o : Obj} (h : W.heap[g]? = some o) : g < W.heap.size := by
  rcases Nat.lt_or_ge g W.heap.size with h1 | h1
  · exact h1
  · rw [Array.getElem?_eq_none h1] at h; cases h
theorem infoU : ∃ i, Try.prog.info? 118 = some i ∧ i.zero = some (.int .u64 0) ∧ i.size = 1 ∧ i.bytes = 8 := by
  have h : (Try.prog.info? 118).map (fun i => (i.zero, i.size, i.bytes)) = some (some (.int .u64 0), 1, 8) := by kernel_rfl
  obtain ⟨i, hi, hz⟩ := Option.map_eq_some_iff.1 h
  simp only [Prod.mk.injEq] at hz
  exact ⟨i, hi, hz.1, hz.2.1, hz.2.2⟩
theorem make_u64 (n : Nat) (hn : n ≤ 10000000000000) (u : World) : (Instr.makeSlice 117 (.int .i64 (n : Int)) (.int .i64 (n : Int))).run Try.prog u =
    .ok (.slice (some ⟨u.heap.size, 0, none⟩) n n) (u.alloc (.cells (madeCells #[.int .u64 0] n) 118)) := by
  obtain ⟨i0, hi, hz0, hz1, hz2⟩ := infoU
  have h := run_make (P := Try.prog) u 117 118 i0 (.int .u64 0) Try.underlying117 hi hz0 .i64 .i64 (n : Int) (n : Int) (by omega) (Int.le_refl _) (by rw [hz2]; omega) (by omega)
  simpa [hz1, Value.cells] using h
theorem words_made (w : World) (n : Nat) (hn : n ≤ maxLen) : WordsAt (w.alloc (.cells (madeCells #[.int .u64 0] n) 118)) w.heap.size n (List.replicate n 0) := by
  refine ⟨List.replicate n (.int .u64 0), ?_, by simp, by simp, hn, by simp [u64]⟩
  have := blk_new w (.cells (madeCells #[.int .u64 0] n) 118)
  rw [this]
  congr 2
  apply Array.toList_inj.1
  rw [toList_madeCells_one]

/-- One bit of a word, as the code asks for it. -/
theorem bit_of (x k : Nat) (hx : x < 18446744073709551616) : (bits BinOp.and IntKind.u64 ((x : Int) / 2 ^ k) 1 == 1) = x.testBit k := by
  have e1 : (x : Int) / 2 ^ k = ((x / 2 ^ k : Nat) : Int) := by rw [Int.natCast_ediv]; rw [Int.natCast_pow]; rfl
  have e2 := bits_mask .u64 64 (by decide) (fun n h0 h1 => by rw [IntKind.wrap_u64]; omega) 1 (by decide) ((x / 2 ^ k : Nat) : Int) (Int.natCast_nonneg _) (by have : x / 2 ^ k ≤ x := Nat.div_le_self _ _; generalize x / 2 ^ k = y at this; omega)
  rw [show ((2 : Int) ^ 1 - 1) = 1 by decide] at e2
  rw [e1, e2, Nat.testBit_eq_decide_div_mod_eq, Bool.eq_iff_iff]
  simp
  omega
end Go.Proofs.Ytfdkcnbkoagmiaa.RowU
