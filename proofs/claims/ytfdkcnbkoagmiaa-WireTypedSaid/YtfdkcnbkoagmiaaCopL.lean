/- larderref0.Copy: a row of bytes of the call's own. (Out of CopyW.) -/
import Derived.Test.YtfdkcnbkoagmiaaOwnL
import Derived.Laws.CopyOwn
import Derived.Laws.MakeOwn
import Derived.Laws.OwnMore
namespace Go.Proofs.Ytfdkcnbkoagmiaa.CopL
open Go Go.RowKit Go.Proofs.YtfdkcnbkoagmiaaW.PrintWords Go.Proofs.YtfdkcnbkoagmiaaW.PrintLast Go.Proofs.YtfdkcnbkoagmiaaW.PrintMore Go.Proofs.Ytfdkcnbkoagmiaa.RowU Go.Proofs.Ytfdkcnbkoagmiaa.ArS Go.Proofs.Ytfdkcnbkoagmiaa.ArM Go.Proofs.Ytfdkcnbkoagmiaa.GenM Go.Proofs.Ytfdkcnbkoagmiaa.OwnL
set_option linter.unusedVariables false
set_option maxRecDepth 100000

theorem infoB : ∃ i, Try.prog.info? 5 = some i ∧ i.zero = some (.int .u8 0) ∧ i.size = 1 ∧ i.bytes = 1 := by
  have h : (Try.prog.info? 5).map (fun i => (i.zero, i.size, i.bytes)) = some (some (.int .u8 0), 1, 1) := by kernel_rfl
  obtain ⟨i, hi, hz⟩ := Option.map_eq_some_iff.1 h
  simp only [Prod.mk.injEq] at hz
  exact ⟨i, hi, hz.1, hz.2.1, hz.2.2⟩
/-- A whole block of bytes that begins with a list. -/
def RowAt (W : World) (g cap : Nat) (l : List Int) : Prop :=
  ∃ cur : List Value, W.heap[g]? = some (.cells cur.toArray 5 (0, 0)) ∧ cur.length = cap ∧ l.length ≤ cap ∧ l.length ≤ maxLen ∧ cur.take l.length = l.map (Value.int .u8)
theorem row_made (w : World) (n : Nat) (hn : n ≤ maxLen) : RowAt (w.alloc (.cells (madeCells #[.int .u8 0] n) 5)) w.heap.size n (List.replicate n 0) := by
  refine ⟨List.replicate n (.int .u8 0), ?_, by simp, by simp, by simpa using hn, by simp⟩
  have := blk_new w (.cells (madeCells #[.int .u8 0] n) 5)
  rw [this]
  congr 2
  apply Array.toList_inj.1
  rw [toList_madeCells_one]

theorem make_u8 (n : Nat) (hn : n ≤ 140737488355328) (u : World) : (Instr.makeSlice 26 (.int .i64 (n : Int)) (.int .i64 (n : Int))).run Try.prog u =
    .ok (.slice (some ⟨u.heap.size, 0, none⟩) n n) (u.alloc (.cells (madeCells #[.int .u8 0] n) 5)) := by
  obtain ⟨i0, hi, hz0, hz1, hz2⟩ := infoB
  have h := run_make (P := Try.prog) u 26 5 i0 (.int .u8 0) Try.underlying26 hi hz0 .i64 .i64 (n : Int) (n : Int) (by omega) (Int.le_refl _) (by rw [hz2]; omega) (by omega)
  simpa [hz1, Value.cells] using h

theorem srcs {w : World} {A : Option Addr} {l : List Int} (h : Kd.C (Kd.int .u8) w A l.length l) (h0 : 0 < l.length) : ∃ ad, A = some ad ∧ ∀ j v, (l.map (Value.int .u8))[j]? = some v → w.cell? (ad.add j) = some v := by
  obtain ⟨ad, e, hc⟩ := h.2.2 h0
  refine ⟨ad, e, fun j v hv => ?_⟩
  rw [List.getElem?_map] at hv
  obtain ⟨q, hq, rfl⟩ := Option.map_eq_some_iff.1 hv
  obtain ⟨cs, c1, c2, c3⟩ := hc j q hq
  have c4 : cs = [Value.int .u8 q] := c2
  subst c4
  have := c3 0 _ rfl
  rw [show (Kd.int .u8).sz = 1 from rfl, Nat.mul_one, Nat.add_zero] at this
  exact this
theorem copy_run {w0 w1 : World} {base g d c : Nat} {A : Option Addr} {l : List Int} {cur : List Value} {ty : TypeId} (HB : Below base w0 w1) (hg : base ≤ g) (hrow : w1.heap[g]? = some (.cells cur.toArray 5 (0, 0))) (hn : cur.length = l.length) (hr : Kd.C (Kd.int .u8) w1 A l.length l) :
    ∃ w2, (Builtin.copy_ #[26, 26] ty #[.slice (some ⟨g, 0, none⟩) l.length d, .slice A l.length c]).run Try.prog w1 = .ok (.int .i64 l.length) w2 ∧ w2.heap[g]? = some (.cells (l.map (Value.int .u8)).toArray 5 (0, 0)) ∧ Below base w0 w2 := by
  have hs : (Try.prog.info? 5).map (·.size) = some 1 := by obtain ⟨i, hi, _, h2, _⟩ := infoB; rw [hi]; exact congrArg some h2
  by_cases h0 : l.length = 0
  · obtain rfl : l = [] := List.eq_nil_of_length_eq_zero h0
    obtain rfl : cur = [] := List.eq_nil_of_length_eq_zero hn
    exact ⟨w1, run_copy_none (P := Try.prog) w1 _ _ ty _ _ A _ d _ c Try.underlying26 hs rfl, hrow, HB⟩
  · obtain ⟨ad, rfl, hsrc⟩ := srcs hr (by omega)
    have := run_copy_row (P := Try.prog) w1 26 26 ty 5 g 0 l.length d ad l.length c cur.toArray 5 (l.map (Value.int .u8)) Try.underlying26 hs hrow (by rw [List.length_map]; exact (Nat.min_self _).symm) hsrc (by simp; omega) (fun v hv => by obtain ⟨y, _, rfl⟩ := List.mem_map.1 hv; rfl)
    rw [show goInt ((l.map (Value.int .u8)).length : Int) = .int .i64 l.length by simp [goInt]] at this
    refine ⟨_, this, ?_, below_setRow HB hg _⟩
    rw [setRow_heap _ _ _ _ _ _ hrow]
    congr 2
    simp [hn]
set_option maxHeartbeats 1600000 in
theorem copy.calls (A : Option Addr) (c : Nat) (l : List Int) (w : World) (hr : Kd.C (Kd.int .u8) w A l.length l) (hl : l.length ≤ 140737488355328) :
    Calls Try.prog 33 #[.slice A l.length c] w fun e w' => ∃ g, e = .returned (.slice (some ⟨g, 0, none⟩) l.length l.length) ∧ w.heap.size ≤ g ∧ RowAt w' g l.length l ∧ Below w.heap.size w w' := by
  have hmk := make_u8 l.length hl
  have HR := Aside0.mk hr
  have HM := Aside0.mk (row_made w l.length (by unfold maxLen; omega))
  have HSZ : Aside0 ((Try.prog.info? 5).map (·.size) = some 1) := ⟨by obtain ⟨i, hi, _, h2, _⟩ := infoB; rw [hi]; exact congrArg some h2⟩
  clear hr
  go_enter Try.func33, Try.ntmps33
  go_upto_region 2 with fail
  have HB := Aside0.mk (below_alloc (Below.refl w.heap.size w) (.cells (madeCells #[.int .u8 0] l.length) 5))
  have HR1 := Aside0.mk (Kd.C_below HR.out HB.out)
  clear hmk HR
  generalize w.alloc (.cells (madeCells #[.int .u8 0] l.length) 5) = w1 at *
  obtain ⟨g, hg⟩ : ∃ g, g = w.heap.size := ⟨_, rfl⟩
  rw [← hg] at HM
  rw [← hg]
  have HGG := Aside0.mk hg
  clear hg
  obtain ⟨cur, h1, h2, h3, h4, h5⟩ := HM.out
  have HC1 := Aside0.mk h1
  have HC2 := Aside0.mk h2
  clear h1 h2 h3 h4 h5 HM
  obtain ⟨w2, hrun, hrow, hb⟩ := copy_run (ty := 3) HB.out (by rw [HGG.out]; exact Nat.le_refl _) HC1.out HC2.out HR1.out (c := c) (d := l.length)
  have HROW := Aside0.mk hrow
  have HB2 := Aside0.mk hb
  clear hb hrow HC1 HC2 HR1 HB
  go_wp2_with fail
  go_ret
  exact ⟨g, rfl, by rw [HGG.out]; exact Nat.le_refl _, ⟨l.map (Value.int .u8), HROW.out, List.length_map _, Nat.le_refl _, by unfold maxLen; omega, List.take_of_length_le (by rw [List.length_map]; exact Nat.le_refl _)⟩, HB2.out⟩

theorem copyB.calls (A : Option Addr) (c : Nat) (l : List Int) (w : World) (hr : Kd.C (Kd.int .u8) w A l.length l) (hl : l.length ≤ 140737488355328) :
    Calls Try.prog 33 #[.slice A l.length c] w fun e w' => ∃ g, e = .returned (.slice (some ⟨g, 0, none⟩) l.length l.length) ∧ w.heap.size ≤ g ∧ BtR w' (.slice (some ⟨g, 0, none⟩) l.length l.length) l (oc (.slice (some ⟨g, 0, none⟩) l.length l.length)) ∧ Below w.heap.size w w' :=
  (copy.calls A c l w hr hl).mono fun e w' ⟨g, h1, h2, ⟨cur, r1, r2, r3, r4, r5⟩, h4⟩ => ⟨g, h1, h2, ⟨.inr ⟨g, l.length, by rw [List.length_map], cur, r1, r2, by rw [List.length_map]; omega, by omega, by rw [List.length_map]; exact r5⟩, fun _ => rfl⟩, h4⟩
end Go.Proofs.Ytfdkcnbkoagmiaa.CopL
