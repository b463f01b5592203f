/- match.Score and match.Lex: the machine's calls. -/
import Derived.Test.YtdflblegdfpdpaaDoorIntW
import Derived.Test.YtdflblegdfpdpaaDoorMembW
import Derived.Lib.ConvBytes
import Derived.Lib.SlBytesConst
import Derived.Lib.SliceRun
import Derived.Lib.Hide
import Derived.Laws.ResultCell
import Derived.Laws.Rows
namespace Go.Proofs.YtdflblegdfpdpaaDoor.ScoreW
open Go Go.RowKit Go.Proofs.YtdflblegdfpdpaaDoorW.PrintWords Go.Proofs.YtdflblegdfpdpaaDoorW.PrintLast Go.Proofs.YtdflblegdfpdpaaDoorW.PrintMore Go.Proofs.YtdflblegdfpdpaaDoor.NumS
set_option linter.unusedVariables false
set_option maxRecDepth 100000

def inB (l : List Int) : Prop := ∀ x ∈ l, 0 ≤ x ∧ x < 256
theorem str_eq (a b : List Int) (ha : inB a) (hb : inB b) : ((strOfNums a).toList == (strOfNums b).toList) = decide (a = b) := by
  have e : ∀ l : List Int, (strOfNums l).toList = l.map fun x => (x.toNat.toUInt8) := by
    intro l
    simp [strOfNums]
  rw [e, e, Bool.eq_iff_iff, beq_iff_eq, decide_eq_true_iff]
  constructor
  · intro h
    have hl : a.length = b.length := by simpa using congrArg List.length h
    apply List.ext_getElem hl
    intro i h1 h2
    have h3 := congrArg (fun l => l[i]?) h
    simp only [List.getElem?_map, List.getElem?_eq_getElem h1, List.getElem?_eq_getElem h2, Option.map_some, Option.some.injEq] at h3
    have h4 := ha _ (List.getElem_mem h1)
    have h5 := hb _ (List.getElem_mem h2)
    have h6 := congrArg UInt8.toNat h3
    simp at h6
    omega
  · rintro rfl; rfl

set_option maxHeartbeats 800000 in
theorem equal.calls (A : Option Addr) (c : Nat) (l : List Int) (A1 : Option Addr) (c1 : Nat) (l1 : List Int) (w : World) (hr : Kd.C (Kd.int .u8) w A l.length l) (hr1 : Kd.C (Kd.int .u8) w A1 l1.length l1) (hb : inB l) (hb1 : inB l1) :
    Calls Tryd.prog 54 #[.slice A l.length c, .slice A1 l1.length c1] w fun e w' => e = .returned (.bool (decide (l = l1))) ∧ w' = w := by
  have hs0 := Kd.C_string (c := c) Tryd.underlying22 Tryd.underlying5 Tryd.underlying9 hr
  have hs1 := Kd.C_string (c := c1) Tryd.underlying22 Tryd.underlying5 Tryd.underlying9 hr1
  have HE := Lib.hid (str_eq l l1 hb hb1)
  clear hr hr1 hb hb1
  go_enter Tryd.func54, Tryd.ntmps54
  go_wp2
  go_ret
  exact ⟨congrArg (fun b => Ending.returned (.bool b)) HE.out, rfl⟩

theorem cut_take {w : World} (l : List Int) (A : Option Addr) (c : Nat) (hC : Kd.C (Kd.int .u8) w A l.length l) (hc : l.length ≤ c) (m : Nat) (hm : m ≤ l.length) :
    (∀ W : World, (Instr.slice 22 (.slice A l.length c) none (some (.int .i64 (m : Int))) none).run Tryd.prog W = .ok (.slice A (l.take m).length c) W) ∧ Kd.C (Kd.int .u8) w A (l.take m).length (l.take m) := by
  obtain ⟨i, hi, hz⟩ : ∃ i, Tryd.prog.info? 5 = some i ∧ i.size = 1 := by
    obtain ⟨i, hi, hz⟩ := Option.map_eq_some_iff.1 PB.spi
    simp only [Prod.mk.injEq] at hz
    exact ⟨i, hi, hz.2.1⟩
  obtain ⟨h1, h2, _⟩ := print_take_of (P := Tryd.prog) (Value.int .u8) (0 : Int) 22 5 .i64 Tryd.underlying22 hi hz A c l m (by omega) (by omega) hc
  rw [Int.toNat_natCast] at h1 h2
  exact ⟨h1, Kd.C_of_reads (d := (0 : Int)) (h1 := fun _ => rfl) (h2 w (Kd.reads_of_C (d := (0 : Int)) (h1 := fun _ => rfl) hC))⟩

set_option maxHeartbeats 800000 in
theorem hasPrefix.calls (A : Option Addr) (c : Nat) (l : List Int) (A1 : Option Addr) (c1 : Nat) (l1 : List Int) (w : World) (hr : Kd.C (Kd.int .u8) w A l.length l) (hc : l.length ≤ c) (hr1 : Kd.C (Kd.int .u8) w A1 l1.length l1) (hb : inB l) (hb1 : inB l1) :
    Calls Tryd.prog 40 #[.slice A l.length c, .slice A1 l1.length c1] w fun e w' => e = .returned (.bool (decide (l.take l1.length = l1))) ∧ w' = w := by
  have hlen := hr.2.1
  by_cases hle : l1.length ≤ l.length
  · have d1 : decide ((l1.length : Int) ≤ l.length) = true := decide_eq_true (by omega)
    have d1' : decide (l1.length ≤ l.length) = true := decide_eq_true hle
    obtain ⟨hrun, hC⟩ := cut_take l A c hr hc l1.length hle
    have heq := equal.calls A c (l.take l1.length) A1 c1 l1 w hC hr1 (fun x hx => hb x (List.mem_of_mem_take hx)) hb1
    have HH := Lib.hid (rfl : decide (l.take l1.length = l1) = decide (l.take l1.length = l1))
    generalize l.take l1.length = y at *
    clear hC hr hr1 hb hb1 HH
    go_enter Tryd.func40, Tryd.ntmps40
    go_wp2_with fail
    refine heq.mono ?_
    rintro e w' ⟨rfl, rfl⟩
    go_wp2
    go_ret
    exact ⟨rfl, rfl⟩
  · have d1 : decide ((l1.length : Int) ≤ l.length) = false := decide_eq_false (by omega)
    have d1' : decide (l1.length ≤ l.length) = false := decide_eq_false hle
    have HF := Lib.hid (show decide (l.take l1.length = l1) = false from decide_eq_false (fun h => by have := congrArg List.length h; rw [List.length_take] at this; omega))
    clear hr hr1 hb hb1
    go_enter Tryd.func40, Tryd.ntmps40
    go_wp2
    go_ret
    exact ⟨congrArg (fun b => Ending.returned (.bool b)) HF.out.symm, rfl⟩

theorem cut_drop2 (l : List Int) (A : Option Addr) (c : Nat) (hc : l.length ≤ c) (m : Nat) (hm : m ≤ l.length) :
    ∃ A' : Option Addr, (∀ W : World, (Instr.slice 22 (.slice A l.length c) (some (.int .i64 (m : Int))) none none).run Tryd.prog W = .ok (.slice A' (l.drop m).length (c - m)) W) ∧ (∀ w : World, Kd.C (Kd.int .u8) w A l.length l → Kd.C (Kd.int .u8) w A' (l.drop m).length (l.drop m)) ∧ (l.drop m).length ≤ c - m := by
  obtain ⟨i, hi, hz⟩ : ∃ i, Tryd.prog.info? 5 = some i ∧ i.size = 1 := by
    obtain ⟨i, hi, hz⟩ := Option.map_eq_some_iff.1 PB.spi
    simp only [Prod.mk.injEq] at hz
    exact ⟨i, hi, hz.2.1⟩
  obtain ⟨A', h1, h2, h3⟩ := print_drop_of (P := Tryd.prog) (Value.int .u8) (0 : Int) 22 5 .i64 Tryd.underlying22 hi hz A c l m (by omega) (by omega) hc
  rw [Int.toNat_natCast] at h1 h2 h3
  exact ⟨A', h1, fun w hC => Kd.C_of_reads (d := (0 : Int)) (h1 := fun _ => rfl) (h2 w (Kd.reads_of_C (d := (0 : Int)) (h1 := fun _ => rfl) hC)), h3⟩

set_option maxHeartbeats 800000 in
/-- CutPrefix with one byte. -/
theorem cutOne.calls (A : Option Addr) (c : Nat) (l : List Int) (A1 : Option Addr) (c1 : Nat) (x : Int) (w : World) (hr : Kd.C (Kd.int .u8) w A l.length l) (hc : l.length ≤ c) (hr1 : Kd.C (Kd.int .u8) w A1 1 [x]) (hb : inB l) (hx : 0 ≤ x ∧ x < 256) :
    Calls Tryd.prog 31 #[.slice A l.length c, .slice A1 1 c1] w fun e w' => (∃ A' c' b o, o = decide (l.take 1 = [x]) ∧ b = (if o then l.drop 1 else l) ∧ e = .returned (.tuple #[.slice A' b.length c', .bool o]) ∧ (∀ W, Kd.C (Kd.int .u8) W A l.length l → Kd.C (Kd.int .u8) W A' b.length b) ∧ b.length ≤ c') ∧ w' = w := by
  have hlen := hr.2.1
  have hp := hasPrefix.calls A c l A1 c1 [x] w hr hc hr1 hb (fun y hy => by rw [List.mem_singleton.1 hy]; exact hx)
  have hp : Calls Tryd.prog 40 #[.slice A l.length c, .slice A1 1 c1] w fun e w' => e = .returned (.bool (decide (l.take 1 = [x]))) ∧ w' = w := hp
  cases ho : decide (l.take 1 = [x])
  · have HR := Lib.hid hr
    rw [ho] at hp
    clear hr ho hr1 hb
    go_enter Tryd.func31, Tryd.ntmps31
    go_wp2_with fail
    refine hp.mono ?_
    rintro e w' ⟨rfl, rfl⟩
    go_wp2
    go_ret2
    exact ⟨⟨A, c, l, false, rfl, rfl, rfl, fun _ h => h, hc⟩, rfl⟩
  · have hl1 : 1 ≤ l.length := by have := congrArg List.length (of_decide_eq_true ho); rw [List.length_take, List.length_singleton] at this; omega
    obtain ⟨A', hrun, hC1, hl1'⟩ := cut_drop2 l A c hc 1 hl1
    have HC1 := Lib.hid hC1
    rw [ho] at hp
    have HY := Lib.hid (rfl : l.drop 1 = l.drop 1)
    generalize hy : l.drop 1 = y at *
    have hrun : ∀ W : World, (Instr.slice 22 (.slice A l.length c) (some (.int .i64 1)) none none).run Tryd.prog W = .ok (.slice A' y.length (c - 1)) W := hrun
    clear hr ho hr1 hb hC1
    go_enter Tryd.func31, Tryd.ntmps31
    go_wp2_with fail
    refine hp.mono ?_
    rintro e w' ⟨rfl, rfl⟩
    go_wp2
    go_ret2
    exact ⟨⟨A', c - 1, y, true, rfl, rfl, rfl, HC1.out, hl1'⟩, rfl⟩

def minusInf : List Int := [45, 105, 110, 102]
def inf : List Int := [105, 110, 102]
def plusInf : List Int := [43, 105, 110, 102]
/-- Far, Score, Open, the error. -/
def scoreB (b : List Int) (o : Bool) : Int × Int × Bool × Int :=
  if b = minusInf then (-1, 0, false, 0) else if b = inf then (1, 0, false, 0) else if b = plusInf then (1, 0, false, 0) else if (intS b).2 = 0 then (0, (intS b).1, o, 0) else (0, 0, false, 90)
def scoreS (l : List Int) : Int × Int × Bool × Int := scoreB (if decide (l.take 1 = [40]) then l.drop 1 else l) (decide (l.take 1 = [40]))
theorem str_is (b : List Int) (hb : inB b) (s : List Int) (hs : inB s) (u : List UInt8) (hu : (strOfNums s).toList = u) : ((strOfNums b).toList == u) = decide (b = s) := by rw [← hu]; exact str_eq b s hb hs

theorem size_alloc (W : World) (o : Obj) : (W.alloc o).heap.size = W.heap.size + 1 := by
  show (W.heap.push o).size = _
  simp
theorem conv_at {w : World} (g : Nat) (hg : w.heap.size = g) (C : Array Value) (n c : Nat) :
    (convert 22 22 (.slice (some ⟨g, 0, none⟩) n c)).run Tryd.prog (w.alloc (.cells C 5)) = .ok (.slice (some ⟨g, 0, none⟩) n c) (w.alloc (.cells C 5 (C.size, C.size + 1))) := by
  subst hg
  exact Lib.run_convert_bytes_const (P := Tryd.prog) w 22 5 C n c Tryd.underlying22 Tryd.underlying5
theorem got_const (W : World) (g : Nat) (hg : W.heap.size = g) (l : List Int) (f : Nat × Nat) (hl : l.length ≤ 9223372036854775807) : Kd.C (Kd.int .u8) (W.alloc (.cells (l.map (Value.int .u8)).toArray 5 f)) (some ⟨g, 0, none⟩) l.length l := by
  subst hg
  refine ⟨rfl, hl, fun _ => ⟨_, rfl, fun i p hp => ⟨[.int .u8 p], rfl, rfl, fun u x hx => ?_⟩⟩⟩
  obtain ⟨hi, hp'⟩ := List.getElem?_eq_some_iff.1 hp
  cases u with
  | zero =>
    injection hx with hx
    subst hx
    rw [show (Kd.int .u8).sz = 1 from rfl, Nat.mul_one, Nat.add_zero, show (⟨W.heap.size, 0, none⟩ : Addr).add i = ⟨W.heap.size, 0 + i, none⟩ from by unfold Addr.add; split <;> simp_all, Nat.zero_add]
    have hb : (W.alloc (.cells (l.map (Value.int .u8)).toArray 5 f)).heap[W.heap.size]? = some (.cells (l.map (Value.int .u8)).toArray 5 f) := heap_alloc_new W _
    rw [cell_of_row _ _ _ _ _ _ hb]
    simp [hp]
  | succ u => simp at hx

set_option maxHeartbeats 1600000 in
theorem score.calls (A : Option Addr) (c : Nat) (l : List Int) (w : World) (hr : Kd.C (Kd.int .u8) w A l.length l) (hc : l.length ≤ c) (hb : inB l) :
    Calls Tryd.prog 21 #[.slice A l.length c] w fun e w' => e = .returned (.tuple #[.agg #[.int .i64 (scoreS l).1, .int .i64 (scoreS l).2.1, .bool (scoreS l).2.2.1], .int .i64 (scoreS l).2.2.2]) ∧ Below w.heap.size w w' := by
  have hcc := conv_at (w := (w.alloc (.cells #[.int .i64 0, .int .i64 0, .bool false] 41)).alloc (.cells #[.int .i64 0, .int .i64 0, .bool false] 41)) (w.heap.size + 1 + 1) (by rw [size_alloc, size_alloc]) #[.int .u8 40] 1 1
  have HR := Aside0.mk hr
  have HI := Aside0.mk hb
  have HB := Aside0.mk (Below.refl w.heap.size w)
  clear hr hb
  go_enter Tryd.func21, Tryd.ntmps21
  go_wp2_with fail
  refine (cutOne.calls A c l _ 1 40 _ (Kd.C_alloc (Kd.C_alloc (Kd.C_alloc HR.out _) _) _) hc ?one HI.out (by decide)).mono ?_
  case one => exact got_const _ _ (by rw [size_alloc, size_alloc]) [40] _ (by decide)
  rintro e w6 ⟨⟨A', c', b, o, ho, hbb, rfl, hC, hc'⟩, rfl⟩
  have HS := Aside0.mk (show scoreS l = scoreB b o by unfold scoreS; rw [← ho, ← hbb])
  have hbi : inB b := by
    rw [hbb]
    split
    · exact fun x hx => HI.out x (List.mem_of_mem_drop hx)
    · exact HI.out
  have HC := Aside0.mk hC
  have HBI := Aside0.mk hbi
  have e1 := str_is b hbi minusInf (by unfold inB minusInf; decide) [45, 105, 110, 102] (by simp [strOfNums, minusInf])
  have e2 := str_is b hbi inf (by unfold inB inf; decide) [105, 110, 102] (by simp [strOfNums, inf])
  have e3 := str_is b hbi plusInf (by unfold inB plusInf; decide) [43, 105, 110, 102] (by simp [strOfNums, plusInf])
  clear ho hbb hcc hC hbi
  have hs := Kd.C_string (P := Tryd.prog) (w := ((w.alloc (.cells #[.int .i64 0, .int .i64 0, .bool false] 41)).alloc (.cells #[.int .i64 0, .int .i64 0, .bool o] 41)).alloc (.cells #[.int .u8 40] 5 (1, 2))) (A := A') (c := c') Tryd.underlying22 Tryd.underlying5 Tryd.underlying9 (HC.out _ (Kd.C_alloc (Kd.C_alloc (Kd.C_alloc HR.out _) _) _))
  have hsz := Lib.hid (strOfNums_size b)
  by_cases h1 : b = minusInf
  · have d1 : decide (b = minusInf) = true := decide_eq_true h1
    rw [d1] at e1
    have HH := Aside0.mk h1
    clear h1 d1 e2 e3
    have HV := Aside0.mk (show scoreB b o = (-1, 0, false, 0) by unfold scoreB; rw [if_pos HH.out])
    go_wp2
    refine bodyPost_ret (GlobW.results_cell_row_tmp (P := Tryd.prog) rfl _ _ w.heap.size 41 _ (0, 0) _ rfl (blk_alloc (blk_alloc (blk_new w _) _) _) Tryd.underlying41 rfl (by kernel_rfl)) rfl ?_
    exact ⟨by rw [HS.out, HV.out]; rfl, below_alloc (below_alloc (below_alloc (Below.refl _ _) _) _) _⟩
  have d1 : decide (b = minusInf) = false := decide_eq_false h1
  rw [d1] at e1
  clear d1
  by_cases h2 : b = inf
  · have d2 : decide (b = inf) = true := decide_eq_true h2
    rw [d2] at e2
    have HV := Aside0.mk (show scoreB b o = (1, 0, false, 0) by unfold scoreB; rw [if_neg h1, if_pos h2])
    clear h1 h2 d2 e3
    go_wp2
    refine bodyPost_ret (GlobW.results_cell_row_tmp (P := Tryd.prog) rfl _ _ w.heap.size 41 _ (0, 0) _ rfl (blk_alloc (blk_alloc (blk_new w _) _) _) Tryd.underlying41 rfl (by kernel_rfl)) rfl ?_
    exact ⟨by rw [HS.out, HV.out]; rfl, below_alloc (below_alloc (below_alloc (Below.refl _ _) _) _) _⟩
  have d2 : decide (b = inf) = false := decide_eq_false h2
  rw [d2] at e2
  clear d2
  by_cases h3 : b = plusInf
  · have d3 : decide (b = plusInf) = true := decide_eq_true h3
    rw [d3] at e3
    have HV := Aside0.mk (show scoreB b o = (1, 0, false, 0) by unfold scoreB; rw [if_neg h1, if_neg h2, if_pos h3])
    clear h1 h2 h3 d3
    go_wp2
    refine bodyPost_ret (GlobW.results_cell_row_tmp (P := Tryd.prog) rfl _ _ w.heap.size 41 _ (0, 0) _ rfl (blk_alloc (blk_alloc (blk_new w _) _) _) Tryd.underlying41 rfl (by kernel_rfl)) rfl ?_
    exact ⟨by rw [HS.out, HV.out]; rfl, below_alloc (below_alloc (below_alloc (Below.refl _ _) _) _) _⟩
  have d3 : decide (b = plusInf) = false := decide_eq_false h3
  rw [d3] at e3
  clear d3
  obtain ⟨r1, r2, hI⟩ : ∃ r1 r2, intS b = (r1, r2) := ⟨_, _, rfl⟩
  have KI := Aside0.mk (show PB.word_Int.f b = some (r1, r2) by unfold PB.word_Int.f; rw [hI])
  have HCb := Aside0.mk (HC.out _ HR.out)
  by_cases h4 : r2 = 0
  · have HV := Aside0.mk (show scoreB b o = (0, r1, o, 0) by unfold scoreB; rw [if_neg h1, if_neg h2, if_neg h3, hI, if_pos h4])
    have c4 : (r2 != 0) = false := by simp [h4]
    clear h1 h2 h3 h4 hI
    go_wp2_with fail
    refine (PB.word_Int.calls A' c' b r1 r2 _ (Kd.C_alloc (Kd.C_alloc (Kd.C_alloc HCb.out _) _) _) hc' KI.out).mono ?_
    rintro e w7 ⟨rfl, hd⟩
    have HB7 := Aside0.mk ((below_alloc (below_alloc (below_alloc (Below.refl w.heap.size w) (.cells #[.int .i64 0, .int .i64 0, .bool false] 41)) (.cells #[.int .i64 0, .int .i64 0, .bool o] 41)) (.cells #[.int .u8 40] 5 (1, 2))).trans ⟨hd.below.os, hd.below.tape, hd.below.output, hd.below.size, fun k hk => hd.below.block k (Nat.lt_of_lt_of_le hk (below_alloc (below_alloc (below_alloc (Below.refl w.heap.size w) _) _) _).size)⟩)
    have HO := Aside0.mk (blk_below (blk_alloc (blk_alloc (blk_new w (.cells #[.int .i64 0, .int .i64 0, .bool false] 41)) (.cells #[.int .i64 0, .int .i64 0, .bool o] 41)) (.cells #[.int .u8 40] 5 (1, 2))) hd.below)
    have HX := Aside0.mk (blk_below (blk_alloc (heap_alloc2_new w (.cells #[.int .i64 0, .int .i64 0, .bool false] 41) (.cells #[.int .i64 0, .int .i64 0, .bool o] 41)) (.cells #[.int .u8 40] 5 (1, 2))) hd.below)
    have y0 : w7.cell? ⟨w.heap.size, 0, none⟩ = some (.int .i64 0) := blk_cell HO.out 0
    have y1 : w7.cell? ⟨w.heap.size, 1, none⟩ = some (.int .i64 0) := blk_cell HO.out 1
    have y2 : w7.cell? ⟨w.heap.size, 2, none⟩ = some (.bool false) := blk_cell HO.out 2
    have f0 := blk_frozen HO.out 0
    have f1 := blk_frozen HO.out 1
    have f2 := blk_frozen HO.out 2
    have x0 : w7.cell? ⟨w.heap.size + 1, 0, none⟩ = some (.int .i64 0) := blk_cell HX.out 0
    have x1 : w7.cell? ⟨w.heap.size + 1, 1, none⟩ = some (.int .i64 0) := blk_cell HX.out 1
    have x2 : w7.cell? ⟨w.heap.size + 1, 2, none⟩ = some (.bool o) := blk_cell HX.out 2
    have g0 := blk_frozen HX.out 0
    have g1 := blk_frozen HX.out 1
    have g2 := blk_frozen HX.out 2
    clear hd
    go_wp2
    refine bodyPost_ret (GlobW.results_cell_row_tmp (P := Tryd.prog) rfl _ _ w.heap.size 41 _ (0, 0) _ rfl (blk_set (blk_set (blk_set (blk_far HO.out (by simp) _) 0 _) 1 _) 2 _) Tryd.underlying41 rfl (by kernel_rfl)) rfl ?_
    exact ⟨by rw [HS.out, HV.out]; rfl, GlobW.below_put (GlobW.below_put (GlobW.below_put (GlobW.below_put HB7.out (by omega) _ _) (Nat.le_refl _) _ _) (Nat.le_refl _) _ _) (Nat.le_refl _) _ _⟩
  · have HV := Aside0.mk (show scoreB b o = (0, 0, false, 90) by unfold scoreB; rw [if_neg h1, if_neg h2, if_neg h3, hI, if_neg h4])
    have c4 : (r2 != 0) = true := by simp [h4]
    clear h1 h2 h3 h4 hI
    go_wp2_with fail
    refine (PB.word_Int.calls A' c' b r1 r2 _ (Kd.C_alloc (Kd.C_alloc (Kd.C_alloc HCb.out _) _) _) hc' KI.out).mono ?_
    rintro e w7 ⟨rfl, hd⟩
    have HB7 := Aside0.mk ((below_alloc (below_alloc (below_alloc (Below.refl w.heap.size w) (.cells #[.int .i64 0, .int .i64 0, .bool false] 41)) (.cells #[.int .i64 0, .int .i64 0, .bool o] 41)) (.cells #[.int .u8 40] 5 (1, 2))).trans ⟨hd.below.os, hd.below.tape, hd.below.output, hd.below.size, fun k hk => hd.below.block k (Nat.lt_of_lt_of_le hk (below_alloc (below_alloc (below_alloc (Below.refl w.heap.size w) _) _) _).size)⟩)
    have HO := Aside0.mk (blk_below (blk_alloc (blk_alloc (blk_new w (.cells #[.int .i64 0, .int .i64 0, .bool false] 41)) (.cells #[.int .i64 0, .int .i64 0, .bool o] 41)) (.cells #[.int .u8 40] 5 (1, 2))) hd.below)
    have HX := Aside0.mk (blk_below (blk_alloc (heap_alloc2_new w (.cells #[.int .i64 0, .int .i64 0, .bool false] 41) (.cells #[.int .i64 0, .int .i64 0, .bool o] 41)) (.cells #[.int .u8 40] 5 (1, 2))) hd.below)
    have y0 : w7.cell? ⟨w.heap.size, 0, none⟩ = some (.int .i64 0) := blk_cell HO.out 0
    have y1 : w7.cell? ⟨w.heap.size, 1, none⟩ = some (.int .i64 0) := blk_cell HO.out 1
    have y2 : w7.cell? ⟨w.heap.size, 2, none⟩ = some (.bool false) := blk_cell HO.out 2
    have f0 := blk_frozen HO.out 0
    have f1 := blk_frozen HO.out 1
    have f2 := blk_frozen HO.out 2
    have x0 : w7.cell? ⟨w.heap.size + 1, 0, none⟩ = some (.int .i64 0) := blk_cell HX.out 0
    have x1 : w7.cell? ⟨w.heap.size + 1, 1, none⟩ = some (.int .i64 0) := blk_cell HX.out 1
    have x2 : w7.cell? ⟨w.heap.size + 1, 2, none⟩ = some (.bool o) := blk_cell HX.out 2
    have g0 := blk_frozen HX.out 0
    have g1 := blk_frozen HX.out 1
    have g2 := blk_frozen HX.out 2
    clear hd
    go_wp2
    refine bodyPost_ret (GlobW.results_cell_row_tmp (P := Tryd.prog) rfl _ _ w.heap.size 41 _ (0, 0) _ rfl (blk_set (blk_set (blk_set HO.out 0 _) 1 _) 2 _) Tryd.underlying41 rfl (by kernel_rfl)) rfl ?_
    exact ⟨by rw [HS.out, HV.out]; rfl, GlobW.below_put (GlobW.below_put (GlobW.below_put HB7.out (Nat.le_refl _) _ _) (Nat.le_refl _) _ _) (Nat.le_refl _) _ _⟩
end Go.Proofs.YtdflblegdfpdpaaDoor.ScoreW
