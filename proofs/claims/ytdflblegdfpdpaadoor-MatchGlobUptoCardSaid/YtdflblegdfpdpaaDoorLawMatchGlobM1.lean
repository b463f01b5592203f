-- JOINED by tailmerge2.py: CloneW CopyW ClassS GlobD RowF PEx31 ClsR PcsR PEx19 LexW GlobR
import Derived.Test.YtdflblegdfpdpaaDoorAppF
import Derived.Test.YtdflblegdfpdpaaDoorRefE
import Derived.Test.YtdflblegdfpdpaaDoorHeldW
import Derived.Lib.Bytealg
import Derived.Lib.SliceRun
import Derived.Laws.CopyOwn
import Derived.Laws.MakeOwn
import Derived.Laws.OwnMore
import Derived.Test.YtdflblegdfpdpaaDoorQuoteS
import Derived.Test.YtdflblegdfpdpaaDoorPieceW
import Derived.Test.YtdflblegdfpdpaaDoorPEx0
import Derived.Test.YtdflblegdfpdpaaDoorMembW
import Derived.Great.Walk
import Derived.Laws.Tables
import Derived.Great.FillDense
import Derived.Test.YtdflblegdfpdpaaDoorLexBad
import Derived.Deep.RegionHeld3

section
/- bytes.Clone, bytes.Compare: the machine's calls. -/
namespace Go.Proofs.YtdflblegdfpdpaaDoor.CloneW
open Go Go.RowKit Go.Proofs.YtdflblegdfpdpaaDoorW.PrintWords Go.Proofs.YtdflblegdfpdpaaDoorW.PrintLast Go.Proofs.YtdflblegdfpdpaaDoorW.PrintMore Go.Proofs.YtdflblegdfpdpaaDoor.ScoreW Go.Proofs.YtdflblegdfpdpaaDoor.AppF Go.Proofs.YtdflblegdfpdpaaDoor.RefE
set_option linter.unusedVariables false
set_option maxRecDepth 100000

/-- append onto a list without room, of whatever can be handed in. -/
theorem wpList_append_fullW {ops : Array Oper} {rest : List Oper} {o : Oper} {a : Act} {w : World} {Q : Exit → Act → World → Prop}
    (hg : o.guard = none) (s x : Operand) (hop : o.op = Op.call { callee := Callee.builtin Builtin.append, args := #[s, x], argTypes := #[22, 22] })
    (As : Addr) (l1 : List Int) (hs : a.eval s = .slice (some As) l1.length l1.length) (hC1 : Kd.C (Kd.int .u8) w (some As) l1.length l1)
    (Ax : Option Addr) (c : Nat) (l2 : List Int) (hx : a.eval x = .slice Ax l2.length c) (hC2 : Kd.C (Kd.int .u8) w Ax l2.length l2) (hb : l1.length + l2.length ≤ 140737488355328) (l3 : List Int) (h3 : l3 = l1 ++ l2)
    (hK : ∀ A' c' w', Kd.C (Kd.int .u8) w' A' l3.length l3 → l3.length ≤ c' → Below w.heap.size w w' → (∀ ad, A' = some ad → ad.block = As.block ∨ w.heap.size ≤ ad.block) → wpList Tryd.prog ops Q rest (a.put o.dst (.slice A' l3.length c')) w') :
    wpList Tryd.prog ops Q (o :: rest) a w := by
  subst h3
  by_cases h0 : l2.length = 0
  · obtain rfl : l2 = [] := List.eq_nil_of_length_eq_zero h0
    refine wpList_plain hg fun K hK' => ?_
    have hrun := run_empty w o.type As l1.length c Ax
    unfold Oper.wp
    simp only [List.length_nil] at hx
    simp [execOp, hop, resolve, invoke, builtin, hs, hx, hrun, Result.andThen]
    refine hK' _ _ ?_
    have := hK (some As) l1.length w (by rw [List.append_nil]; exact hC1) (by rw [List.append_nil]; exact Nat.le_refl _) (Below.refl _ _) (fun ad h => .inl (by obtain rfl := Option.some.inj h; rfl))
    rw [List.append_nil] at this
    exact this
  · obtain ⟨ad, hAx, _⟩ := Kd.at_int hC2 (0 : Int) (by omega) (by omega)
    subst hAx
    obtain ⟨i, hi, z0, z1, z2⟩ := infoB
    refine wpList_append_grows w hg s x 22 hop 5 i (.int .u8 0) 1 1 Tryd.underlying22 hi z0 z1 z2 rfl (by decide) (some As) l1.length l1.length (l1.map (Value.int .u8)) hs (fun h => by cases h) (by simp) (fun b hb' => by obtain rfl := Option.some.inj hb'; exact cells_of hC1)
      ad l2.length c (l2.map (Value.int .u8)) hx (by simp) (cells_of hC2) (fun u hu => by obtain ⟨y, _, rfl⟩ := List.mem_map.1 hu; rfl) (by omega) (by unfold maxLen; omega) (by omega) ?_
    intro v' w' ho hgr
    have hB : Below w.heap.size w w' := (Below.refl _ w).grown hgr (Nat.le_refl _) (by intro k hk; simp at hk)
    have ho' : w'.ownsRow w.heap.size 5 1 v' (l1 ++ l2).length (encs (Value.int .u8) (l1 ++ l2)) := by
      rw [List.length_append, show encs (Value.int .u8) (l1 ++ l2) = l1.map (Value.int .u8) ++ l2.map (Value.int .u8) by simp [encs]]
      exact ho
    obtain ⟨A', c', rfl, hl, hC⟩ := Kd.R_reads (Kd.R_of_own (h1 := fun _ => rfl) ho' (ok := fun _ => True) (fun _ _ => trivial))
    refine hK A' c' w' hC hl hB (fun ad had => .inr ?_)
    rcases ho'.2 with ⟨h, _⟩ | ⟨g, cap, cur, h, hb, _⟩
    · injection h with h1 _ _
      rw [had] at h1
      cases h1
    · injection h with h1 _ _
      rw [had] at h1
      obtain rfl := Option.some.inj h1
      exact hb

theorem eql_nil (w : World) (a : Option Addr) (n c n' c' : Nat) : (binOp .eql 22 (.slice a n c) (.slice none n' c')).run Tryd.prog w = .ok (.bool a.isNone) w := Lib.run_eql_slice_nil w _ _ a n c n' c' Tryd.underlying22
set_option maxHeartbeats 1600000 in
theorem clone.calls (A : Option Addr) (c : Nat) (l : List Int) (w : World) (hr : Kd.C (Kd.int .u8) w A l.length l) (hl : l.length ≤ 140737488355328) :
    Calls Tryd.prog 35 #[.slice A l.length c] w fun e w' => ∃ A' c', e = .returned (.slice A' l.length c') ∧ l.length ≤ c' ∧ Kd.C (Kd.int .u8) w' A' l.length l ∧ Below w.heap.size w w' ∧ ∀ ad, A' = some ad → w.heap.size ≤ ad.block := by
  cases A with
  | none =>
    have h0 : l.length = 0 := by
      rcases Nat.eq_zero_or_pos l.length with h | h
      · exact h
      · obtain ⟨ad, hh, _⟩ := Kd.at_int hr (0 : Int) (by omega) (by omega)
        cases hh
    obtain rfl : l = [] := List.eq_nil_of_length_eq_zero h0
    have q22 := eql_nil
    go_enter Tryd.func35, Tryd.ntmps35
    go_wp2
    go_ret
    exact ⟨none, 0, rfl, by simp, Kd.C_nil _ _, Below.refl _ _, fun ad h => by cases h⟩
  | some ad =>
    have HR := Aside0.mk hr
    clear hr
    have q22 := eql_nil
    go_enter Tryd.func35, Tryd.ntmps35
    go_wp2_with (first
      | ((with_reducible refine gate_builtin (b := .append) (xs := #[.tmp 5, .tmp 6]) rfl ?_); at_builtin; refine wpList_append_fullW rfl (.tmp 5) (.tmp 6) rfl ⟨w.heap.size, 0, none⟩ [] rfl (got_const _ _ rfl [] _ (by decide)) (some ad) c l rfl (Kd.C_alloc HR.out _) (by simp only [List.length_nil]; omega) l rfl ?_; intro A' c' w' hC hc hb hA; have HA := Aside0.mk hA; have HC := Aside0.mk hC; have HB := Aside0.mk (PB.below_next (below_alloc (Below.refl w.heap.size w) _) hb); clear hC hb hA))
    go_ret
    exact ⟨A', c', rfl, hc, HC.out, HB.out, fun ad h => (HA.out ad h).elim (fun h => by rw [h]; exact Nat.le_refl _) (fun h => by rw [size_alloc] at h; omega)⟩

theorem add_block (a : Addr) (j : Nat) : (a.add j).block = a.block := by
  unfold Addr.add
  split <;> rfl
theorem C_setRow {W : World} {ad : Addr} {n : Nat} {l : List Int} (h : Kd.C (Kd.int .u8) W (some ad) n l) (g : Nat) (cs : Array Value) (hg : ad.block ≠ g) : Kd.C (Kd.int .u8) (W.setRow g cs) (some ad) n l := by
  obtain ⟨h1, h2, h3⟩ := h
  refine ⟨h1, h2, fun h0 => ?_⟩
  obtain ⟨a, ha, hc⟩ := h3 h0
  obtain rfl := Option.some.inj ha
  refine ⟨ad, rfl, fun j p hp => ?_⟩
  obtain ⟨c, hc1, hc2, hc3⟩ := hc j p hp
  refine ⟨c, hc1, hc2, fun k u hk => ?_⟩
  rw [cell_setRow_other _ _ _ _ (by rw [add_block]; exact hg)]
  exact hc3 k u hk
/-- Bytes read out of a slice. -/
def pushAll (acc : ByteArray) : List Int → ByteArray
  | [] => acc
  | x :: r => pushAll (acc.push x.toNat.toUInt8) r
theorem pushAll_list (l : List Int) : ∀ acc : ByteArray, (pushAll acc l).data.toList = acc.data.toList ++ l.map fun x => x.toNat.toUInt8 := by
  induction l with
  | nil => intro acc; simp [pushAll]
  | cons x r ih =>
    intro acc
    rw [pushAll, ih]
    simp [ByteArray.push]
theorem run_loadBytes {P : Program} (w : World) (l : List Int) : ∀ (a : Addr) (acc : ByteArray), (∀ j u, (l.map (Value.int .u8))[j]? = some u → w.cell? (a.add j) = some u) → (Extern.Bytes.loadBytes a l.length acc).run P w = .ok (pushAll acc l) w := by
  induction l with
  | nil => intro a acc _; rfl
  | cons x r ih =>
    intro a acc h
    have h0 := h 0 (.int .u8 x) rfl
    rw [show a.add 0 = a by simp [Addr.add]] at h0
    show (Extern.Bytes.loadBytes a (r.length + 1) acc).run P w = _
    unfold Extern.Bytes.loadBytes
    rw [Sem.run_bind, run_load, h0]
    simp only [Result.andThen]
    refine ih (a.add 1) _ (fun j u hj => ?_)
    rw [HeldW.add_add, Nat.add_comm]
    exact h (j + 1) u (by simpa using hj)
theorem run_bytesOf {P : Program} (w : World) (A : Option Addr) (c : Nat) (l : List Int) (h : Kd.C (Kd.int .u8) w A l.length l) : (Extern.Bytes.bytesOf (.slice A l.length c)).run P w = .ok (pushAll .empty l) w := by
  cases A with
  | none =>
    have h0 : l.length = 0 := by
      rcases Nat.eq_zero_or_pos l.length with h' | h'
      · exact h'
      · obtain ⟨ad, hh, _⟩ := Kd.at_int h (0 : Int) (by omega) (by omega)
        cases hh
    obtain rfl : l = [] := List.eq_nil_of_length_eq_zero h0
    rfl
  | some ad => exact run_loadBytes w l ad _ (cells_of h)
theorem u8_lt {x y : Int} (hx : 0 ≤ x ∧ x < 256) (hy : 0 ≤ y ∧ y < 256) : x.toNat.toUInt8 < y.toNat.toUInt8 ↔ x < y := by
  rw [UInt8.lt_iff_toNat_lt]
  simp only [Nat.toUInt8, UInt8.toNat_ofNat']
  rw [Nat.mod_eq_of_lt (show x.toNat < 2 ^ 8 by omega), Nat.mod_eq_of_lt (show y.toNat < 2 ^ 8 by omega)]
  omega
theorem compare_cmp : ∀ a b : List Int, (∀ x ∈ a, 0 ≤ x ∧ x < 256) → (∀ x ∈ b, 0 ≤ x ∧ x < 256) → Lib.compareBytes (a.map fun x => x.toNat.toUInt8) (b.map fun x => x.toNat.toUInt8) = cmpL a b
  | [], [], _, _ => rfl
  | [], _ :: _, _, _ => rfl
  | _ :: _, [], _, _ => rfl
  | x :: a, y :: b, ha, hb => by
    have ih := compare_cmp a b (fun z hz => ha z (List.mem_cons_of_mem _ hz)) (fun z hz => hb z (List.mem_cons_of_mem _ hz))
    have hx := ha x (List.mem_cons_self ..)
    have hy := hb y (List.mem_cons_self ..)
    show (if x.toNat.toUInt8 < y.toNat.toUInt8 then -1 else if y.toNat.toUInt8 < x.toNat.toUInt8 then 1 else Lib.compareBytes _ _) = (if x < y then -1 else if x > y then 1 else cmpL a b)
    rw [ih]
    simp only [u8_lt hx hy, u8_lt hy hx]
set_option maxHeartbeats 1600000 in
theorem compare.calls (A : Option Addr) (c : Nat) (a : List Int) (A1 : Option Addr) (c1 : Nat) (b : List Int) (w : World) (hr : Kd.C (Kd.int .u8) w A a.length a) (hr1 : Kd.C (Kd.int .u8) w A1 b.length b) (ha : ∀ x ∈ a, 0 ≤ x ∧ x < 256) (hb : ∀ x ∈ b, 0 ≤ x ∧ x < 256) :
    Calls Tryd.prog 36 #[.slice A a.length c, .slice A1 b.length c1] w fun e w' => e = .returned (.int .i64 (cmpL a b)) ∧ w' = w := by
  have hrun : (Extern.BytealgCompare.compare #[.slice A a.length c, .slice A1 b.length c1]).run Tryd.prog w = .ok (.int .i64 (cmpL a b)) w := by
    change Sem.run Tryd.prog (do pure (goInt (Extern.BytealgCompare.cmp (← Extern.Bytes.bytesOf (.slice A a.length c)) (← Extern.Bytes.bytesOf (.slice A1 b.length c1))))) w = _
    simp only [Sem.run_bind, Sem.run_pure, run_bytesOf w A c a hr, run_bytesOf w A1 c1 b hr1, Result.andThen]
    rw [Lib.cmp_eq, pushAll_list, pushAll_list, ← compare_cmp a b ha hb]
    rfl
  have HRUN := Aside0.mk hrun
  clear hrun hr hr1
  go_enter Tryd.func36, Tryd.ntmps36
  go_wp2
  rw [run_callFunc_extern Tryd.func42 (by kernel_rfl) (by kernel_rfl) (by kernel_rfl) (e := Extern.BytealgCompare.compare) (by kernel_rfl), HRUN.out]
  simp only [Result.andThen]
  rw [Oper.upon_value]
  go_wp2
  go_ret
  exact ⟨rfl, rfl⟩
end Go.Proofs.YtdflblegdfpdpaaDoor.CloneW
end

section
/- larderref0.Copy, larderlaw3.Twin: the machine's calls; rows of bytes of the call's own. -/
namespace Go.Proofs.YtdflblegdfpdpaaDoor.CopyW
open Go Go.RowKit Go.Proofs.YtdflblegdfpdpaaDoorW.PrintWords Go.Proofs.YtdflblegdfpdpaaDoorW.PrintLast Go.Proofs.YtdflblegdfpdpaaDoorW.PrintMore Go.Proofs.YtdflblegdfpdpaaDoor.ScoreW Go.Proofs.YtdflblegdfpdpaaDoor.AppF Go.Proofs.YtdflblegdfpdpaaDoor.CloneW
set_option linter.unusedVariables false
set_option maxRecDepth 100000

/-- A whole block of bytes that begins with a list. -/
def RowAt (W : World) (g cap : Nat) (l : List Int) : Prop :=
  ∃ cur : List Value, W.heap[g]? = some (.cells cur.toArray 5 (0, 0)) ∧ cur.length = cap ∧ l.length ≤ cap ∧ l.length ≤ maxLen ∧ cur.take l.length = l.map (Value.int .u8)
theorem RowAt.get {W : World} {g cap : Nat} {l : List Int} (h : RowAt W g cap l) (j : Nat) (x : Int) (hx : l[j]? = some x) : W.cell? ⟨g, j, none⟩ = some (.int .u8 x) := by
  obtain ⟨cur, h1, h2, h3, _, h4⟩ := h
  have hj : j < l.length := (List.getElem?_eq_some_iff.1 hx).1
  have : cur.toArray[j]? = some (.int .u8 x) := by
    have h5 := congrArg (fun r => r[j]?) h4
    simp only [List.getElem?_take, if_pos hj, List.getElem?_map, hx, Option.map_some] at h5
    simpa using h5
  exact (blk_cell h1 j).trans this
theorem RowAt.C {W : World} {g cap : Nat} {l : List Int} (h : RowAt W g cap l) : Kd.C (Kd.int .u8) W (some ⟨g, 0, none⟩) l.length l := by
  refine ⟨rfl, ?_, fun h0 => ⟨_, rfl, fun j p hp => ⟨[.int .u8 p], rfl, rfl, fun i u hu => ?_⟩⟩⟩
  · obtain ⟨_, _, _, _, h5, _⟩ := h
    exact h5
  · have hi : i = 0 := by
      have := (List.getElem?_eq_some_iff.1 hu).1
      simp at this
      exact this
    subst hi
    obtain rfl : u = .int .u8 p := by simpa using hu.symm
    have e : (⟨g, 0, none⟩ : Addr).add (j * (Kd.int .u8).sz + 0) = ⟨g, j, none⟩ := by
      show (⟨g, 0, none⟩ : Addr).add (j * 1 + 0) = _
      rw [Nat.mul_one, Nat.add_zero, PA.add_off, Nat.zero_add]
    rw [e]
    exact h.get j p hp
theorem RowAt.below {W W' : World} {g cap : Nat} {l : List Int} (h : RowAt W g cap l) (hb : Below W.heap.size W W') : RowAt W' g cap l := by
  obtain ⟨cur, h1, h2⟩ := h
  exact ⟨cur, blk_below h1 hb, h2⟩
theorem RowAt.frozen {W : World} {g cap : Nat} {l : List Int} (h : RowAt W g cap l) (j : Nat) : W.frozen? ⟨g, j, none⟩ = false := by
  obtain ⟨cur, h1, h2⟩ := h
  exact blk_frozen h1 j
theorem RowAt.set {W : World} {g cap : Nat} {l : List Int} (h : RowAt W g cap l) (j : Nat) (hj : j < l.length) (y : Int) : RowAt (W.setCell ⟨g, j, none⟩ (.int .u8 y)) g cap (l.set j y) := by
  obtain ⟨cur, h1, h2, h3, h5, h4⟩ := h
  refine ⟨cur.set j (.int .u8 y), ?_, by simpa using h2, by simpa using h3, by simpa using h5, ?_⟩
  · have := blk_set h1 j (.int .u8 y)
    simpa using this
  · rw [List.length_set, List.take_set, h4, List.map_set]
theorem RowAt.take {W : World} {g cap : Nat} {l : List Int} (h : RowAt W g cap l) (n : Nat) : RowAt W g cap (l.take n) := by
  obtain ⟨cur, h1, h2, h3, h5, h4⟩ := h
  refine ⟨cur, h1, h2, by rw [List.length_take]; omega, by rw [List.length_take]; omega, ?_⟩
  rw [List.length_take, List.map_take, ← h4, List.take_take]
theorem row_made (w : World) (n : Nat) (hn : n ≤ maxLen) : RowAt (w.alloc (.cells (madeCells #[.int .u8 0] n) 5)) w.heap.size n (List.replicate n 0) := by
  refine ⟨List.replicate n (.int .u8 0), ?_, by simp, by simp, by simpa using hn, by simp⟩
  have := blk_new w (.cells (madeCells #[.int .u8 0] n) 5)
  rw [this]
  congr 2
  apply Array.toList_inj.1
  rw [toList_madeCells_one]

theorem make_u8 (n : Nat) (hn : n ≤ 140737488355328) (u : World) : (Instr.makeSlice 22 (.int .i64 (n : Int)) (.int .i64 (n : Int))).run Tryd.prog u =
    .ok (.slice (some ⟨u.heap.size, 0, none⟩) n n) (u.alloc (.cells (madeCells #[.int .u8 0] n) 5)) := by
  obtain ⟨i0, hi, hz0, hz1, hz2⟩ := infoB
  have h := run_make (P := Tryd.prog) u 22 5 i0 (.int .u8 0) Tryd.underlying22 hi hz0 .i64 .i64 (n : Int) (n : Int) (by omega) (Int.le_refl _) (by rw [hz2]; omega) (by omega)
  simpa [hz1, Value.cells] using h

theorem srcs {w : World} {A : Option Addr} {l : List Int} (h : Kd.C (Kd.int .u8) w A l.length l) (h0 : 0 < l.length) : ∃ ad, A = some ad ∧ ∀ j v, (l.map (Value.int .u8))[j]? = some v → w.cell? (ad.add j) = some v := by
  obtain ⟨ad, rfl, _⟩ := Kd.at_int h (0 : Int) (by omega) (by omega)
  exact ⟨ad, rfl, cells_of h⟩
theorem copy_run {w0 w1 : World} {base g d c : Nat} {A : Option Addr} {l : List Int} {cur : List Value} {ty : TypeId} (HB : Below base w0 w1) (hg : base ≤ g) (hrow : w1.heap[g]? = some (.cells cur.toArray 5 (0, 0))) (hn : cur.length = l.length) (hr : Kd.C (Kd.int .u8) w1 A l.length l) :
    ∃ w2, (Builtin.copy_ #[22, 22] ty #[.slice (some ⟨g, 0, none⟩) l.length d, .slice A l.length c]).run Tryd.prog w1 = .ok (.int .i64 l.length) w2 ∧ w2.heap[g]? = some (.cells (l.map (Value.int .u8)).toArray 5 (0, 0)) ∧ Below base w0 w2 := by
  have hs : (Tryd.prog.info? 5).map (·.size) = some 1 := by obtain ⟨i, hi, _, h2, _⟩ := infoB; rw [hi]; exact congrArg some h2
  by_cases h0 : l.length = 0
  · obtain rfl : l = [] := List.eq_nil_of_length_eq_zero h0
    obtain rfl : cur = [] := List.eq_nil_of_length_eq_zero hn
    exact ⟨w1, run_copy_none (P := Tryd.prog) w1 _ _ ty _ _ A _ d _ c Tryd.underlying22 hs rfl, hrow, HB⟩
  · obtain ⟨ad, rfl, hsrc⟩ := srcs hr (by omega)
    have := run_copy_row (P := Tryd.prog) w1 22 22 ty 5 g 0 l.length d ad l.length c cur.toArray 5 (l.map (Value.int .u8)) Tryd.underlying22 hs hrow (by rw [List.length_map]; exact (Nat.min_self _).symm) hsrc (by simp; omega) (fun v hv => by obtain ⟨y, _, rfl⟩ := List.mem_map.1 hv; rfl)
    rw [show goInt ((l.map (Value.int .u8)).length : Int) = .int .i64 l.length by simp [goInt]] at this
    refine ⟨_, this, ?_, below_setRow HB hg _⟩
    rw [setRow_heap _ _ _ _ _ _ hrow]
    congr 2
    simp [hn]
set_option maxHeartbeats 1600000 in
theorem copy.calls (A : Option Addr) (c : Nat) (l : List Int) (w : World) (hr : Kd.C (Kd.int .u8) w A l.length l) (hl : l.length ≤ 140737488355328) :
    Calls Tryd.prog 55 #[.slice A l.length c] w fun e w' => ∃ g, e = .returned (.slice (some ⟨g, 0, none⟩) l.length l.length) ∧ w.heap.size ≤ g ∧ RowAt w' g l.length l ∧ Below w.heap.size w w' := by
  have hmk := make_u8 l.length hl
  have HR := Aside0.mk hr
  have HM := Aside0.mk (row_made w l.length (by unfold maxLen; omega))
  have HSZ : Aside0 ((Tryd.prog.info? 5).map (·.size) = some 1) := ⟨by obtain ⟨i, hi, _, h2, _⟩ := infoB; rw [hi]; exact congrArg some h2⟩
  clear hr
  go_enter Tryd.func55, Tryd.ntmps55
  go_upto_region 2 with fail
  have HB := Aside0.mk (below_alloc (Below.refl w.heap.size w) (.cells (madeCells #[.int .u8 0] l.length) 5))
  have HR1 := Aside0.mk (Kd.C_below HR.out HB.out)
  clear hmk HR
  generalize w.alloc (.cells (madeCells #[.int .u8 0] l.length) 5) = w1 at *
  obtain ⟨g, hg⟩ : ∃ g, g = w.heap.size := ⟨_, rfl⟩
  rw [← hg] at HM
  rw [← hg]
  have HGG := Aside0.mk hg
  clear hg
  obtain ⟨cur, h1, h2, h3, h4, h5⟩ := HM.out
  have HC1 := Aside0.mk h1
  have HC2 := Aside0.mk h2
  clear h1 h2 h3 h4 h5 HM
  obtain ⟨w2, hrun, hrow, hb⟩ := copy_run (ty := 3) HB.out (by rw [HGG.out]; exact Nat.le_refl _) HC1.out HC2.out HR1.out (c := c) (d := l.length)
  have HROW := Aside0.mk hrow
  have HB2 := Aside0.mk hb
  clear hb hrow HC1 HC2 HR1 HB
  go_wp2_with fail
  go_ret
  exact ⟨g, rfl, by rw [HGG.out]; exact Nat.le_refl _, ⟨l.map (Value.int .u8), HROW.out, List.length_map _, Nat.le_refl _, by unfold maxLen; omega, List.take_of_length_le (by rw [List.length_map]; exact Nat.le_refl _)⟩, HB2.out⟩

theorem eql_nil2 (w : World) (a : Option Addr) (n c n' c' : Nat) : (binOp .eql 22 (.slice a n c) (.slice none n' c')).run Tryd.prog w = .ok (.bool a.isNone) w := eql_nil w a n c n' c'
set_option maxHeartbeats 1600000 in
theorem twin.calls (A : Option Addr) (c : Nat) (l : List Int) (w : World) (hr : Kd.C (Kd.int .u8) w A l.length l) (hl : l.length ≤ 140737488355328) :
    Calls Tryd.prog 44 #[.slice A l.length c] w fun e w' => ∃ A' c', e = .returned (.slice A' l.length c') ∧ l.length ≤ c' ∧ Kd.C (Kd.int .u8) w' A' l.length l ∧ Below w.heap.size w w' ∧ (A' = none → c' = 0) := by
  have q22 := eql_nil
  cases A with
  | none =>
    have h0 : l.length = 0 := by
      rcases Nat.eq_zero_or_pos l.length with h | h
      · exact h
      · obtain ⟨ad, hh, _⟩ := Kd.at_int hr (0 : Int) (by omega) (by omega)
        cases hh
    obtain rfl : l = [] := List.eq_nil_of_length_eq_zero h0
    go_enter Tryd.func44, Tryd.ntmps44
    go_wp2
    go_ret
    exact ⟨none, 0, rfl, by simp, Kd.C_nil _ _, Below.refl _ _, fun _ => rfl⟩
  | some ad =>
    have hc := copy.calls (some ad) c l w hr hl
    have HC := Aside0.mk hc
    clear hc hr
    go_enter Tryd.func44, Tryd.ntmps44
    go_wp2_with fail
    refine HC.out.mono ?_
    rintro e w1 ⟨g, rfl, hg, hrow, hb⟩
    have HROW := Aside0.mk hrow
    have HB := Aside0.mk hb
    clear hrow hb hg
    go_wp2_with fail
    go_ret
    exact ⟨some ⟨g, 0, none⟩, l.length, rfl, Nat.le_refl _, HROW.out.C, HB.out, fun h => by cases h⟩
end Go.Proofs.YtdflblegdfpdpaaDoor.CopyW
end

section
/- Written pieces: which pieces a pattern out of them gives; a pattern of two parts. No program. -/
namespace Go.Proofs.YtdflblegdfpdpaaDoor.ClassS
open Go.Proofs.YtdflblegdfpdpaaDoor.GlobS Go.Proofs.YtdflblegdfpdpaaDoor.GlobT Go.Proofs.YtdflblegdfpdpaaDoor.QuoteS
set_option linter.unusedVariables false

/-- Lo, Hi, Range, Plain -/
structure Mem where
  lo : Int
  hi : Int
  range : Bool
  plain : Bool
structure Pie where
  d : Int
  b : Int
  neg : Bool
  ms : List Mem
def goodMem (m : Mem) : Prop := (0 ≤ m.lo ∧ m.lo < 256) ∧ 0 ≤ m.hi ∧ m.hi < 256
def spellL (b : Int) (plain : Bool) : List Int := if plain && b != 92 && b != 93 && b != 45 && b != 94 then [b] else [92, b]
def memL (m : Mem) : List Int := spellL m.lo m.plain ++ (if m.range then 45 :: spellL m.hi m.plain else [])
def memsL (ms : List Mem) : List Int := ms.flatMap memL
def writeL (x : Pie) : List Int :=
  if x.d = 0 then [42] else if x.d = 1 then [63] else if x.d = 2 then [92, x.b] else ([91] ++ (if x.neg then [94] else [])) ++ memsL x.ms ++ [93]
def memQ (q : Q) (m : Mem) : Q := addQ q m.lo.toNat (if m.range then m.hi else m.lo).toNat
def memsQ (ms : List Mem) (q : Q) : Q := ms.foldl memQ q
def classQ (x : Pie) : Q := if x.neg then notQ (memsQ x.ms noneQ) else memsQ x.ms noneQ
def pieceOf (x : Pie) : Pc := if x.d = 0 then starP else if x.d = 1 then anyP else if x.d = 2 then setP x.b else ⟨false, classQ x⟩
/-- Does a class name the byte? -/
def inMem (m : Mem) (b : Int) : Bool := decide (m.lo ≤ b ∧ b ≤ (if m.range then m.hi else m.lo) ∨ (if m.range then m.hi else m.lo) ≤ b ∧ b ≤ m.lo)
def fitsL (x : Pie) (b : Int) : Bool := (x.ms.any fun m => inMem m b) != x.neg

/-- A spelled byte: how it begins, what quotedL makes of it. -/
theorem spell_head (b : Int) (plain : Bool) (r : List Int) : ∃ c s, spellL b plain ++ r = c :: s ∧ c ≠ 93 ∧ c ≠ 45 ∧ c ≠ 94 ∧ quotedL (spellL b plain ++ r) = (b, r) := by
  unfold spellL
  split
  · rename_i h
    simp only [Bool.and_eq_true, bne_iff_ne, ne_eq] at h
    refine ⟨b, r, rfl, h.1.1.2, h.1.2, h.2, ?_⟩
    show quotedL (b :: r) = _
    unfold quotedL
    split
    · rename_i hh; injection hh with e1 e2; exact absurd e1 h.1.1.1.2
    · rename_i hh; injection hh with e1 e2; rw [← e1, ← e2]
    · rename_i hh; cases hh
  · exact ⟨92, b :: r, rfl, by decide, by decide, by decide, rfl⟩
theorem mems_head (ms : List Mem) (r : List Int) : ∃ c s, memsL ms ++ 93 :: r = c :: s ∧ c ≠ 45 ∧ c ≠ 94 := by
  cases ms with
  | nil => exact ⟨93, r, rfl, by decide, by decide⟩
  | cons m ms =>
    obtain ⟨c, s, h, _, h2, h3, _⟩ := spell_head m.lo m.plain ((if m.range then 45 :: spellL m.hi m.plain else []) ++ (memsL ms ++ 93 :: r))
    refine ⟨c, s, ?_, h2, h3⟩
    rw [← h]
    simp [memsL, memL]
theorem rangeL_false {c : Int} {s : List Int} (h : c ≠ 45) : rangeL (c :: s) = false := by
  unfold rangeL
  split
  · rename_i hh; injection hh with e1 _; exact absurd e1 h
  · rfl
theorem class_mems (ms : List Mem) : ∀ (q : Q) (r : List Int), classL (memsL ms ++ 93 :: r) q = (memsQ ms q, r) := by
  induction ms with
  | nil => intro q r; show classL (93 :: r) q = _; rw [classL, if_pos rfl]; rfl
  | cons m ms ih =>
    intro q r
    by_cases hr : m.range = true
    · have e : memsL (m :: ms) ++ 93 :: r = spellL m.lo m.plain ++ (45 :: (spellL m.hi m.plain ++ (memsL ms ++ 93 :: r))) := by
        simp [memsL, memL, hr]
      obtain ⟨c, s, h, h1, _, _, h4⟩ := spell_head m.lo m.plain (45 :: (spellL m.hi m.plain ++ (memsL ms ++ 93 :: r)))
      obtain ⟨c2, s2, g, g1, _, _, g4⟩ := spell_head m.hi m.plain (memsL ms ++ 93 :: r)
      rw [e, h, classL, if_neg h1]
      rw [h] at h4
      have hrg : rangeL (45 :: (spellL m.hi m.plain ++ (memsL ms ++ 93 :: r))) = true := by
        rw [g]
        show (!(c2 == 93)) = true
        simpa using g1
      simp only [h4, hrg, if_true, List.tail_cons]
      rw [g4]
      dsimp only
      rw [ih]
      simp [memsQ, memQ, hr]
    · have hr' : m.range = false := by simpa using hr
      have e : memsL (m :: ms) ++ 93 :: r = spellL m.lo m.plain ++ (memsL ms ++ 93 :: r) := by simp [memsL, memL, hr']
      obtain ⟨c, s, h, h1, _, _, h4⟩ := spell_head m.lo m.plain (memsL ms ++ 93 :: r)
      obtain ⟨c2, s2, g, g1, _⟩ := mems_head ms r
      rw [e, h, classL, if_neg h1]
      rw [h] at h4
      have hrg : rangeL (memsL ms ++ 93 :: r) = false := by rw [g]; exact rangeL_false g1
      simp only [h4, hrg]
      show classL (memsL ms ++ 93 :: r) _ = _
      rw [ih]
      simp [memsQ, memQ, hr']
theorem members_class (x : Pie) (r : List Int) : membersL ((if x.neg then [94] else []) ++ memsL x.ms ++ 93 :: r) = (classQ x, r) := by
  unfold classQ
  cases hx : x.neg with
  | true =>
    show (notQ (classL (memsL x.ms ++ 93 :: r) noneQ).1, (classL (memsL x.ms ++ 93 :: r) noneQ).2) = _
    rw [class_mems]
    rfl
  | false =>
    show membersL (memsL x.ms ++ 93 :: r) = _
    obtain ⟨c, s, g, _, g2⟩ := mems_head x.ms r
    have hc := class_mems x.ms noneQ r
    rw [g] at hc ⊢
    unfold membersL
    split
    · rename_i hh; injection hh with e1 _; exact absurd e1 g2
    · rw [hc]; rfl
theorem pieces_write (x : Pie) (r : List Int) : piecesL (writeL x ++ r) = pieceOf x :: piecesL r := by
  unfold writeL pieceOf
  split
  · exact pieces_star r
  split
  · exact pieces_any r
  split
  · have := pieces_quote [x.b] r
    exact this
  · have e : ([91] ++ (if x.neg then [94] else [])) ++ memsL x.ms ++ [93] ++ r = 91 :: ((if x.neg then [94] else []) ++ memsL x.ms ++ 93 :: r) := by simp
    rw [e, piecesL, pieceL_cons, if_neg (by decide), if_neg (by decide), if_pos rfl, members_class]
def patternL (l : List Pie) : List Int := l.flatMap writeL
theorem pieces_pattern (l : List Pie) (r : List Int) : piecesL (patternL l ++ r) = l.map pieceOf ++ piecesL r := by
  induction l with
  | nil => rfl
  | cons x l ih =>
    have e : patternL (x :: l) ++ r = writeL x ++ (patternL l ++ r) := by simp [patternL]
    rw [e, pieces_write, ih]
    rfl

/-- What a class fits is what it names. -/
theorem has_mems (ms : List Mem) (hg : ∀ m ∈ ms, goodMem m) : ∀ (q : Q) (b : Int), 0 ≤ b ∧ b < 256 → has (memsQ ms q) b.toNat = (has q b.toNat || ms.any fun m => inMem m b) := by
  induction ms with
  | nil => intro q b _; simp [memsQ]
  | cons m ms ih =>
    intro q b hb
    have hm := hg m (List.mem_cons_self ..)
    have := ih (fun y hy => hg y (List.mem_cons_of_mem _ hy)) (memQ q m) b hb
    show has (memsQ ms (memQ q m)) b.toNat = _
    rw [this]
    unfold memQ
    have hh : 0 ≤ (if m.range then m.hi else m.lo) ∧ (if m.range then m.hi else m.lo) < 256 := by
      split
      · exact hm.2
      · exact hm.1
    rw [has_addQ _ _ _ _ (by have := hm.1; omega) (by omega) (by omega), List.any_cons, Bool.or_assoc]
    congr 1
    congr 1
    unfold inMem
    rw [decide_eq_decide]
    have := hm.1
    omega
theorem memsQ_in (ms : List Mem) : ∀ q, QIn q → QIn (memsQ ms q) := by
  induction ms with
  | nil => intro q h; exact h
  | cons m ms ih => intro q h; exact ih _ (h.addQ _ _)
theorem has_class (x : Pie) (hg : ∀ m ∈ x.ms, goodMem m) (b : Int) (hb : 0 ≤ b ∧ b < 256) : has (classQ x) b.toNat = fitsL x b := by
  unfold classQ fitsL
  have h := has_mems x.ms hg noneQ b hb
  rw [has_noneQ, Bool.false_or] at h
  cases hx : x.neg with
  | true =>
    show has (notQ (memsQ x.ms noneQ)) b.toNat = _
    rw [has_notQ (memsQ_in _ _ QIn.noneQ) _ (by omega), h]
    simp
  | false =>
    show has (memsQ x.ms noneQ) b.toNat = _
    rw [h]
    simp
/-- A pattern of two parts fits just the texts that can be cut for them. -/
theorem fits_append (a b : List Pc) : ∀ t : List Int, fits (a ++ b) t = true ↔ ∃ i, i ≤ t.length ∧ fits a (t.take i) = true ∧ fits b (t.drop i) = true := by
  induction a with
  | nil =>
    intro t
    show fits b t = true ↔ _
    constructor
    · intro h; exact ⟨0, by omega, by simp [fits], by simpa using h⟩
    · rintro ⟨i, hi, h1, h2⟩
      have h3 := (QuoteS.fits_nil _).1 h1
      have h4 := congrArg List.length h3
      rw [List.length_take, List.length_nil] at h4
      have : i = 0 := by omega
      subst this
      simpa using h2
  | cons p a ih =>
    intro t
    show fits (p :: (a ++ b)) t = true ↔ _
    by_cases hp : p.star = true
    · rw [fits_star hp]
      constructor
      · rintro ⟨k, hk, h⟩
        obtain ⟨i, hi, h1, h2⟩ := (ih _).1 h
        rw [List.length_drop] at hi
        refine ⟨k + i, by omega, (fits_star hp).2 ⟨k, by rw [List.length_take]; omega, ?_⟩, ?_⟩
        · rw [List.drop_take, show k + i - k = i by omega]; exact h1
        · rw [← List.drop_drop]; exact h2
      · rintro ⟨i, hi, h1, h2⟩
        obtain ⟨k, hk, h⟩ := (fits_star hp).1 h1
        rw [List.length_take] at hk
        refine ⟨k, by omega, (ih _).2 ⟨i - k, by rw [List.length_drop]; omega, ?_, ?_⟩⟩
        · rw [← List.drop_take]; exact h
        · rw [List.drop_drop, show k + (i - k) = i by omega]; exact h2
    · have hp : p.star = false := by simpa using hp
      cases t with
      | nil =>
        rw [fits_set_nil hp]
        constructor
        · intro h; cases h
        · rintro ⟨i, _, h1, _⟩
          rw [List.take_nil, fits_set_nil hp] at h1
          cases h1
      | cons c t =>
        rw [fits_set hp, Bool.and_eq_true, ih t]
        constructor
        · rintro ⟨h0, i, hi, h1, h2⟩
          refine ⟨i + 1, by simp; omega, ?_, by simpa using h2⟩
          show fits (p :: a) (c :: t.take i) = true
          rw [fits_set hp, h0, h1]
          rfl
        · rintro ⟨i, hi, h1, h2⟩
          cases i with
          | zero => rw [List.take_zero, fits_set_nil hp] at h1; cases h1
          | succ i =>
            have h1 : fits (p :: a) (c :: t.take i) = true := h1
            rw [fits_set hp, Bool.and_eq_true] at h1
            exact ⟨h1.1, i, by simpa using hi, h1.2, by simpa using h2⟩
/-- Stars beside one another are as one. -/
theorem fits_stars (a b : List Pc) (t : List Int) : fits (a ++ starP :: starP :: starP :: b) t = fits (a ++ starP :: b) t := by
  have h : ∀ u : List Int, fits (starP :: starP :: b) u = fits (starP :: b) u := by
    intro u
    rw [Bool.eq_iff_iff, fits_star rfl, fits_star rfl]
    constructor
    · rintro ⟨k, hk, h⟩
      obtain ⟨j, hj, h⟩ := (fits_star rfl).1 h
      rw [List.length_drop] at hj
      rw [List.drop_drop] at h
      exact ⟨k + j, by omega, h⟩
    · rintro ⟨k, hk, h⟩
      exact ⟨0, by omega, (fits_star rfl).2 ⟨k, by simpa using hk, by simpa using h⟩⟩
  rw [Bool.eq_iff_iff, fits_append, fits_append]
  constructor
  · rintro ⟨i, hi, h1, h2⟩
    refine ⟨i, hi, h1, ?_⟩
    obtain ⟨k, hk, h3⟩ := (fits_star rfl).1 h2
    rw [h] at h3
    obtain ⟨j, hj, h4⟩ := (fits_star rfl).1 h3
    rw [List.length_drop] at hj
    rw [List.drop_drop] at h4
    exact (fits_star rfl).2 ⟨k + j, by omega, h4⟩
  · rintro ⟨i, hi, h1, h2⟩
    refine ⟨i, hi, h1, (fits_star rfl).2 ⟨0, by omega, ?_⟩⟩
    rw [List.drop_zero, h]
    exact h2
end Go.Proofs.YtdflblegdfpdpaaDoor.ClassS
end

section
/- What the document's own matcher reckons: which beginnings of a text can be cut for the pieces so far. No program. -/
namespace Go.Proofs.YtdflblegdfpdpaaDoor.GlobD
open Go.Proofs.YtdflblegdfpdpaaDoor.GlobS Go.Proofs.YtdflblegdfpdpaaDoor.GlobT Go.Proofs.YtdflblegdfpdpaaDoor.QuoteS Go.Proofs.YtdflblegdfpdpaaDoor.ClassS
set_option linter.unusedVariables false

def canD (l : List Pc) (t : List Int) (j : Nat) : Bool := fits l (t.take j)
theorem can_nil (t : List Int) (j : Nat) (hj : j ≤ t.length) : canD [] t j = decide (j = 0) := by
  unfold canD
  rw [Bool.eq_iff_iff, fits_nil, decide_eq_true_iff]
  constructor
  · intro h
    have := congrArg List.length h
    rw [List.length_take, List.length_nil] at this
    omega
  · rintro rfl; rfl
theorem fits_last_star {p : Pc} (hp : p.star = true) (u : List Int) : fits [p] u = true := (fits_star hp).2 ⟨u.length, Nat.le_refl _, by simp [fits]⟩
theorem take_take_le (t : List Int) {i j : Nat} (h : i ≤ j) : (t.take j).take i = t.take i := by
  rw [List.take_take]
  congr 1
  omega
theorem can_star (l : List Pc) (p : Pc) (hp : p.star = true) (t : List Int) (j : Nat) (hj : j ≤ t.length) : canD (l ++ [p]) t j = (canD l t j || (decide (0 < j) && canD (l ++ [p]) t (j - 1))) := by
  have key : ∀ j, j ≤ t.length → (canD (l ++ [p]) t j = true ↔ ∃ i, i ≤ j ∧ canD l t i = true) := by
    intro j hj
    unfold canD
    rw [fits_append]
    constructor
    · rintro ⟨i, hi, h1, _⟩
      rw [List.length_take] at hi
      rw [take_take_le t (show i ≤ j by omega)] at h1
      exact ⟨i, by omega, h1⟩
    · rintro ⟨i, hi, h1⟩
      exact ⟨i, by rw [List.length_take]; omega, by rw [take_take_le t hi]; exact h1, fits_last_star hp _⟩
  rw [Bool.eq_iff_iff, key j hj, Bool.or_eq_true, Bool.and_eq_true, decide_eq_true_iff, key (j - 1) (by omega)]
  constructor
  · rintro ⟨i, hi, h⟩
    by_cases hij : i = j
    · subst hij; exact .inl h
    · exact .inr ⟨by omega, i, by omega, h⟩
  · rintro (h | ⟨h0, i, hi, h⟩)
    · exact ⟨j, Nat.le_refl _, h⟩
    · exact ⟨i, by omega, h⟩
theorem fits_one {p : Pc} (hp : p.star = false) (u : List Int) : fits [p] u = true ↔ ∃ c, u = [c] ∧ has p.set c.toNat = true := by
  cases u with
  | nil => rw [fits_set_nil hp]; simp
  | cons c r =>
    rw [fits_set hp, Bool.and_eq_true, fits_nil]
    constructor
    · rintro ⟨h, rfl⟩; exact ⟨c, rfl, h⟩
    · rintro ⟨c', h, h2⟩
      injection h with h3 h4
      subst h3
      exact ⟨h2, h4⟩
theorem can_set (l : List Pc) (p : Pc) (hp : p.star = false) (t : List Int) (j : Nat) (hj : j < t.length) : canD (l ++ [p]) t (j + 1) = (canD l t j && has p.set (t[j]).toNat) := by
  unfold canD
  rw [Bool.eq_iff_iff, fits_append, Bool.and_eq_true]
  constructor
  · rintro ⟨i, hi, h1, h2⟩
    obtain ⟨c, hc, h3⟩ := (fits_one hp _).1 h2
    have hlen := congrArg List.length hc
    rw [List.length_drop, List.length_take, List.length_singleton] at hlen
    rw [List.length_take] at hi
    obtain rfl : i = j := by omega
    rw [take_take_le t (Nat.le_succ _)] at h1
    refine ⟨h1, ?_⟩
    have h0 := congrArg (fun r => r[0]?) hc
    simp only [List.getElem?_drop, List.getElem?_take] at h0
    rw [if_pos (by omega), Nat.add_zero, List.getElem?_eq_getElem hj] at h0
    simp only [List.getElem?_cons_zero, Option.some.injEq] at h0
    rw [h0]
    exact h3
  · rintro ⟨h1, h2⟩
    refine ⟨j, by rw [List.length_take]; omega, by rw [take_take_le t (Nat.le_succ _)]; exact h1, (fits_one hp _).2 ⟨t[j], ?_, h2⟩⟩
    rw [List.drop_take, show j + 1 - j = 1 by omega, List.drop_eq_getElem_cons hj]
    rfl
theorem can_set_zero (l : List Pc) (p : Pc) (hp : p.star = false) (t : List Int) : canD (l ++ [p]) t 0 = false := by
  cases h : canD (l ++ [p]) t 0 with
  | false => rfl
  | true =>
    unfold canD at h
    obtain ⟨i, hi, h1, h2⟩ := (fits_append _ _ _).1 h
    obtain ⟨c, hc, _⟩ := (fits_one hp _).1 h2
    simp at hc
theorem can_all (l : List Pc) (t : List Int) : canD l t t.length = fits l t := by unfold canD; rw [List.take_length]
end Go.Proofs.YtdflblegdfpdpaaDoor.GlobD
end

section
/- larderref9's pieces: a block of 257 marks; bools in rows. No function of the program. -/
namespace Go.Proofs.YtdflblegdfpdpaaDoor.RowF
open Go Go.RowKit Go.Proofs.YtdflblegdfpdpaaDoorW.PrintWords Go.Proofs.YtdflblegdfpdpaaDoorW.PrintLast Go.Proofs.YtdflblegdfpdpaaDoorW.PrintMore Go.Proofs.YtdflblegdfpdpaaDoor.GlobS Go.Proofs.YtdflblegdfpdpaaDoor.ScoreW
set_option linter.unusedVariables false
set_option maxRecDepth 100000

def rowF (s : Bool) (f : Nat → Bool) : List Value := .bool s :: (List.range 256).map fun k => .bool (f k)
theorem rowF_len (s : Bool) (f : Nat → Bool) : (rowF s f).length = 257 := by simp [rowF]
theorem rowF_one (s : Bool) (f : Nat → Bool) : ∀ v ∈ rowF s f, v.oneCell' = true := by
  intro v hv
  rcases List.mem_cons.1 hv with rfl | hv
  · rfl
  · obtain ⟨k, _, rfl⟩ := List.mem_map.1 hv
    rfl
theorem rowF_one' (s : Bool) (f : Nat → Bool) : (rowF s f).toArray.all (·.oneCell') = true := by
  rw [Array.all_eq_true_iff_forall_mem]
  intro v hv
  exact rowF_one s f v (by simpa using hv)
theorem rowF_get (s : Bool) (f : Nat → Bool) (k : Nat) (hk : k < 256) : (rowF s f)[1 + k]? = some (.bool (f k)) := by
  unfold rowF
  rw [Nat.add_comm, List.getElem?_cons_succ, List.getElem?_map, List.getElem?_range hk]
  rfl
theorem rowF_congr (s : Bool) {f g : Nat → Bool} (h : ∀ k, k < 256 → f k = g k) : rowF s f = rowF s g := by
  unfold rowF
  congr 1
  exact List.map_congr_left (fun k hk => by rw [h k (List.mem_range.1 hk)])
def upd (f : Nat → Bool) (k : Nat) (b : Bool) : Nat → Bool := fun j => if j = k then b else f j
theorem rowF_set (s : Bool) (f : Nat → Bool) (k : Nat) (b : Bool) (hk : k < 256) : (rowF s f).set (1 + k) (.bool b) = rowF s (upd f k b) := by
  apply List.ext_getElem?
  intro j
  rw [List.getElem?_set]
  by_cases hj : 1 + k = j
  · subst hj
    rw [if_pos rfl, if_pos (by rw [rowF_len]; omega), rowF_get _ _ k hk]
    simp [upd]
  · rw [if_neg hj]
    cases j with
    | zero => rfl
    | succ j =>
      unfold rowF
      rw [List.getElem?_cons_succ, List.getElem?_cons_succ, List.getElem?_map, List.getElem?_map]
      by_cases h : j < 256
      · rw [List.getElem?_range h]
        simp only [Option.map_some, upd]
        rw [if_neg (by omega)]
      · rw [List.getElem?_eq_none (by simp; omega)]
        rfl
theorem rowF_star (s s' : Bool) (f : Nat → Bool) : (rowF s f).set 0 (.bool s') = rowF s' f := rfl

/-- A whole piece in a block of its own. -/
def PieceAt (W : World) (g : Nat) (s : Bool) (f : Nat → Bool) : Prop := W.heap[g]? = some (.cells (rowF s f).toArray 99 (0, 0))
theorem PieceAt.star {W : World} {g : Nat} {s : Bool} {f : Nat → Bool} (h : PieceAt W g s f) : W.cell? ⟨g, 0, none⟩ = some (.bool s) := (blk_cell h 0).trans rfl
theorem PieceAt.get {W : World} {g : Nat} {s : Bool} {f : Nat → Bool} (h : PieceAt W g s f) (k : Nat) (hk : k < 256) : W.cell? ⟨g, 1 + k, none⟩ = some (.bool (f k)) :=
  (blk_cell h (1 + k)).trans (by simpa using rowF_get s f k hk)
theorem PieceAt.frozen {W : World} {g : Nat} {s : Bool} {f : Nat → Bool} (h : PieceAt W g s f) (k : Nat) : W.frozen? ⟨g, k, none⟩ = false := blk_frozen h k
theorem PieceAt.set {W : World} {g : Nat} {s : Bool} {f : Nat → Bool} (h : PieceAt W g s f) (k : Nat) (b : Bool) (hk : k < 256) : PieceAt (W.setCell ⟨g, 1 + k, none⟩ (.bool b)) g s (upd f k b) := by
  have := blk_set h (1 + k) (.bool b)
  rw [List.setIfInBounds_toArray, rowF_set s f k b hk] at this
  exact this
theorem PieceAt.setStar {W : World} {g : Nat} {s : Bool} {f : Nat → Bool} (h : PieceAt W g s f) (b : Bool) : PieceAt (W.setCell ⟨g, 0, none⟩ (.bool b)) g b f := by
  have := blk_set h 0 (.bool b)
  rw [List.setIfInBounds_toArray, rowF_star] at this
  exact this
theorem PieceAt.below {W W' : World} {g : Nat} {s : Bool} {f : Nat → Bool} (h : PieceAt W g s f) (hb : Below W.heap.size W W') : PieceAt W' g s f := blk_below h hb
theorem PieceAt.congr {W : World} {g : Nat} {s : Bool} {f f' : Nat → Bool} (h : PieceAt W g s f) (hf : ∀ k, k < 256 → f k = f' k) : PieceAt W g s f' := by
  unfold PieceAt at *
  rw [← rowF_congr s hf]
  exact h
def noF : Nat → Bool := fun _ => false
theorem infoR : ∃ i, Tryd.prog.info? 99 = some i ∧ i.zero = some (.agg (rowF false noF).toArray) ∧ i.size = 257 ∧ i.bytes = 257 := by
  have h : (Tryd.prog.info? 99).map (fun i => (i.zero, i.size, i.bytes)) = some (some (.agg (rowF false noF).toArray), 257, 257) := by kernel_rfl
  obtain ⟨i, hi, hz⟩ := Option.map_eq_some_iff.1 h
  simp only [Prod.mk.injEq] at hz
  exact ⟨i, hi, hz.1, hz.2.1, hz.2.2⟩
theorem sizeR : (Tryd.prog.info? 99).map (·.size) = some 257 := by kernel_rfl
end Go.Proofs.YtdflblegdfpdpaaDoor.RowF
end

section
-- PRINTED by print.py (a twelfth state) out of the translation. Not trusted: Lean checks it.
namespace Go.Proofs.YtdflblegdfpdpaaDoor.PE
open Go.RowKit Go.Proofs.YtdflblegdfpdpaaDoorW.PrintWords Go.Proofs.YtdflblegdfpdpaaDoorW.PrintLast Go.Proofs.YtdflblegdfpdpaaDoorW.PrintMore
attribute [local go_sem] max2_int min2_int max_two min_two max_three min_three max_four min_four   -- for this text's walks alone
open PA PB
set_option linter.unusedVariables false
set_option linter.unusedSimpArgs false

/-! ### larderref9_byteAt: function 66 -/
def larderref9_byteAt.f (l0 : List Int) (a1 : Int) : Option (Int × Int) := if 0 ≤ a1 then (if a1 < (l0.length : Int) then (if (rd l0 a1) = 92 then (if (wrap64 (a1 + 1)) < (l0.length : Int) then (if 0 ≤ (wrap64 (a1 + 1)) then (some (wrap64 (rd l0 (wrap64 (a1 + 1))), 2)) else (none)) else (some (wrap64 (rd l0 a1), 1))) else (some (wrap64 (rd l0 a1), 1))) else (none)) else (none)
set_option maxHeartbeats 8000000 in
set_option maxRecDepth 100000 in
theorem larderref9_byteAt.calls (A0 : Option Addr) (c0 : Nat) (l0 : List Int) (a1 : Int) (r1 : Int) (r2 : Int) (w : World) (hr0 : Kd.C (Kd.int .u8) w A0 l0.length l0) (hc0 : l0.length ≤ c0) (h : larderref9_byteAt.f l0 a1 = some (r1, r2)) :
    Calls Tryd.prog 66 #[.slice A0 l0.length c0, .int .i64 a1] w fun e w' => e = .returned (.tuple #[.int .i64 r1, .int .i64 r2]) ∧ Drawn0 w w' := by
  have HR0 := Aside0.mk hr0
  have HC0 := Aside0.mk hc0
  clear hr0 hc0
  have H : (if 0 ≤ a1 then (if a1 < (l0.length : Int) then (if (rd l0 a1) = 92 then (if (wrap64 (a1 + 1)) < (l0.length : Int) then (if 0 ≤ (wrap64 (a1 + 1)) then (some (wrap64 (rd l0 (wrap64 (a1 + 1))), 2)) else (none)) else (some (wrap64 (rd l0 a1), 1))) else (some (wrap64 (rd l0 a1), 1))) else (none)) else (none)) = some (r1, r2) := h
  clear h
  by_cases c3 : 0 ≤ a1
  · rw [if_pos c3] at H
    have c3b0 : decide (0 ≤ a1) = true := decide_eq_true c3
    clear c3
    by_cases c4 : a1 < (l0.length : Int)
    · rw [if_pos c4] at H
      have c4b0 : decide (a1 < (l0.length : Int)) = true := decide_eq_true c4
      clear c4
      by_cases c5 : (rd l0 a1) = 92
      · rw [if_pos c5] at H
        have c5b0 : ((rd l0 a1) == 92) = true := beq_iff_eq.mpr c5
        have c5b1 : ((rd l0 a1) != 92) = false := bne_eq_false_iff_eq.mpr c5
        clear c5
        by_cases c6 : (wrap64 (a1 + 1)) < (l0.length : Int)
        · rw [if_pos c6] at H
          have c6b0 : decide ((wrap64 (a1 + 1)) < (l0.length : Int)) = true := decide_eq_true c6
          clear c6
          obtain ⟨ji7, hji7⟩ : ∃ j_ : Int, (wrap64 (a1 + 1)) = j_ := ⟨_, rfl⟩
          replace H : (if 0 ≤ (ji7) then (some (wrap64 (rd l0 (ji7)), 2)) else (none)) = some (r1, r2) := by first | (rw [hji7] at H; exact H) | (simp only [hji7] at H ⊢; exact H)
          (try rw [hji7] at c6b0)
          have hji7w : (IntKind.i64.wrap (a1 + 1)) = ji7 := (i64_w _).trans hji7
          by_cases c8 : 0 ≤ (ji7)
          · rw [if_pos c8] at H
            have c8b0 : decide (0 ≤ (ji7)) = true := decide_eq_true c8
            clear c8
            simp only [Option.some.injEq, Prod.mk.injEq] at H
            obtain ⟨rfl, rfl⟩ := H
            have p360 : 0 ≤ (a1 : Int) := of_decide_eq_true (by first | (with_reducible assumption) | assumption)
            have q360 : a1 < (l0.length : Int) := of_decide_eq_true (by first | (with_reducible assumption) | assumption)
            obtain ⟨ad360, e360, hx360_0⟩ := Kd.at_int HR0.out a1 p360 q360
            cases e360
            replace p360 := eq_true p360
            replace q360 := eq_true q360
            have p361 : 0 ≤ ((ji7) : Int) := of_decide_eq_true (by first | (with_reducible assumption) | assumption)
            have q361 : (ji7) < (l0.length : Int) := of_decide_eq_true (by first | (with_reducible assumption) | assumption)
            obtain ⟨ad361, e361, hx361_0⟩ := Kd.at_int HR0.out (ji7) p361 q361
            obtain rfl : ad360 = ad361 := (by injection e361)
            replace p361 := eq_true p361
            replace q361 := eq_true q361
            go_enter Tryd.func66, Tryd.ntmps66
            go_wp2
            go_ret2
            exact ⟨by first | rfl | (simp; done) | (simp only [← hji7] <;> (first | rfl | simp)) | (simp [*]; done), by repeat (first | exact Drawn0.refl _ | apply Drawn0.step)⟩
          · rw [if_neg c8] at H
            exact absurd H (by simp)
        · rw [if_neg c6] at H
          have c6b0 : decide ((wrap64 (a1 + 1)) < (l0.length : Int)) = false := decide_eq_false c6
          clear c6
          simp only [Option.some.injEq, Prod.mk.injEq] at H
          obtain ⟨rfl, rfl⟩ := H
          have p360 : 0 ≤ (a1 : Int) := of_decide_eq_true (by first | (with_reducible assumption) | assumption)
          have q360 : a1 < (l0.length : Int) := of_decide_eq_true (by first | (with_reducible assumption) | assumption)
          obtain ⟨ad360, e360, hx360_0⟩ := Kd.at_int HR0.out a1 p360 q360
          cases e360
          replace p360 := eq_true p360
          replace q360 := eq_true q360
          have p362 : 0 ≤ (a1 : Int) := of_decide_eq_true (by first | (with_reducible assumption) | assumption)
          have q362 : a1 < (l0.length : Int) := of_decide_eq_true (by first | (with_reducible assumption) | assumption)
          obtain ⟨ad362, e362, hx362_0⟩ := Kd.at_int HR0.out a1 p362 q362
          obtain rfl : ad360 = ad362 := (by injection e362)
          replace p362 := eq_true p362
          replace q362 := eq_true q362
          go_enter Tryd.func66, Tryd.ntmps66
          go_wp2
          go_ret2
          exact ⟨by first | rfl | (simp; done) | (simp [*]; done), by repeat (first | exact Drawn0.refl _ | apply Drawn0.step)⟩
      · rw [if_neg c5] at H
        have c5b0 : ((rd l0 a1) == 92) = false := beq_eq_false_iff_ne.mpr c5
        have c5b1 : ((rd l0 a1) != 92) = true := bne_iff_ne.mpr c5
        simp only [Option.some.injEq, Prod.mk.injEq] at H
        obtain ⟨rfl, rfl⟩ := H
        have p360 : 0 ≤ (a1 : Int) := of_decide_eq_true (by first | (with_reducible assumption) | assumption)
        have q360 : a1 < (l0.length : Int) := of_decide_eq_true (by first | (with_reducible assumption) | assumption)
        obtain ⟨ad360, e360, hx360_0⟩ := Kd.at_int HR0.out a1 p360 q360
        cases e360
        replace p360 := eq_true p360
        replace q360 := eq_true q360
        have p363 : 0 ≤ (a1 : Int) := of_decide_eq_true (by first | (with_reducible assumption) | assumption)
        have q363 : a1 < (l0.length : Int) := of_decide_eq_true (by first | (with_reducible assumption) | assumption)
        obtain ⟨ad363, e363, hx363_0⟩ := Kd.at_int HR0.out a1 p363 q363
        obtain rfl : ad360 = ad363 := (by injection e363)
        replace p363 := eq_true p363
        replace q363 := eq_true q363
        go_enter Tryd.func66, Tryd.ntmps66
        go_wp2
        go_ret2
        exact ⟨by first | rfl | (simp; done) | (simp [*]; done), by repeat (first | exact Drawn0.refl _ | apply Drawn0.step)⟩
    · rw [if_neg c4] at H
      exact absurd H (by simp)
  · rw [if_neg c3] at H
    exact absurd H (by simp)

end Go.Proofs.YtdflblegdfpdpaaDoor.PE
end

section
/- larderref9.byteAt, classAt: the machine's calls. -/
namespace Go.Proofs.YtdflblegdfpdpaaDoor.ClsR
open Go Go.RowKit Go.Proofs.YtdflblegdfpdpaaDoorW.PrintWords Go.Proofs.YtdflblegdfpdpaaDoorW.PrintLast Go.Proofs.YtdflblegdfpdpaaDoorW.PrintMore Go.Proofs.YtdflblegdfpdpaaDoor.GlobS Go.Proofs.YtdflblegdfpdpaaDoor.ScoreW Go.Proofs.YtdflblegdfpdpaaDoor.RowF Go.Proofs.YtdflblegdfpdpaaDoor.GlobW
set_option linter.unusedVariables false
set_option maxRecDepth 100000

theorem rd_wf {l : List Int} (hl : ∀ c ∈ l, 0 ≤ c ∧ c < 256) (i : Nat) (h : i < l.length) : 0 ≤ rd l i ∧ rd l i < 256 := by
  have e : rd l i = l[i] := by
    unfold rd
    rw [Int.toNat_natCast, List.getD_eq_getElem?_getD, List.getElem?_eq_getElem h]
    rfl
  rw [e]
  exact hl _ (List.getElem_mem h)
theorem byteAt_f (l : List Int) (i : Nat) (hl : ∀ c ∈ l, 0 ≤ c ∧ c < 256) (h : i < l.length) (hlen : l.length ≤ 1048576) : PE.larderref9_byteAt.f l i = some (qAt l i, ((qTo l i - i : Nat) : Int)) := by
  have e1 : wrap64 ((i : Int) + 1) = ((i + 1 : Nat) : Int) := by unfold wrap64; omega
  have hw : ∀ x : Int, 0 ≤ x ∧ x < 256 → wrap64 x = x := fun x hx => by unfold wrap64; omega
  have h0 := rd_wf hl i h
  unfold PE.larderref9_byteAt.f qAt qTo
  rw [if_pos (by omega), if_pos (by omega), e1]
  by_cases h92 : rd l i = 92
  · rw [if_pos h92]
    by_cases h1 : i + 1 < l.length
    · have h2 := rd_wf hl (i + 1) h1
      rw [if_pos (by omega), if_pos (by omega), if_pos ⟨h92, h1⟩, if_pos ⟨h92, h1⟩, hw _ h2]
      congr 2
      omega
    · rw [if_neg (by omega), if_neg (by rintro ⟨_, h⟩; exact h1 h), if_neg (by rintro ⟨_, h⟩; exact h1 h), hw _ h0]
      congr 2
      omega
  · rw [if_neg h92, if_neg (by rintro ⟨h, _⟩; exact h92 h), if_neg (by rintro ⟨h, _⟩; exact h92 h), hw _ h0]
    congr 2
    omega
theorem byteAt.calls (A : Option Addr) (c : Nat) (l : List Int) (i : Nat) (x : Int) (n : Nat) (w : World) (hr : Kd.C (Kd.int .u8) w A l.length l) (hc : l.length ≤ c) (hl : ∀ c ∈ l, 0 ≤ c ∧ c < 256) (h : i < l.length) (hlen : l.length ≤ 1048576) (hx : qAt l i = x) (hn : qTo l i = i + n) :
    Calls Tryd.prog 66 #[.slice A l.length c, .int .i64 i] w fun e w' => e = .returned (.tuple #[.int .i64 x, .int .i64 n]) ∧ Below w.heap.size w w' :=
  (PE.larderref9_byteAt.calls A c l i x n w hr hc (by rw [byteAt_f l i hl h hlen, hx, hn, show i + n - i = n by omega])).mono fun e w' h => ⟨h.1, h.2.below⟩
theorem to_plus (l : List Int) (i : Nat) (h : i < l.length) : ∃ n : Nat, qTo l i = i + n ∧ 0 < n := ⟨qTo l i - i, by have := qTo_le l i h; omega, by have := qTo_le l i h; omega⟩

/-- Amidst a class: the piece under way, the result's block. -/
structure CInv (w wr : World) (g4 g6 : Nat) (f : Nat → Bool) : Prop where
  pc : PieceAt wr g6 false f
  out : PieceAt wr g4 false noF
  bel : Below w.heap.size w wr
theorem CInv.next {w wr w' : World} {g4 g6 : Nat} {f : Nat → Bool} (h : CInv w wr g4 g6 f) (hb : Below wr.heap.size wr w') : CInv w w' g4 g6 f := ⟨h.pc.below hb, h.out.below hb, PB.below_next h.bel hb⟩
theorem CInv.congr {w wr : World} {g4 g6 : Nat} {f f' : Nat → Bool} (h : CInv w wr g4 g6 f) (hf : ∀ k, k < 256 → f k = f' k) : CInv w wr g4 g6 f' := ⟨h.pc.congr hf, h.out, h.bel⟩
theorem CInv.set {w wr : World} {g4 g6 : Nat} {f : Nat → Bool} (h : CInv w wr g4 g6 f) (hg : g4 ≠ g6) (hw : w.heap.size ≤ g6) (k : Nat) (b : Bool) (hk : k < 256) : CInv w (wr.setCell ⟨g6, 1 + k, none⟩ (.bool b)) g4 g6 (upd f k b) :=
  ⟨h.pc.set k b hk, by
    unfold PieceAt
    rw [Below.heap_setCell wr _ _ g4 hg]
    exact h.out, GlobW.below_put h.bel hw (1 + k) _⟩
theorem alloc_row (ρ : Operand → Value) (o : Oper) (ho : o.op = .alloc 99) (W : World) : (execOp ρ o).run Tryd.prog W = .ok (.value (.pointer (some ⟨W.heap.size, 0, none⟩))) (W.alloc (.cells (rowF false noF).toArray 99)) := by
  obtain ⟨i, hi, h0, h1, h2⟩ := infoR
  simp [execOp, ho, Instr.alloc, zeroValue, typeInfo, hi, h0, newVar, newRow, Result.andThen, Value.cells]
theorem build_row : Tryd.prog.built 99 [] = some (rowF false noF).toArray := by kernel_rfl
theorem cell_lt {W : World} {g : Nat} {o : Obj} (h : W.heap[g]? = some o) : g < W.heap.size := by
  rcases Nat.lt_or_ge g W.heap.size with h1 | h1
  · exact h1
  · rw [Array.getElem?_eq_none h1] at h; cases h
/-- Does the byte k lie between x and y? -/
def inR (x y : Int) (k : Nat) : Bool := decide (x ≤ (k : Int) ∧ (k : Int) ≤ y ∨ y ≤ (k : Int) ∧ (k : Int) ≤ x)
theorem inR_keep {q : Q} {x y : Int} {k k' : Nat} (h : inR x y k = false) : (has q k' || (decide (k' < k) && inR x y k')) = (has q k' || (decide (k' < k + 1) && inR x y k')) := by
  by_cases hk : k' = k
  · subst hk; simp [h]
  · congr 2
    rw [decide_eq_decide]
    omega
theorem inR_upd {q : Q} {x y : Int} {k k' : Nat} (h : inR x y k = true) : upd (fun k' => has q k' || (decide (k' < k) && inR x y k')) k true k' = (has q k' || (decide (k' < k + 1) && inR x y k')) := by
  unfold upd
  by_cases hk : k' = k
  · subst hk; simp [h]
  · rw [if_neg hk]
    dsimp only
    congr 2
    rw [decide_eq_decide]
    omega
theorem inR_all (q : Q) {x y : Int} (hx0 : 0 ≤ x) (hx : x < 256) (hy : 0 ≤ y ∧ y < 256) {k : Nat} (hk : k < 256) : (has q k || (decide (k < 256) && inR x y k)) = has (addQ q x.toNat y.toNat) k := by
  rw [has_addQ q _ _ k (by omega) (by omega) hk, decide_eq_true hk, Bool.true_and]
  congr 1
  unfold inR
  rw [decide_eq_decide]
  omega
theorem not_upd (f : Nat → Bool) (k k' : Nat) : upd (fun k' => if k' < k then !f k' else f k') k (!f k) k' = if k' < k + 1 then !f k' else f k' := by
  unfold upd
  by_cases hk : k' = k
  · subst hk; simp
  · rw [if_neg hk]
    dsimp only
    by_cases h1 : k' < k
    · rw [if_pos h1, if_pos (by omega)]
    · rw [if_neg h1, if_neg (by omega)]
set_option maxHeartbeats 8000000 in
theorem classAt.calls (A : Option Addr) (c : Nat) (l : List Int) (i0 : Nat) (w : World) (hr : Kd.C (Kd.int .u8) w A l.length l) (hc : l.length ≤ c) (hl : ∀ c ∈ l, 0 ≤ c ∧ c < 256) (hlen : l.length ≤ 1048576) (hi : i0 < l.length) :
    Calls Tryd.prog 65 #[.slice A l.length c, .int .i64 i0] w fun e w' => ∃ j : Nat, e = .returned (.tuple #[.agg (rowF false (has (membersL (l.drop (i0 + 1))).1)).toArray, .int .i64 j]) ∧ i0 + 1 < j ∧ j ≤ l.length + 1 ∧ l.drop j = (membersL (l.drop (i0 + 1))).2 ∧ Below w.heap.size w w' := by
  have HR := Aside0.mk hr
  have HL := Aside0.mk hl
  clear hr hl
  go_enter Tryd.func65, Tryd.ntmps65
  go_upto_region 2 with (first
    | ((with_reducible refine gate_dst (N := 4) rfl ?_); refine Go.Great.wpList_allocTo rfl (some 4) rfl _ _ (alloc_row _ _ rfl w) ?_; have B4 := Aside0.mk (blk_new w (.cells (rowF false noF).toArray 99)); have HB4 := Aside0.mk (below_alloc (Below.refl w.heap.size w) (.cells (rowF false noF).toArray 99)); obtain ⟨w4, hw4⟩ : ∃ w4, w4 = w.alloc (.cells (rowF false noF).toArray 99) := ⟨_, rfl⟩; rw [← hw4] at B4 HB4; rw [← hw4]; clear hw4)
    | ((with_reducible refine gate_dst (N := 15) rfl ?_); refine Go.Great.wpList_buildTo rfl 99 #[] rfl (some 15) rfl _ build_row ?_)
    | ((with_reducible refine gate_dst (N := 6) rfl ?_); refine Go.Great.wpList_allocTo rfl (some 6) rfl _ _ (alloc_row _ _ rfl w4) ?_; have B6 := Aside0.mk (blk_new w4 (.cells (rowF false noF).toArray 99)); have HB6 := Aside0.mk (below_alloc (Below.refl w4.heap.size w4) (.cells (rowF false noF).toArray 99)); obtain ⟨w6, hw6⟩ : ∃ w6, w6 = w4.alloc (.cells (rowF false noF).toArray 99) := ⟨_, rfl⟩; rw [← hw6] at B6 HB6; rw [← hw6]; clear hw6)
    | ((with_reducible refine gate_store (p := 6) rfl ?_); refine wpList_store_row rfl 99 (.tmp 6) (.tmp 15) rfl w4.heap.size (rowF false noF).toArray rfl rfl 99 (rowF false noF).toArray B6.out (by rw [sizeR]; simp [rowF_len]) rfl (rowF_one' _ _) ?_; obtain ⟨w7, hw7⟩ : ∃ w7, w7 = w6.setRow w4.heap.size (rowF false noF).toArray := ⟨_, rfl⟩; rw [← hw7]; have B7 := Aside0.mk (show w7.heap[w4.heap.size]? = some (.cells (rowF false noF).toArray 99 (0, 0)) by rw [hw7]; exact setRow_heap _ _ _ _ _ _ B6.out); have HW7 := Aside0.mk hw7; clear hw7))
  -- BIG
  obtain ⟨g4, hg4⟩ : ∃ g4, g4 = w.heap.size := ⟨_, rfl⟩
  obtain ⟨g6, hg6⟩ : ∃ g6, g6 = w4.heap.size := ⟨_, rfl⟩
  have hlt46 : w.heap.size < w4.heap.size := cell_lt B4.out
  have HC0 : Aside0 (CInv w w7 g4 g6 noF) := ⟨⟨by rw [hg6]; exact B7.out, by
    unfold PieceAt
    rw [hg4, HW7.out, setRow_other _ _ _ _ (by omega)]
    exact blk_below B4.out HB6.out, by rw [HW7.out]; exact below_setRow (PB.below_next HB4.out HB6.out) (by omega) _⟩⟩
  have HNE : Aside0 (g4 ≠ g6) := ⟨by omega⟩
  have HGE : Aside0 (w.heap.size ≤ g6) := ⟨by omega⟩
  have HG4 : Aside0 (w.heap.size ≤ g4) := ⟨by omega⟩
  rw [← hg4, ← hg6]
  clear hg4 hg6 hlt46 B4 HB4 B6 HB6 B7 HW7
  obtain ⟨i1, hi1⟩ : ∃ i1, i1 = i0 + 1 := ⟨_, rfl⟩
  have HI1 := Aside0.mk hi1
  go_upto_region 3 with fail
  rw [show (i0 : Int) + 1 = (i1 : Int) by omega]
  have hi1l : i1 ≤ l.length := by omega
  clear hi1
  go_upto_region 4 with fail
  go_cut [28] (fun v28 wc => ∃ b : Bool, v28 = .bool b ∧ wc = w7 ∧ Aside0 (b = true ↔ (i1 < l.length ∧ rd l i1 = 94)))
  case first =>
    by_cases hlt : i1 < l.length
    · have c1 : decide ((i1 : Int) < l.length) = true := decide_eq_true (by omega)
      have c1' : decide (i1 < l.length) = true := decide_eq_true hlt
      obtain ⟨ad, rfl, hcA⟩ := Kd.at_int (Kd.C_below HR.out HC0.out.bel) (i1 : Int) (by omega) (by omega)
      simp only [Int.toNat_natCast] at hcA
      by_cases h94 : rd l i1 = 94
      · have c2 : (rd l i1 == 94) = true := by simp [h94]
        have H94 := Aside0.mk h94
        clear h94
        go_wp2_with fail
        go_meet
        exact ⟨true, rfl, by first | rfl | trivial, ⟨by simp [H94.out, hlt]⟩⟩
      · have c2 : (rd l i1 == 94) = false := by simp [h94]
        go_wp2_with fail
        go_meet
        exact ⟨false, rfl, by first | rfl | trivial, ⟨by simp [h94]⟩⟩
    · have c1 : decide ((i1 : Int) < l.length) = false := decide_eq_false (by omega)
      have c1' : decide (i1 < l.length) = false := decide_eq_false hlt
      go_wp2_with fail
      go_meet
      exact ⟨false, rfl, by first | rfl | trivial, ⟨by simp [hlt]⟩⟩
  case rest =>
    obtain ⟨b, rfl, rfl, HBB0⟩ := hcut
    cases b
    · have HM := Aside0.mk (membersL_else l i1 (fun h1 h2 => absurd (HBB0.out.2 ⟨h1, h2⟩) (by simp)))
      obtain ⟨s0, hs0⟩ : ∃ s0, s0 = i1 := ⟨_, rfl⟩
      have HS0 : Aside0 (i0 + 1 ≤ s0) := ⟨by rw [hs0, HI1.out]; exact Nat.le_refl _⟩
      have hs0l : s0 ≤ l.length := by omega
      have HM : Aside0 (membersL (l.drop i1) = classL (l.drop s0) noneQ) := ⟨by rw [hs0]; exact HM.out⟩
      clear HBB0
      go_wp2_with fail
      rw [show (i1 : Int) = (s0 : Int) by rw [hs0]]
      clear hs0 hi1l
      go_loopw [1, 8, 9, 10, 11, 12, 13] (fun v1 v8 v9 v10 v11 v12 v13 wr => ∃ (i : Nat) (q : Q), v1 = .int .i64 i ∧ i ≤ l.length ∧ Aside0 (s0 ≤ i ∧ QIn q ∧ classL (l.drop s0) noneQ = classL (l.drop i) q ∧ CInv w wr g4 g6 (has q))) (fun v1 v8 v9 v10 v11 v12 v13 wr => l.length - (intOf v1).toNat)
      case atStart => exact ⟨s0, noneQ, rfl, by omega, ⟨Nat.le_refl _, QIn.noneQ, rfl, HC0.out.congr (fun k hk => (has_noneQ k).symm)⟩⟩
      case round =>
        obtain ⟨i, q, rfl, hi2, HI⟩ := hrel
        rename World => wr
        go_upto_region 7 with fail
        go_cut [41] (fun v41 wc => ∃ b : Bool, v41 = .bool b ∧ wc = wr ∧ Aside0 (b = true ↔ (i < l.length ∧ rd l i ≠ 93)))
        case first =>
          by_cases hlt : i < l.length
          · have c1 : decide ((i : Int) < l.length) = true := decide_eq_true (by omega)
            have c1' : decide (i < l.length) = true := decide_eq_true hlt
            obtain ⟨ad, rfl, hcA⟩ := Kd.at_int (Kd.C_below HR.out HI.out.2.2.2.bel) (i : Int) (by omega) (by omega)
            simp only [Int.toNat_natCast] at hcA
            by_cases h93 : rd l i = 93
            · have c2 : (rd l i != 93) = false := by simp [h93]
              have H93 := Aside0.mk h93
              clear h93
              go_wp2_with fail
              go_meet
              exact ⟨false, rfl, by first | rfl | trivial, ⟨by simp [H93.out]⟩⟩
            · have c2 : (rd l i != 93) = true := by simp [h93]
              go_wp2_with fail
              go_meet
              exact ⟨true, rfl, by first | rfl | trivial, ⟨by simp [h93, hlt]⟩⟩
          · have c1 : decide ((i : Int) < l.length) = false := decide_eq_false (by omega)
            have c1' : decide (i < l.length) = false := decide_eq_false hlt
            go_wp2_with fail
            go_meet
            exact ⟨false, rfl, by first | rfl | trivial, ⟨by simp [hlt]⟩⟩
        case rest =>
          obtain ⟨b, rfl, rfl, HBB⟩ := hcut
          cases b
          · have HD : Aside0 (classL (l.drop s0) noneQ = (q, l.drop (i + 1))) := ⟨by
              rw [HI.out.2.2.1]
              by_cases hlt : i < l.length
              · refine classL_end l i q hlt ?_
                by_cases h93 : rd l i = 93
                · exact h93
                · exact absurd (HBB.out.2 ⟨hlt, h93⟩) (by simp)
              · exact classL_nil l i q (by omega)⟩
            have HM2 := Aside0.mk HM.out
            rw [HD.out] at HM2
            have hsi := HI.out.1
            have HC := Aside0.mk HI.out.2.2.2
            have HQ := Aside0.mk HI.out.2.1
            clear HI HBB HD HM
            go_wp2_with (first
              | ((with_reducible refine gate_dst (N := 122) rfl ?_); refine wpList_load_row rfl 99 (.tmp 6) rfl g6 rfl 99 (rowF false (has q)).toArray (0, 0) _ HC.out.pc Tryd.underlying99 rfl (by rw [sizeR]; simp [rowF_len]) ?_)
              | ((with_reducible refine gate_store (p := 4) rfl ?_); refine wpList_store_row rfl 99 (.tmp 4) (.tmp 122) rfl g4 (rowF false (has q)).toArray rfl rfl 99 (rowF false noF).toArray HC.out.out (by rw [sizeR]; simp [rowF_len]) (by simp [rowF_len]) (rowF_one' _ _) ?_; have HRET := Aside0.mk (setRow_heap _ _ _ (rowF false (has q)).toArray _ _ HC.out.out); have HBR := Aside0.mk (below_setRow HC.out.bel HG4.out (rowF false (has q)).toArray)))
            refine bodyPost_ret (GlobW.results_cell_row_tmp (P := Tryd.prog) rfl _ _ g4 99 _ (0, 0) _ rfl HRET.out Tryd.underlying99 rfl (by rw [sizeR]; simp [rowF_len])) rfl ?_
            rw [← HI1.out, HM2.out]
            exact ⟨i + 1, by first | rfl | (simp; done), by have := HS0.out; have := HI1.out; have := hsi; omega, by omega, rfl, HBR.out⟩
          · obtain ⟨hlt, h93⟩ := HBB.out.1 rfl
            clear HBB
            obtain ⟨n, hn, hn0⟩ := to_plus l i hlt
            have hnl := (qTo_le l i hlt).2
            obtain ⟨x, hx⟩ : ∃ x, qAt l i = x := ⟨_, rfl⟩
            have hxr : 0 ≤ x ∧ x < 256 := by
              obtain ⟨m, h1, h2⟩ := qAt_in l HL.out i hlt
              rw [← hx, h1]; omega
            have HX := Aside0.mk hx
            have HN := Aside0.mk hn
            have H93 := Aside0.mk h93
            obtain ⟨j, hj⟩ : ∃ j, j = i + n := ⟨_, rfl⟩
            have hji : i < j := by omega
            have hjl : j ≤ l.length := by rw [hn] at hnl; omega
            clear hx hnl h93
            have HBA := Aside0.mk (byteAt.calls A c l i x n _ (Kd.C_below HR.out HI.out.2.2.2.bel) hc HL.out hlt hlen HX.out hn)
            clear hn
            go_wp2_with fail
            refine HBA.out.mono ?_
            rintro e w8 ⟨rfl, hb⟩
            have HC8 := Aside0.mk (HI.out.2.2.2.next hb)
            clear hb HBA
            go_upto_region 10 with fail
            rw [show (i : Int) + (n : Int) = (j : Int) by omega]
            have HJ0 := Aside0.mk hj
            clear hj hn0
            go_upto_region 11 with fail
            go_cut [71] (fun v71 wc => ∃ b : Bool, v71 = .bool b ∧ wc = w8 ∧ Aside0 (b = true ↔ (j + 1 < l.length ∧ rd l j = 45 ∧ ¬ rd l ((j + 1 : Nat) : Int) = 93)))
            case first =>
              by_cases h1 : j + 1 < l.length
              · have d1 : decide ((j : Int) + 1 < l.length) = true := decide_eq_true (by omega)
                have d1' : decide (j + 1 < l.length) = true := decide_eq_true h1
                have HRr := Aside0.mk (Kd.C_below HR.out HC8.out.bel)
                obtain ⟨ad, rfl, hcB⟩ := Kd.at_int HRr.out (j : Int) (by omega) (by omega)
                obtain ⟨ad', he, hcC⟩ := Kd.at_int HRr.out ((j + 1 : Nat) : Int) (by omega) (by omega)
                obtain rfl := Option.some.inj he
                simp only [Int.toNat_natCast] at hcB hcC
                have hcC2 : w8.cell? ⟨ad.block, ad.off + (j + 1), none⟩ = some (.int .u8 (rd l ((j + 1 : Nat) : Int))) := by have h := hcC; unfold Addr.add at h; rw [if_neg (by omega)] at h; exact h
                clear hcC he
                obtain ⟨r2, hr2⟩ : ∃ r2, r2 = rd l ((j + 1 : Nat) : Int) := ⟨_, rfl⟩
                rw [← hr2] at hcC2
                have HR2 := Aside0.mk hr2
                clear hr2
                by_cases h45 : rd l j = 45
                · have d2 : (rd l j == 45) = true := by simp [h45]
                  have H45 := Aside0.mk h45
                  clear h45
                  by_cases h93 : r2 = 93
                  · have d3 : (r2 != 93) = false := by simp [h93]
                    have H2 := Aside0.mk h93
                    clear h93
                    go_wp2_with fail
                    go_meet
                    exact ⟨false, rfl, by first | rfl | trivial, ⟨by rw [← HR2.out]; simp [H2.out]⟩⟩
                  · have d3 : (r2 != 93) = true := by simp [h93]
                    go_wp2_with fail
                    go_meet
                    exact ⟨true, rfl, by first | rfl | trivial, ⟨by rw [← HR2.out]; simp [h93, h1, H45.out]⟩⟩
                · have d2 : (rd l j == 45) = false := by simp [h45]
                  go_wp2_with fail
                  go_meet
                  exact ⟨false, rfl, by first | rfl | trivial, ⟨by simp [h45]⟩⟩
              · have d1 : decide ((j : Int) + 1 < l.length) = false := decide_eq_false (by omega)
                have d1' : decide (j + 1 < l.length) = false := decide_eq_false h1
                go_wp2_with fail
                go_meet
                exact ⟨false, rfl, by first | rfl | trivial, ⟨by simp [h1]⟩⟩
            case rest =>
              obtain ⟨b, rfl, rfl, HB2⟩ := hcut
              have HTO : Aside0 (qTo l i = j) := ⟨by rw [HN.out, HJ0.out]⟩
              cases b
              · have CLO : Aside0 (classL (l.drop i) q = classL (l.drop j) (addQ q x.toNat x.toNat)) := ⟨by
                  rw [classL_one l i q hlt H93.out (by rw [HTO.out]; intro h; exact absurd (HB2.out.2 h) (by simp)), HTO.out, HX.out]⟩
                clear HB2
                go_upto_region 15 with fail
                go_wp2_with fail
                go_loopw [13] (fun v13 wq => ∃ k : Nat, v13 = .int .i64 k ∧ k ≤ 256 ∧ Aside0 (CInv w wq g4 g6 (fun k' => has q k' || (decide (k' < k) && inR x x k')))) (fun v13 wq => 256 - (intOf v13).toNat)
                case atStart => exact ⟨0, rfl, by omega, ⟨HC8.out.congr (fun k hk => by simp)⟩⟩
                case round =>
                  obtain ⟨k, rfl, hk2, HJ⟩ := hrel
                  by_cases hk : k < 256
                  · have f1 : decide ((k : Int) < 256) = true := decide_eq_true (by omega)
                    have f1' : decide (k < 256) = true := decide_eq_true hk
                    have hcell := HJ.out.pc.get k hk
                    have hfz := HJ.out.pc.frozen (1 + k)
                    rename World => wq
                    go_upto_region 18 with fail
                    go_cut [105] (fun v105 wc => ∃ b : Bool, v105 = .bool b ∧ wc = wq ∧ Aside0 (b = inR x x k))
                    case first =>
                      by_cases h1 : x ≤ (k : Int)
                      · have d1 : decide (x ≤ (k : Int)) = true := decide_eq_true h1
                        by_cases h2 : (k : Int) ≤ x
                        · have d2 : decide ((k : Int) ≤ x) = true := decide_eq_true h2
                          go_wp2_with fail
                          go_meet
                          exact ⟨true, rfl, by first | rfl | trivial, ⟨(decide_eq_true (.inl ⟨h1, h2⟩)).symm⟩⟩
                        · have d2 : decide ((k : Int) ≤ x) = false := decide_eq_false h2
                          by_cases h3 : x ≤ (k : Int)
                          · have d3 : decide (x ≤ (k : Int)) = true := decide_eq_true h3
                            by_cases h4 : (k : Int) ≤ x
                            · have d4 : decide ((k : Int) ≤ x) = true := decide_eq_true h4
                              go_wp2_with fail
                              go_meet
                              first | exact ⟨true, rfl, by first | rfl | trivial, ⟨(decide_eq_true (.inr ⟨h3, h4⟩)).symm⟩⟩ | exact (show False by omega).elim
                            · have d4 : decide ((k : Int) ≤ x) = false := decide_eq_false h4
                              go_wp2_with fail
                              go_meet
                              exact ⟨false, rfl, by first | rfl | trivial, ⟨(decide_eq_false (by omega)).symm⟩⟩
                          · have d3 : decide (x ≤ (k : Int)) = false := decide_eq_false h3
                            go_wp2_with fail
                            go_meet
                            exact ⟨false, rfl, by first | rfl | trivial, ⟨(decide_eq_false (by omega)).symm⟩⟩
                      · have d1 : decide (x ≤ (k : Int)) = false := decide_eq_false h1
                        by_cases h3 : x ≤ (k : Int)
                        · have d3 : decide (x ≤ (k : Int)) = true := decide_eq_true h3
                          by_cases h4 : (k : Int) ≤ x
                          · have d4 : decide ((k : Int) ≤ x) = true := decide_eq_true h4
                            go_wp2_with fail
                            go_meet
                            first | exact ⟨true, rfl, by first | rfl | trivial, ⟨(decide_eq_true (.inr ⟨h3, h4⟩)).symm⟩⟩ | exact (show False by omega).elim
                          · have d4 : decide ((k : Int) ≤ x) = false := decide_eq_false h4
                            go_wp2_with fail
                            go_meet
                            exact ⟨false, rfl, by first | rfl | trivial, ⟨(decide_eq_false (by omega)).symm⟩⟩
                        · have d3 : decide (x ≤ (k : Int)) = false := decide_eq_false h3
                          go_wp2_with fail
                          go_meet
                          exact ⟨false, rfl, by first | rfl | trivial, ⟨(decide_eq_false (by omega)).symm⟩⟩
                    case rest =>
                      obtain ⟨b, rfl, rfl, HBB⟩ := hcut
                      cases b
                      · go_wp2_with fail
                        go_roundw
                        case rel => exact ⟨k + 1, by go_num, by omega, ⟨HJ.out.congr (fun k' hk' => inR_keep HBB.out.symm)⟩⟩
                        case measure => simp [intOf]; omega
                      · go_wp2_with fail
                        go_roundw
                        case rel => exact ⟨k + 1, by go_num, by omega, ⟨(HJ.out.set HNE.out HGE.out k true hk).congr (fun k' hk' => inR_upd HBB.out.symm)⟩⟩
                        case measure => simp [intOf]; omega
                  · obtain rfl : k = 256 := by omega
                    have f1 : decide (((256 : Nat) : Int) < 256) = false := by decide
                    have f1' : decide ((256 : Nat) < 256) = false := by decide
                    have HC' := Aside0.mk (HJ.out.congr (fun k' hk' => inR_all q hxr.1 hxr.2 hxr hk'))
                    clear HJ
                    go_wp2_with fail
                    go_roundw
                    case rel => exact ⟨j, addQ q x.toNat (x).toNat, by first | rfl | go_num | trivial, hjl, ⟨by have := HI.out.1; omega, HI.out.2.1.addQ _ _, HI.out.2.2.1.trans CLO.out, HC'.out⟩⟩
                    case measure => simp [intOf]; omega
              · obtain ⟨h1, h45, h93b⟩ := HB2.out.1 rfl
                clear HB2
                obtain ⟨m, hm, hm0⟩ := to_plus l (j + 1) h1
                have hml := (qTo_le l (j + 1) h1).2
                obtain ⟨y, hy⟩ : ∃ y, qAt l (j + 1) = y := ⟨_, rfl⟩
                have hyr : 0 ≤ y ∧ y < 256 := by
                  obtain ⟨m', h2, h3⟩ := qAt_in l HL.out (j + 1) h1
                  rw [← hy, h2]; omega
                have HY := Aside0.mk hy
                have HM0 := Aside0.mk hm
                obtain ⟨j2, hj2⟩ : ∃ j2, j2 = j + 1 + m := ⟨_, rfl⟩
                have hjj : i < j2 := by omega
                have hjl2 : j2 ≤ l.length := by rw [hm] at hml; omega
                have CLO : Aside0 (classL (l.drop i) q = classL (l.drop j2) (addQ q x.toNat y.toNat)) := ⟨by
                  rw [classL_range l i q hlt H93.out (by rw [HTO.out]; exact h1) (by rw [HTO.out]; exact h45) (by rw [HTO.out]; exact h93b), HTO.out, HX.out, HY.out, HM0.out, hj2]⟩
                have HBA := Aside0.mk (byteAt.calls A c l (j + 1) y m _ (Kd.C_below HR.out HC8.out.bel) hc HL.out h1 hlen HY.out hm)
                clear hy hm hml h45 h93b
                go_wp2_with fail
                refine HBA.out.mono ?_
                rintro e w9 ⟨rfl, hb⟩
                have HC9 := Aside0.mk (HC8.out.next hb)
                clear hb HBA HC8
                go_upto_region 15 with fail
                rw [show (j : Int) + 1 + (m : Int) = (j2 : Int) by omega]
                clear hj2 hm0
                go_upto_region 15 with fail
                go_wp2_with fail
                go_loopw [13] (fun v13 wq => ∃ k : Nat, v13 = .int .i64 k ∧ k ≤ 256 ∧ Aside0 (CInv w wq g4 g6 (fun k' => has q k' || (decide (k' < k) && inR x y k')))) (fun v13 wq => 256 - (intOf v13).toNat)
                case atStart => exact ⟨0, rfl, by omega, ⟨HC9.out.congr (fun k hk => by simp)⟩⟩
                case round =>
                  obtain ⟨k, rfl, hk2, HJ⟩ := hrel
                  by_cases hk : k < 256
                  · have f1 : decide ((k : Int) < 256) = true := decide_eq_true (by omega)
                    have f1' : decide (k < 256) = true := decide_eq_true hk
                    have hcell := HJ.out.pc.get k hk
                    have hfz := HJ.out.pc.frozen (1 + k)
                    rename World => wq
                    go_upto_region 18 with fail
                    go_cut [105] (fun v105 wc => ∃ b : Bool, v105 = .bool b ∧ wc = wq ∧ Aside0 (b = inR x y k))
                    case first =>
                      by_cases h1 : x ≤ (k : Int)
                      · have d1 : decide (x ≤ (k : Int)) = true := decide_eq_true h1
                        by_cases h2 : (k : Int) ≤ y
                        · have d2 : decide ((k : Int) ≤ y) = true := decide_eq_true h2
                          go_wp2_with fail
                          go_meet
                          exact ⟨true, rfl, by first | rfl | trivial, ⟨(decide_eq_true (.inl ⟨h1, h2⟩)).symm⟩⟩
                        · have d2 : decide ((k : Int) ≤ y) = false := decide_eq_false h2
                          by_cases h3 : y ≤ (k : Int)
                          · have d3 : decide (y ≤ (k : Int)) = true := decide_eq_true h3
                            by_cases h4 : (k : Int) ≤ x
                            · have d4 : decide ((k : Int) ≤ x) = true := decide_eq_true h4
                              go_wp2_with fail
                              go_meet
                              first | exact ⟨true, rfl, by first | rfl | trivial, ⟨(decide_eq_true (.inr ⟨h3, h4⟩)).symm⟩⟩ | exact (show False by omega).elim
                            · have d4 : decide ((k : Int) ≤ x) = false := decide_eq_false h4
                              go_wp2_with fail
                              go_meet
                              exact ⟨false, rfl, by first | rfl | trivial, ⟨(decide_eq_false (by omega)).symm⟩⟩
                          · have d3 : decide (y ≤ (k : Int)) = false := decide_eq_false h3
                            go_wp2_with fail
                            go_meet
                            exact ⟨false, rfl, by first | rfl | trivial, ⟨(decide_eq_false (by omega)).symm⟩⟩
                      · have d1 : decide (x ≤ (k : Int)) = false := decide_eq_false h1
                        by_cases h3 : y ≤ (k : Int)
                        · have d3 : decide (y ≤ (k : Int)) = true := decide_eq_true h3
                          by_cases h4 : (k : Int) ≤ x
                          · have d4 : decide ((k : Int) ≤ x) = true := decide_eq_true h4
                            go_wp2_with fail
                            go_meet
                            first | exact ⟨true, rfl, by first | rfl | trivial, ⟨(decide_eq_true (.inr ⟨h3, h4⟩)).symm⟩⟩ | exact (show False by omega).elim
                          · have d4 : decide ((k : Int) ≤ x) = false := decide_eq_false h4
                            go_wp2_with fail
                            go_meet
                            exact ⟨false, rfl, by first | rfl | trivial, ⟨(decide_eq_false (by omega)).symm⟩⟩
                        · have d3 : decide (y ≤ (k : Int)) = false := decide_eq_false h3
                          go_wp2_with fail
                          go_meet
                          exact ⟨false, rfl, by first | rfl | trivial, ⟨(decide_eq_false (by omega)).symm⟩⟩
                    case rest =>
                      obtain ⟨b, rfl, rfl, HBB⟩ := hcut
                      cases b
                      · go_wp2_with fail
                        go_roundw
                        case rel => exact ⟨k + 1, by go_num, by omega, ⟨HJ.out.congr (fun k' hk' => inR_keep HBB.out.symm)⟩⟩
                        case measure => simp [intOf]; omega
                      · go_wp2_with fail
                        go_roundw
                        case rel => exact ⟨k + 1, by go_num, by omega, ⟨(HJ.out.set HNE.out HGE.out k true hk).congr (fun k' hk' => inR_upd HBB.out.symm)⟩⟩
                        case measure => simp [intOf]; omega
                  · obtain rfl : k = 256 := by omega
                    have f1 : decide (((256 : Nat) : Int) < 256) = false := by decide
                    have f1' : decide ((256 : Nat) < 256) = false := by decide
                    have HC' := Aside0.mk (HJ.out.congr (fun k' hk' => inR_all q hxr.1 hxr.2 hyr hk'))
                    clear HJ
                    go_wp2_with fail
                    go_roundw
                    case rel => exact ⟨j2, addQ q x.toNat (y).toNat, by first | rfl | go_num | trivial, hjl2, ⟨by have := HI.out.1; omega, HI.out.2.1.addQ _ _, HI.out.2.2.1.trans CLO.out, HC'.out⟩⟩
                    case measure => simp [intOf]; omega
    · obtain ⟨h1, h2⟩ := HBB0.out.1 rfl
      have HM := Aside0.mk (membersL_not l i1 h1 h2)
      obtain ⟨s0, hs0⟩ : ∃ s0, s0 = i1 + 1 := ⟨_, rfl⟩
      have HS0 : Aside0 (i0 + 1 ≤ s0) := ⟨by rw [hs0, HI1.out]; exact Nat.le_succ _⟩
      have hs0l : s0 ≤ l.length := by omega
      rw [← hs0] at HM
      clear HBB0 h1 h2
      go_wp2_with fail
      rw [show (i1 : Int) + 1 = (s0 : Int) by omega]
      clear hs0 hi1l
      go_loopw [1, 8, 9, 10, 11, 12, 13] (fun v1 v8 v9 v10 v11 v12 v13 wr => ∃ (i : Nat) (q : Q), v1 = .int .i64 i ∧ i ≤ l.length ∧ Aside0 (s0 ≤ i ∧ QIn q ∧ classL (l.drop s0) noneQ = classL (l.drop i) q ∧ CInv w wr g4 g6 (has q))) (fun v1 v8 v9 v10 v11 v12 v13 wr => l.length - (intOf v1).toNat)
      case atStart => exact ⟨s0, noneQ, rfl, by omega, ⟨Nat.le_refl _, QIn.noneQ, rfl, HC0.out.congr (fun k hk => (has_noneQ k).symm)⟩⟩
      case round =>
        obtain ⟨i, q, rfl, hi2, HI⟩ := hrel
        rename World => wr
        go_upto_region 7 with fail
        go_cut [41] (fun v41 wc => ∃ b : Bool, v41 = .bool b ∧ wc = wr ∧ Aside0 (b = true ↔ (i < l.length ∧ rd l i ≠ 93)))
        case first =>
          by_cases hlt : i < l.length
          · have c1 : decide ((i : Int) < l.length) = true := decide_eq_true (by omega)
            have c1' : decide (i < l.length) = true := decide_eq_true hlt
            obtain ⟨ad, rfl, hcA⟩ := Kd.at_int (Kd.C_below HR.out HI.out.2.2.2.bel) (i : Int) (by omega) (by omega)
            simp only [Int.toNat_natCast] at hcA
            by_cases h93 : rd l i = 93
            · have c2 : (rd l i != 93) = false := by simp [h93]
              have H93 := Aside0.mk h93
              clear h93
              go_wp2_with fail
              go_meet
              exact ⟨false, rfl, by first | rfl | trivial, ⟨by simp [H93.out]⟩⟩
            · have c2 : (rd l i != 93) = true := by simp [h93]
              go_wp2_with fail
              go_meet
              exact ⟨true, rfl, by first | rfl | trivial, ⟨by simp [h93, hlt]⟩⟩
          · have c1 : decide ((i : Int) < l.length) = false := decide_eq_false (by omega)
            have c1' : decide (i < l.length) = false := decide_eq_false hlt
            go_wp2_with fail
            go_meet
            exact ⟨false, rfl, by first | rfl | trivial, ⟨by simp [hlt]⟩⟩
        case rest =>
          obtain ⟨b, rfl, rfl, HBB⟩ := hcut
          cases b
          · have HD : Aside0 (classL (l.drop s0) noneQ = (q, l.drop (i + 1))) := ⟨by
              rw [HI.out.2.2.1]
              by_cases hlt : i < l.length
              · refine classL_end l i q hlt ?_
                by_cases h93 : rd l i = 93
                · exact h93
                · exact absurd (HBB.out.2 ⟨hlt, h93⟩) (by simp)
              · exact classL_nil l i q (by omega)⟩
            have HM2 := Aside0.mk HM.out
            rw [HD.out] at HM2
            have hsi := HI.out.1
            have HC := Aside0.mk HI.out.2.2.2
            have HQ := Aside0.mk HI.out.2.1
            clear HI HBB HD HM
            go_wp2_with fail
            go_loopw [14] (fun v14 wq => ∃ k : Nat, v14 = .int .i64 k ∧ k ≤ 256 ∧ Aside0 (CInv w wq g4 g6 (fun k' => if k' < k then !has q k' else has q k'))) (fun v14 wq => 256 - (intOf v14).toNat)
            case atStart => exact ⟨0, rfl, by omega, ⟨HC.out.congr (fun k hk => by simp)⟩⟩
            case round =>
              obtain ⟨k, rfl, hk2, HJ⟩ := hrel
              by_cases hk : k < 256
              · have f1 : decide ((k : Int) < 256) = true := decide_eq_true (by omega)
                have f1' : decide (k < 256) = true := decide_eq_true hk
                have hcell := HJ.out.pc.get k hk
                rw [if_neg (Nat.lt_irrefl k)] at hcell
                have hfz := HJ.out.pc.frozen (1 + k)
                go_wp2_with fail
                go_roundw
                case rel => exact ⟨k + 1, by go_num, by omega, ⟨(HJ.out.set HNE.out HGE.out k (!has q k) hk).congr (fun k' hk' => not_upd (has q) k k')⟩⟩
                case measure => simp [intOf]; omega
              · obtain rfl : k = 256 := by omega
                have f1 : decide (((256 : Nat) : Int) < 256) = false := by decide
                have f1' : decide ((256 : Nat) < 256) = false := by decide
                have HC' := Aside0.mk (HJ.out.congr (f' := has (notQ q)) (fun k' hk' => by rw [if_pos hk', has_notQ HQ.out k' hk']))
                clear HJ HC
                go_wp2_with (first
                  | ((with_reducible refine gate_dst (N := 122) rfl ?_); refine wpList_load_row rfl 99 (.tmp 6) rfl g6 rfl 99 (rowF false (has (notQ q))).toArray (0, 0) _ HC'.out.pc Tryd.underlying99 rfl (by rw [sizeR]; simp [rowF_len]) ?_)
                  | ((with_reducible refine gate_store (p := 4) rfl ?_); refine wpList_store_row rfl 99 (.tmp 4) (.tmp 122) rfl g4 (rowF false (has (notQ q))).toArray rfl rfl 99 (rowF false noF).toArray HC'.out.out (by rw [sizeR]; simp [rowF_len]) (by simp [rowF_len]) (rowF_one' _ _) ?_; have HRET := Aside0.mk (setRow_heap _ _ _ (rowF false (has (notQ q))).toArray _ _ HC'.out.out); have HBR := Aside0.mk (below_setRow HC'.out.bel HG4.out (rowF false (has (notQ q))).toArray)))
                refine bodyPost_ret (GlobW.results_cell_row_tmp (P := Tryd.prog) rfl _ _ g4 99 _ (0, 0) _ rfl HRET.out Tryd.underlying99 rfl (by rw [sizeR]; simp [rowF_len])) rfl ?_
                rw [← HI1.out, HM2.out]
                exact ⟨i + 1, by first | rfl | (simp; done), by have := HS0.out; have := HI1.out; have := hsi; omega, by omega, rfl, HBR.out⟩
          · obtain ⟨hlt, h93⟩ := HBB.out.1 rfl
            clear HBB
            obtain ⟨n, hn, hn0⟩ := to_plus l i hlt
            have hnl := (qTo_le l i hlt).2
            obtain ⟨x, hx⟩ : ∃ x, qAt l i = x := ⟨_, rfl⟩
            have hxr : 0 ≤ x ∧ x < 256 := by
              obtain ⟨m, h1, h2⟩ := qAt_in l HL.out i hlt
              rw [← hx, h1]; omega
            have HX := Aside0.mk hx
            have HN := Aside0.mk hn
            have H93 := Aside0.mk h93
            obtain ⟨j, hj⟩ : ∃ j, j = i + n := ⟨_, rfl⟩
            have hji : i < j := by omega
            have hjl : j ≤ l.length := by rw [hn] at hnl; omega
            clear hx hnl h93
            have HBA := Aside0.mk (byteAt.calls A c l i x n _ (Kd.C_below HR.out HI.out.2.2.2.bel) hc HL.out hlt hlen HX.out hn)
            clear hn
            go_wp2_with fail
            refine HBA.out.mono ?_
            rintro e w8 ⟨rfl, hb⟩
            have HC8 := Aside0.mk (HI.out.2.2.2.next hb)
            clear hb HBA
            go_upto_region 10 with fail
            rw [show (i : Int) + (n : Int) = (j : Int) by omega]
            have HJ0 := Aside0.mk hj
            clear hj hn0
            go_upto_region 11 with fail
            go_cut [71] (fun v71 wc => ∃ b : Bool, v71 = .bool b ∧ wc = w8 ∧ Aside0 (b = true ↔ (j + 1 < l.length ∧ rd l j = 45 ∧ ¬ rd l ((j + 1 : Nat) : Int) = 93)))
            case first =>
              by_cases h1 : j + 1 < l.length
              · have d1 : decide ((j : Int) + 1 < l.length) = true := decide_eq_true (by omega)
                have d1' : decide (j + 1 < l.length) = true := decide_eq_true h1
                have HRr := Aside0.mk (Kd.C_below HR.out HC8.out.bel)
                obtain ⟨ad, rfl, hcB⟩ := Kd.at_int HRr.out (j : Int) (by omega) (by omega)
                obtain ⟨ad', he, hcC⟩ := Kd.at_int HRr.out ((j + 1 : Nat) : Int) (by omega) (by omega)
                obtain rfl := Option.some.inj he
                simp only [Int.toNat_natCast] at hcB hcC
                have hcC2 : w8.cell? ⟨ad.block, ad.off + (j + 1), none⟩ = some (.int .u8 (rd l ((j + 1 : Nat) : Int))) := by have h := hcC; unfold Addr.add at h; rw [if_neg (by omega)] at h; exact h
                clear hcC he
                obtain ⟨r2, hr2⟩ : ∃ r2, r2 = rd l ((j + 1 : Nat) : Int) := ⟨_, rfl⟩
                rw [← hr2] at hcC2
                have HR2 := Aside0.mk hr2
                clear hr2
                by_cases h45 : rd l j = 45
                · have d2 : (rd l j == 45) = true := by simp [h45]
                  have H45 := Aside0.mk h45
                  clear h45
                  by_cases h93 : r2 = 93
                  · have d3 : (r2 != 93) = false := by simp [h93]
                    have H2 := Aside0.mk h93
                    clear h93
                    go_wp2_with fail
                    go_meet
                    exact ⟨false, rfl, by first | rfl | trivial, ⟨by rw [← HR2.out]; simp [H2.out]⟩⟩
                  · have d3 : (r2 != 93) = true := by simp [h93]
                    go_wp2_with fail
                    go_meet
                    exact ⟨true, rfl, by first | rfl | trivial, ⟨by rw [← HR2.out]; simp [h93, h1, H45.out]⟩⟩
                · have d2 : (rd l j == 45) = false := by simp [h45]
                  go_wp2_with fail
                  go_meet
                  exact ⟨false, rfl, by first | rfl | trivial, ⟨by simp [h45]⟩⟩
              · have d1 : decide ((j : Int) + 1 < l.length) = false := decide_eq_false (by omega)
                have d1' : decide (j + 1 < l.length) = false := decide_eq_false h1
                go_wp2_with fail
                go_meet
                exact ⟨false, rfl, by first | rfl | trivial, ⟨by simp [h1]⟩⟩
            case rest =>
              obtain ⟨b, rfl, rfl, HB2⟩ := hcut
              have HTO : Aside0 (qTo l i = j) := ⟨by rw [HN.out, HJ0.out]⟩
              cases b
              · have CLO : Aside0 (classL (l.drop i) q = classL (l.drop j) (addQ q x.toNat x.toNat)) := ⟨by
                  rw [classL_one l i q hlt H93.out (by rw [HTO.out]; intro h; exact absurd (HB2.out.2 h) (by simp)), HTO.out, HX.out]⟩
                clear HB2
                go_upto_region 15 with fail
                go_wp2_with fail
                go_loopw [13] (fun v13 wq => ∃ k : Nat, v13 = .int .i64 k ∧ k ≤ 256 ∧ Aside0 (CInv w wq g4 g6 (fun k' => has q k' || (decide (k' < k) && inR x x k')))) (fun v13 wq => 256 - (intOf v13).toNat)
                case atStart => exact ⟨0, rfl, by omega, ⟨HC8.out.congr (fun k hk => by simp)⟩⟩
                case round =>
                  obtain ⟨k, rfl, hk2, HJ⟩ := hrel
                  by_cases hk : k < 256
                  · have f1 : decide ((k : Int) < 256) = true := decide_eq_true (by omega)
                    have f1' : decide (k < 256) = true := decide_eq_true hk
                    have hcell := HJ.out.pc.get k hk
                    have hfz := HJ.out.pc.frozen (1 + k)
                    rename World => wq
                    go_upto_region 18 with fail
                    go_cut [105] (fun v105 wc => ∃ b : Bool, v105 = .bool b ∧ wc = wq ∧ Aside0 (b = inR x x k))
                    case first =>
                      by_cases h1 : x ≤ (k : Int)
                      · have d1 : decide (x ≤ (k : Int)) = true := decide_eq_true h1
                        by_cases h2 : (k : Int) ≤ x
                        · have d2 : decide ((k : Int) ≤ x) = true := decide_eq_true h2
                          go_wp2_with fail
                          go_meet
                          exact ⟨true, rfl, by first | rfl | trivial, ⟨(decide_eq_true (.inl ⟨h1, h2⟩)).symm⟩⟩
                        · have d2 : decide ((k : Int) ≤ x) = false := decide_eq_false h2
                          by_cases h3 : x ≤ (k : Int)
                          · have d3 : decide (x ≤ (k : Int)) = true := decide_eq_true h3
                            by_cases h4 : (k : Int) ≤ x
                            · have d4 : decide ((k : Int) ≤ x) = true := decide_eq_true h4
                              go_wp2_with fail
                              go_meet
                              first | exact ⟨true, rfl, by first | rfl | trivial, ⟨(decide_eq_true (.inr ⟨h3, h4⟩)).symm⟩⟩ | exact (show False by omega).elim
                            · have d4 : decide ((k : Int) ≤ x) = false := decide_eq_false h4
                              go_wp2_with fail
                              go_meet
                              exact ⟨false, rfl, by first | rfl | trivial, ⟨(decide_eq_false (by omega)).symm⟩⟩
                          · have d3 : decide (x ≤ (k : Int)) = false := decide_eq_false h3
                            go_wp2_with fail
                            go_meet
                            exact ⟨false, rfl, by first | rfl | trivial, ⟨(decide_eq_false (by omega)).symm⟩⟩
                      · have d1 : decide (x ≤ (k : Int)) = false := decide_eq_false h1
                        by_cases h3 : x ≤ (k : Int)
                        · have d3 : decide (x ≤ (k : Int)) = true := decide_eq_true h3
                          by_cases h4 : (k : Int) ≤ x
                          · have d4 : decide ((k : Int) ≤ x) = true := decide_eq_true h4
                            go_wp2_with fail
                            go_meet
                            first | exact ⟨true, rfl, by first | rfl | trivial, ⟨(decide_eq_true (.inr ⟨h3, h4⟩)).symm⟩⟩ | exact (show False by omega).elim
                          · have d4 : decide ((k : Int) ≤ x) = false := decide_eq_false h4
                            go_wp2_with fail
                            go_meet
                            exact ⟨false, rfl, by first | rfl | trivial, ⟨(decide_eq_false (by omega)).symm⟩⟩
                        · have d3 : decide (x ≤ (k : Int)) = false := decide_eq_false h3
                          go_wp2_with fail
                          go_meet
                          exact ⟨false, rfl, by first | rfl | trivial, ⟨(decide_eq_false (by omega)).symm⟩⟩
                    case rest =>
                      obtain ⟨b, rfl, rfl, HBB⟩ := hcut
                      cases b
                      · go_wp2_with fail
                        go_roundw
                        case rel => exact ⟨k + 1, by go_num, by omega, ⟨HJ.out.congr (fun k' hk' => inR_keep HBB.out.symm)⟩⟩
                        case measure => simp [intOf]; omega
                      · go_wp2_with fail
                        go_roundw
                        case rel => exact ⟨k + 1, by go_num, by omega, ⟨(HJ.out.set HNE.out HGE.out k true hk).congr (fun k' hk' => inR_upd HBB.out.symm)⟩⟩
                        case measure => simp [intOf]; omega
                  · obtain rfl : k = 256 := by omega
                    have f1 : decide (((256 : Nat) : Int) < 256) = false := by decide
                    have f1' : decide ((256 : Nat) < 256) = false := by decide
                    have HC' := Aside0.mk (HJ.out.congr (fun k' hk' => inR_all q hxr.1 hxr.2 hxr hk'))
                    clear HJ
                    go_wp2_with fail
                    go_roundw
                    case rel => exact ⟨j, addQ q x.toNat (x).toNat, by first | rfl | go_num | trivial, hjl, ⟨by have := HI.out.1; omega, HI.out.2.1.addQ _ _, HI.out.2.2.1.trans CLO.out, HC'.out⟩⟩
                    case measure => simp [intOf]; omega
              · obtain ⟨h1, h45, h93b⟩ := HB2.out.1 rfl
                clear HB2
                obtain ⟨m, hm, hm0⟩ := to_plus l (j + 1) h1
                have hml := (qTo_le l (j + 1) h1).2
                obtain ⟨y, hy⟩ : ∃ y, qAt l (j + 1) = y := ⟨_, rfl⟩
                have hyr : 0 ≤ y ∧ y < 256 := by
                  obtain ⟨m', h2, h3⟩ := qAt_in l HL.out (j + 1) h1
                  rw [← hy, h2]; omega
                have HY := Aside0.mk hy
                have HM0 := Aside0.mk hm
                obtain ⟨j2, hj2⟩ : ∃ j2, j2 = j + 1 + m := ⟨_, rfl⟩
                have hjj : i < j2 := by omega
                have hjl2 : j2 ≤ l.length := by rw [hm] at hml; omega
                have CLO : Aside0 (classL (l.drop i) q = classL (l.drop j2) (addQ q x.toNat y.toNat)) := ⟨by
                  rw [classL_range l i q hlt H93.out (by rw [HTO.out]; exact h1) (by rw [HTO.out]; exact h45) (by rw [HTO.out]; exact h93b), HTO.out, HX.out, HY.out, HM0.out, hj2]⟩
                have HBA := Aside0.mk (byteAt.calls A c l (j + 1) y m _ (Kd.C_below HR.out HC8.out.bel) hc HL.out h1 hlen HY.out hm)
                clear hy hm hml h45 h93b
                go_wp2_with fail
                refine HBA.out.mono ?_
                rintro e w9 ⟨rfl, hb⟩
                have HC9 := Aside0.mk (HC8.out.next hb)
                clear hb HBA HC8
                go_upto_region 15 with fail
                rw [show (j : Int) + 1 + (m : Int) = (j2 : Int) by omega]
                clear hj2 hm0
                go_upto_region 15 with fail
                go_wp2_with fail
                go_loopw [13] (fun v13 wq => ∃ k : Nat, v13 = .int .i64 k ∧ k ≤ 256 ∧ Aside0 (CInv w wq g4 g6 (fun k' => has q k' || (decide (k' < k) && inR x y k')))) (fun v13 wq => 256 - (intOf v13).toNat)
                case atStart => exact ⟨0, rfl, by omega, ⟨HC9.out.congr (fun k hk => by simp)⟩⟩
                case round =>
                  obtain ⟨k, rfl, hk2, HJ⟩ := hrel
                  by_cases hk : k < 256
                  · have f1 : decide ((k : Int) < 256) = true := decide_eq_true (by omega)
                    have f1' : decide (k < 256) = true := decide_eq_true hk
                    have hcell := HJ.out.pc.get k hk
                    have hfz := HJ.out.pc.frozen (1 + k)
                    rename World => wq
                    go_upto_region 18 with fail
                    go_cut [105] (fun v105 wc => ∃ b : Bool, v105 = .bool b ∧ wc = wq ∧ Aside0 (b = inR x y k))
                    case first =>
                      by_cases h1 : x ≤ (k : Int)
                      · have d1 : decide (x ≤ (k : Int)) = true := decide_eq_true h1
                        by_cases h2 : (k : Int) ≤ y
                        · have d2 : decide ((k : Int) ≤ y) = true := decide_eq_true h2
                          go_wp2_with fail
                          go_meet
                          exact ⟨true, rfl, by first | rfl | trivial, ⟨(decide_eq_true (.inl ⟨h1, h2⟩)).symm⟩⟩
                        · have d2 : decide ((k : Int) ≤ y) = false := decide_eq_false h2
                          by_cases h3 : y ≤ (k : Int)
                          · have d3 : decide (y ≤ (k : Int)) = true := decide_eq_true h3
                            by_cases h4 : (k : Int) ≤ x
                            · have d4 : decide ((k : Int) ≤ x) = true := decide_eq_true h4
                              go_wp2_with fail
                              go_meet
                              first | exact ⟨true, rfl, by first | rfl | trivial, ⟨(decide_eq_true (.inr ⟨h3, h4⟩)).symm⟩⟩ | exact (show False by omega).elim
                            · have d4 : decide ((k : Int) ≤ x) = false := decide_eq_false h4
                              go_wp2_with fail
                              go_meet
                              exact ⟨false, rfl, by first | rfl | trivial, ⟨(decide_eq_false (by omega)).symm⟩⟩
                          · have d3 : decide (y ≤ (k : Int)) = false := decide_eq_false h3
                            go_wp2_with fail
                            go_meet
                            exact ⟨false, rfl, by first | rfl | trivial, ⟨(decide_eq_false (by omega)).symm⟩⟩
                      · have d1 : decide (x ≤ (k : Int)) = false := decide_eq_false h1
                        by_cases h3 : y ≤ (k : Int)
                        · have d3 : decide (y ≤ (k : Int)) = true := decide_eq_true h3
                          by_cases h4 : (k : Int) ≤ x
                          · have d4 : decide ((k : Int) ≤ x) = true := decide_eq_true h4
                            go_wp2_with fail
                            go_meet
                            first | exact ⟨true, rfl, by first | rfl | trivial, ⟨(decide_eq_true (.inr ⟨h3, h4⟩)).symm⟩⟩ | exact (show False by omega).elim
                          · have d4 : decide ((k : Int) ≤ x) = false := decide_eq_false h4
                            go_wp2_with fail
                            go_meet
                            exact ⟨false, rfl, by first | rfl | trivial, ⟨(decide_eq_false (by omega)).symm⟩⟩
                        · have d3 : decide (y ≤ (k : Int)) = false := decide_eq_false h3
                          go_wp2_with fail
                          go_meet
                          exact ⟨false, rfl, by first | rfl | trivial, ⟨(decide_eq_false (by omega)).symm⟩⟩
                    case rest =>
                      obtain ⟨b, rfl, rfl, HBB⟩ := hcut
                      cases b
                      · go_wp2_with fail
                        go_roundw
                        case rel => exact ⟨k + 1, by go_num, by omega, ⟨HJ.out.congr (fun k' hk' => inR_keep HBB.out.symm)⟩⟩
                        case measure => simp [intOf]; omega
                      · go_wp2_with fail
                        go_roundw
                        case rel => exact ⟨k + 1, by go_num, by omega, ⟨(HJ.out.set HNE.out HGE.out k true hk).congr (fun k' hk' => inR_upd HBB.out.symm)⟩⟩
                        case measure => simp [intOf]; omega
                  · obtain rfl : k = 256 := by omega
                    have f1 : decide (((256 : Nat) : Int) < 256) = false := by decide
                    have f1' : decide ((256 : Nat) < 256) = false := by decide
                    have HC' := Aside0.mk (HJ.out.congr (fun k' hk' => inR_all q hxr.1 hxr.2 hyr hk'))
                    clear HJ
                    go_wp2_with fail
                    go_roundw
                    case rel => exact ⟨j2, addQ q x.toNat (y).toNat, by first | rfl | go_num | trivial, hjl2, ⟨by have := HI.out.1; omega, HI.out.2.1.addQ _ _, HI.out.2.2.1.trans CLO.out, HC'.out⟩⟩
                    case measure => simp [intOf]; omega
end Go.Proofs.YtdflblegdfpdpaaDoor.ClsR
end

section
/- larderref9.Pieces: the machine's call. -/
namespace Go.Proofs.YtdflblegdfpdpaaDoor.PcsR
open Go Go.RowKit Go.Proofs.YtdflblegdfpdpaaDoorW.PrintWords Go.Proofs.YtdflblegdfpdpaaDoorW.PrintLast Go.Proofs.YtdflblegdfpdpaaDoorW.PrintMore Go.Proofs.YtdflblegdfpdpaaDoor.GlobS Go.Proofs.YtdflblegdfpdpaaDoor.ScoreW Go.Proofs.YtdflblegdfpdpaaDoor.RowF Go.Proofs.YtdflblegdfpdpaaDoor.GlobW Go.Proofs.YtdflblegdfpdpaaDoor.ClsR
set_option linter.unusedVariables false
set_option maxRecDepth 100000

/-- A piece's 257 cells. -/
def pcR : Kd Pc where
  sz := 257
  E := []
  K := fun _ p cs => cs = rowF p.star (has p.set)
  M := fun _ _ _ p cs => cs = rowF p.star (has p.set)
  K_len := by rintro w x cs rfl; exact rowF_len _ _
  K_one := by rintro w x cs rfl; exact rowF_one _ _
  K_below := fun _ h => h
  K_of_M := fun h => h
  M_mono := fun _ h => h
  M_bound := fun h => h
  M_move := fun _ h => h
  M_lower := fun _ h => h
theorem infoRT : (Tryd.prog.info? 99).map (fun i => (i.zero, i.size, i.bytes)) = some (some (.agg (rowF false noF).toArray), 257, 257) := by kernel_rfl
theorem built_row (s : Bool) (f : Nat → Bool) : Tryd.prog.builtSlice 99 1 [(0, .agg (rowF s f).toArray)] = some (rowF s f).toArray := by
  obtain ⟨i, hi, h0, h1, h2⟩ := infoR
  unfold Program.builtSlice
  simp only [hi, h0, h1]
  rw [if_neg (by decide)]
  have := Go.Great.fill_whole (s := 257) (by decide) [.agg (rowF s f).toArray] ((Array.range (1 * 257)).map ((Value.agg (rowF false noF).toArray).cells[· % (Value.agg (rowF false noF).toArray).cells.size]!)) (by intro v hv; rw [List.mem_singleton.1 hv]; simp [Value.cells, rowF_len]) (by simp)
  rw [show ([(0, Value.agg (rowF s f).toArray)] : List (Nat × Value)) = (([Value.agg (rowF s f).toArray] : List Value).zipIdx 0).map fun x => (x.2, x.1) from rfl, this]
  simp [Value.cells]
/-- Amidst the pieces. -/
structure PInv (w wr : World) (l : List Int) (i : Nat) (v : Value) (done : List Pc) : Prop where
  rest : piecesL l = done ++ piecesL (l.drop i)
  len : done.length ≤ i
  row : pcR.R 99 wr w.heap.size (fun _ => True) v done
  below : Below w.heap.size w wr
theorem PInv.start (w : World) (l : List Int) : PInv w w l 0 (.slice none 0 0) [] := ⟨rfl, Nat.le_refl _, Kd.R_nil _ _ _ _ _, Below.refl _ _⟩
/-- One piece has been read. -/
structure Mid (wr wc : World) (l : List Int) (i j : Nat) (p : Pc) (g : Nat) : Prop where
  lo : i < j
  hi : j ≤ l.length + 1
  one : pieceL (l.drop i) = (p, l.drop j)
  pc : PieceAt wc g p.star (has p.set)
  bel : Below wr.heap.size wr wc
theorem PInv.next {w wr w7 : World} {l : List Int} {i j : Nat} {v v7 : Value} {done : List Pc} {p : Pc} (h : PInv w wr l i v done) (hlt : i < l.length) (hij : i < j) (hone : pieceL (l.drop i) = (p, l.drop j)) (ho : pcR.R 99 w7 w.heap.size (fun _ => True) v7 (done ++ [p])) (hb : Below w.heap.size w w7) : PInv w w7 l j v7 (done ++ [p]) := by
  refine ⟨?_, ?_, ho, hb⟩
  · rw [h.rest, rd_drop l i hlt, piecesL, ← rd_drop l i hlt, hone, List.append_assoc]
    rfl
  · have := h.len
    rw [List.length_append, List.length_singleton]; omega
theorem has_oneQ (c : Int) (hc : 0 ≤ c ∧ c < 256) (k : Nat) (hk : k < 256) : has (oneQ c) k = decide (k = c.toNat) := by
  unfold oneQ
  rw [has_addQ _ _ _ _ (by omega) (by omega) hk, has_noneQ, Bool.false_or, decide_eq_decide]
  omega
set_option maxHeartbeats 8000000 in
theorem pieces.calls (A : Option Addr) (c : Nat) (l : List Int) (w : World) (hr : Kd.C (Kd.int .u8) w A l.length l) (hc : l.length ≤ c) (hl : ∀ c ∈ l, 0 ≤ c ∧ c < 256) (hlen : l.length ≤ 1048576) :
    Calls Tryd.prog 56 #[.slice A l.length c] w fun e w' => ∃ v, e = .returned v ∧ pcR.R 99 w' w.heap.size (fun _ => True) v (piecesL l) ∧ (piecesL l).length ≤ 1048577 ∧ Below w.heap.size w w' := by
  have HR := Aside0.mk hr
  have HL := Aside0.mk hl
  clear hr hl
  go_enter Tryd.func56, Tryd.ntmps56
  go_wp2_with fail
  go_loopw [3, 4] (fun v3 v4 wr => ∃ (i : Nat) (done : List Pc), v4 = .int .i64 i ∧ i ≤ l.length + 1 ∧ Aside0 (PInv w wr l i v3 done)) (fun v3 v4 wr => l.length + 1 - (intOf v4).toNat)
  case atStart => exact ⟨0, [], rfl, by omega, ⟨PInv.start w l⟩⟩
  case round =>
    obtain ⟨i, done, rfl, hi2, HI⟩ := hrel
    rename World => wr
    by_cases hlt : i < l.length
    · have c1 : decide ((i : Int) < l.length) = true := decide_eq_true (by omega)
      have c1' : decide (i < l.length) = true := decide_eq_true hlt
      have HRr := Aside0.mk (Kd.C_below HR.out HI.out.below)
      obtain ⟨ad, rfl, hcA⟩ := Kd.at_int HRr.out (i : Int) (by omega) (by omega)
      simp only [Int.toNat_natCast] at hcA
      by_cases h91 : rd l i = 91
      · have d1 : (rd l i == 91) = true := by simp [h91]
        have HP : Aside0 (pieceL (l.drop i) = (⟨false, (membersL (l.drop (i + 1))).1⟩, (membersL (l.drop (i + 1))).2)) := ⟨by
          rw [rd_drop l i hlt, pieceL_cons, if_neg (by omega), if_neg (by omega), if_pos h91]⟩
        clear h91
        have HCA := Aside0.mk (classAt.calls (some ad) c l i wr HRr.out hc HL.out hlen hlt)
        clear HRr
        go_wp2_with fail
        refine HCA.out.mono ?_
        rintro e w5 ⟨j, rfl, hij, hjl, hdj, hb⟩
        rw [← hdj] at HP
        have HB5 := Aside0.mk hb
        have HDJ := Aside0.mk hdj
        clear hb hdj HCA
        generalize (membersL (l.drop (i + 1))).1 = q at *
        go_upto_region 6 with (first
          | ((with_reducible refine gate_dst (N := 5) rfl ?_); refine Go.Great.wpList_allocTo rfl (some 5) rfl _ _ (alloc_row _ _ rfl w5) ?_; have B6 := Aside0.mk (blk_new w5 (.cells (rowF false noF).toArray 99)); have HB6 := Aside0.mk (PB.below_next HB5.out (below_alloc (Below.refl w5.heap.size w5) (.cells (rowF false noF).toArray 99))); obtain ⟨w6, hw6⟩ : ∃ w6, w6 = w5.alloc (.cells (rowF false noF).toArray 99) := ⟨_, rfl⟩; rw [← hw6] at B6 HB6; rw [← hw6]; clear hw6)
          | ((with_reducible refine gate_store (p := 5) rfl ?_); refine wpList_store_row rfl 99 (.tmp 5) (.tmp 25) rfl w5.heap.size (rowF false (has q)).toArray rfl rfl 99 (rowF false noF).toArray B6.out (by rw [sizeR]; simp [rowF_len]) (by simp [rowF_len]) (rowF_one' _ _) ?_; obtain ⟨w7, hw7⟩ : ∃ w7, w7 = w6.setRow w5.heap.size (rowF false (has q)).toArray := ⟨_, rfl⟩; rw [← hw7]; have B7 := Aside0.mk (show w7.heap[w5.heap.size]? = some (.cells (rowF false (has q)).toArray 99 (0, 0)) by rw [hw7]; exact setRow_heap _ _ _ _ _ _ B6.out); have HB7 := Aside0.mk (show Below wr.heap.size wr w7 by rw [hw7]; exact below_setRow HB6.out HB5.out.size _); clear hw7))
        have HBW := Aside0.mk (PB.below_next HI.out.below HB7.out)
        have HROW := Aside0.mk (Kd.R_below HI.out.row HB7.out)
        go_wp2_with (first
          | ((with_reducible refine gate_dst (N := 28) rfl ?_); refine wpList_load_row rfl 99 (.tmp 5) rfl w5.heap.size rfl 99 (rowF false (has q)).toArray (0, 0) _ B7.out Tryd.underlying99 rfl (by rw [sizeR]; simp [rowF_len]) ?_)
          | ((with_reducible refine gate_dst (N := 29) rfl ?_); refine Go.Great.wpList_buildSliceTo rfl 94 99 1 #[(0, Operand.tmp 28)] rfl w7.heap.size rfl (some 29) rfl Tryd.underlying94 (rowF false (has q)).toArray (by rw [Array.toList_map]; exact built_row _ _) ?_)
          | ((with_reducible refine gate_builtin (b := .append) (xs := #[.tmp 27, .tmp 29]) rfl ?_); at_builtin; refine Kd.R_append pcR (w0 := w) w.heap.size rfl (.tmp 27) (.tmp 29) 94 99 (.agg (rowF false noF).toArray) 257 rfl Tryd.underlying94 infoRT (by simp [Value.cells, rowF_len]; rfl) (by decide) (by decide) u3 done ⟨false, q⟩ (rowF false (has q)) (fun _ => True) (fun _ => False) rfl rfl ?aP (fun _ h => h.elim) (fun _ _ => trivial) ?aO ?aB ?aS ?aL ?_; (case aP => rfl); (case aO => exact HROW.out); (case aB => exact HBW.out); (case aS => exact HBW.out.size); (case aL => have := HI.out.len; omega); intro v8 w8 ho hb hg hat; have HO := Aside0.mk ho; have HBN := Aside0.mk hb; clear ho hb hg hat))
        go_roundw
        case rel =>
          have hlo : i < j := by omega
          refine ⟨j, done ++ [⟨false, q⟩], ?_, ?_, ?_⟩
          · rfl
          · exact hjl
          · exact ⟨PInv.next (j := j) (p := ⟨false, q⟩) HI.out hlt hlo HP.out HO.out HBN.out⟩
        case measure => simp [intOf]; omega
      · have d1 : (rd l i == 91) = false := by simp [h91]
        obtain ⟨ch, hch⟩ : ∃ ch, ch = rd l i := ⟨_, rfl⟩
        rw [← hch] at hcA d1 h91
        have HCH := Aside0.mk hch
        clear hch
        go_upto_region 10 with (first
          | ((with_reducible refine gate_dst (N := 32) rfl ?_); refine Go.Great.wpList_buildTo rfl 99 #[] rfl (some 32) rfl _ build_row ?_)
          | ((with_reducible refine gate_dst (N := 7) rfl ?_); refine Go.Great.wpList_allocTo rfl (some 7) rfl _ _ (alloc_row _ _ rfl wr) ?_; have B6 := Aside0.mk (blk_new wr (.cells (rowF false noF).toArray 99)); have HB6 := Aside0.mk (below_alloc (Below.refl wr.heap.size wr) (.cells (rowF false noF).toArray 99)); obtain ⟨w6, hw6⟩ : ∃ w6, w6 = wr.alloc (.cells (rowF false noF).toArray 99) := ⟨_, rfl⟩; rw [← hw6] at B6 HB6; rw [← hw6]; clear hw6)
          | ((with_reducible refine gate_store (p := 7) rfl ?_); refine wpList_store_row rfl 99 (.tmp 7) (.tmp 32) rfl wr.heap.size (rowF false noF).toArray rfl rfl 99 (rowF false noF).toArray B6.out (by rw [sizeR]; simp [rowF_len]) rfl (rowF_one' _ _) ?_; obtain ⟨w7, hw7⟩ : ∃ w7, w7 = w6.setRow wr.heap.size (rowF false noF).toArray := ⟨_, rfl⟩; rw [← hw7]; have B7 := Aside0.mk (show PieceAt w7 wr.heap.size false noF by unfold PieceAt; rw [hw7]; exact setRow_heap _ _ _ _ _ _ B6.out); have HB7 := Aside0.mk (show Below wr.heap.size wr w7 by rw [hw7]; exact below_setRow HB6.out (Nat.le_refl _) _); clear hw7))
        have hcA7 : w7.cell? (ad.add i) = some (.int .u8 ch) := pw_cell_below HB7.out hcA
        obtain ⟨g, hg⟩ : ∃ g, g = wr.heap.size := ⟨_, rfl⟩
        rw [← hg] at B7
        rw [← hg]
        have HG := Aside0.mk hg
        clear hg hcA B6 HB6
        go_upto_if 37 with fail
        go_cut [8] (fun v8 wc => ∃ (n : Nat) (p : Pc), v8 = .int .i64 n ∧ n ≤ 2 ∧ Aside0 (Mid wr wc l i (i + n) p g))
        case first =>
          have HONE : Aside0 (pieceL (l.drop i) = if ch = 42 then (⟨true, noneQ⟩, l.drop (i + 1)) else if ch = 63 then (⟨false, allQ⟩, l.drop (i + 1)) else (⟨false, oneQ (qAt l i)⟩, l.drop (qTo l i))) := ⟨by
            rw [rd_drop l i hlt, pieceL_cons, ← HCH.out]
            by_cases h1 : ch = 42
            · rw [if_pos h1, if_pos h1]
            · rw [if_neg h1, if_neg h1]
              by_cases h2 : ch = 63
              · rw [if_pos h2, if_pos h2]
              · have := quotedL_at l i hlt
                rw [rd_drop l i hlt, ← HCH.out] at this
                rw [if_neg h2, if_neg h2, if_neg h91, this]⟩
          by_cases h1 : ch = 42
          · have e1 : (ch == 42) = true := by simp [h1]
            have HO := Aside0.mk (HONE.out.trans (if_pos h1))
            have hst := B7.out.star
            have hfz := B7.out.frozen 0
            clear h1 HONE
            go_wp2_with fail
            go_meet
            exact ⟨1, ⟨true, noneQ⟩, by first | rfl | go_num | trivial, by omega, ⟨⟨by omega, by omega, HO.out, (B7.out.setStar true).congr (fun k hk => (has_noneQ k).symm), GlobW.below_put HB7.out (by rw [HG.out]; exact Nat.le_refl _) 0 _⟩⟩⟩
          · have e1 : (ch == 42) = false := by simp [h1]
            by_cases h2 : ch = 63
            · have e2 : (ch == 63) = true := by simp [h2]
              have HO := Aside0.mk (HONE.out.trans ((if_neg h1).trans (if_pos h2)))
              clear h1 h2 HONE
              go_wp2_with fail
              go_loopw [9] (fun v9 wq => ∃ k : Nat, v9 = .int .i64 k ∧ k ≤ 256 ∧ Aside0 (PieceAt wq g false (fun k' => decide (k' < k)) ∧ Below wr.heap.size wr wq)) (fun v9 wq => 256 - (intOf v9).toNat)
              case atStart => exact ⟨0, rfl, by omega, ⟨B7.out.congr (fun k hk => by simp [noF]), HB7.out⟩⟩
              case round =>
                obtain ⟨k, rfl, hk2, HJ⟩ := hrel
                by_cases hk : k < 256
                · have f1 : decide ((k : Int) < 256) = true := decide_eq_true (by omega)
                  have f1' : decide (k < 256) = true := decide_eq_true hk
                  have hcell := HJ.out.1.get k hk
                  have hfz := HJ.out.1.frozen (1 + k)
                  go_wp2_with fail
                  go_roundw
                  case rel => exact ⟨k + 1, by go_num, by omega, ⟨(HJ.out.1.set k true hk).congr (fun k' hk' => by
                    unfold upd
                    by_cases hkk : k' = k
                    · rw [if_pos hkk]; symm; exact decide_eq_true (by omega)
                    · rw [if_neg hkk, decide_eq_decide]; omega), GlobW.below_put HJ.out.2 (by rw [HG.out]; exact Nat.le_refl _) _ _⟩⟩
                  case measure => simp [intOf]; omega
                · obtain rfl : k = 256 := by omega
                  have f1 : decide (((256 : Nat) : Int) < 256) = false := by decide
                  have f1' : decide ((256 : Nat) < 256) = false := by decide
                  go_wp2_with fail
                  go_meet
                  exact ⟨1, ⟨false, allQ⟩, by first | rfl | go_num | trivial, by omega, ⟨⟨by omega, by omega, HO.out, HJ.out.1.congr (fun k hk => by rw [decide_eq_true hk]; exact (has_allQ k hk).symm), HJ.out.2⟩⟩⟩
            · have e2 : (ch == 63) = false := by simp [h2]
              have HO := Aside0.mk (HONE.out.trans ((if_neg h1).trans (if_neg h2)))
              obtain ⟨n, hn, hn0⟩ := to_plus l i hlt
              have hnl := (qTo_le l i hlt).2
              have hn2 : n ≤ 2 := by
                have : qTo l i ≤ i + 2 := by unfold qTo; split <;> omega
                omega
              obtain ⟨x, hx⟩ : ∃ x, qAt l i = x := ⟨_, rfl⟩
              obtain ⟨y, hy⟩ : ∃ y : Nat, x = y ∧ y < 256 := by
                obtain ⟨m, h3, h4⟩ := qAt_in l HL.out i hlt
                exact ⟨m, by rw [← hx, h3], h4⟩
              obtain ⟨rfl, hy2⟩ := hy
              have HX := Aside0.mk hx
              have HN := Aside0.mk hn
              have HBA := Aside0.mk (byteAt.calls (some ad) c l i (y : Int) n w7 (Kd.C_below HRr.out HB7.out) hc HL.out hlt hlen hx hn)
              rw [hn] at hnl
              clear h1 h2 HONE hx hn
              go_wp2_with fail
              refine HBA.out.mono ?_
              rintro e w8 ⟨rfl, hb⟩
              have B8 := Aside0.mk (B7.out.below hb)
              have HB8 := Aside0.mk (PB.below_next HB7.out hb)
              clear hb HBA
              have hcell := B8.out.get y hy2
              have hfz := B8.out.frozen (1 + y)
              go_wp2_with fail
              go_meet
              exact ⟨n, ⟨false, oneQ y⟩, by first | rfl | go_num | trivial, hn2, ⟨⟨by omega, by omega, by rw [HO.out, HX.out, HN.out], (B8.out.set y true hy2).congr (fun k hk => by
                unfold upd noF
                rw [has_oneQ _ (by omega) k hk]
                by_cases hkk : k = y
                · rw [if_pos hkk]; symm; exact decide_eq_true (by omega)
                · rw [if_neg hkk]; symm; exact decide_eq_false (by omega)), GlobW.below_put HB8.out (by rw [HG.out]; exact Nat.le_refl _) _ _⟩⟩⟩
        case rest =>
          obtain ⟨n, p, rfl, hn2, HM⟩ := hcut
          rename World => w9
          obtain ⟨j, hj⟩ : ∃ j, j = i + n := ⟨_, rfl⟩
          rw [← hj] at HM
          have hij := HM.out.lo
          have hjl := HM.out.hi
          have HBW := Aside0.mk (PB.below_next HI.out.below HM.out.bel)
          have HROW := Aside0.mk (Kd.R_below HI.out.row HM.out.bel)
          have hjm : (i : Int) + n = j := by omega
          have HJ := Aside0.mk hj
          clear hj B7 HB7 hcA7
          go_wp2_with (first
            | ((with_reducible refine gate_dst (N := 62) rfl ?_); refine wpList_load_row rfl 99 (.tmp 7) rfl g rfl 99 (rowF p.star (has p.set)).toArray (0, 0) _ HM.out.pc Tryd.underlying99 rfl (by rw [sizeR]; simp [rowF_len]) ?_)
            | ((with_reducible refine gate_dst (N := 63) rfl ?_); refine Go.Great.wpList_buildSliceTo rfl 94 99 1 #[(0, Operand.tmp 62)] rfl w9.heap.size rfl (some 63) rfl Tryd.underlying94 (rowF p.star (has p.set)).toArray (by rw [Array.toList_map]; exact built_row _ _) ?_)
            | ((with_reducible refine gate_builtin (b := .append) (xs := #[.tmp 61, .tmp 63]) rfl ?_); at_builtin; refine Kd.R_append pcR (w0 := w) w.heap.size rfl (.tmp 61) (.tmp 63) 94 99 (.agg (rowF false noF).toArray) 257 rfl Tryd.underlying94 infoRT (by simp [Value.cells, rowF_len]; rfl) (by decide) (by decide) u3 done p (rowF p.star (has p.set)) (fun _ => True) (fun _ => False) rfl rfl ?aP (fun _ h => h.elim) (fun _ _ => trivial) ?aO ?aB ?aS ?aL ?_; (case aP => rfl); (case aO => exact HROW.out); (case aB => exact HBW.out); (case aS => exact HBW.out.size); (case aL => have := HI.out.len; omega); intro v8 w8 ho hb hg hat; have HO := Aside0.mk ho; have HBN := Aside0.mk hb; clear ho hb hg hat))
          go_roundw
          case rel =>
            refine ⟨j, done ++ [p], ?_, ?_, ?_⟩
            · rw [← hjm]
            · exact hjl
            · exact ⟨PInv.next (j := j) (p := p) HI.out hlt hij HM.out.one HO.out HBN.out⟩
          case measure => simp [intOf]; omega
    · have c1 : decide ((i : Int) < l.length) = false := decide_eq_false (by omega)
      have c1' : decide (i < l.length) = false := decide_eq_false hlt
      have hE : piecesL l = done := by
        have := HI.out.rest
        rw [List.drop_eq_nil_of_le (by omega), show piecesL [] = [] by rw [piecesL], List.append_nil] at this
        exact this
      have HE := Aside0.mk hE
      clear hE
      go_wp2_with fail
      go_ret
      rw [HE.out]
      exact ⟨_, rfl, HI.out.row, by have := HI.out.len; omega, HI.out.below⟩
end Go.Proofs.YtdflblegdfpdpaaDoor.PcsR
end

section
-- PRINTED by print.py (a twelfth state) out of the translation. Not trusted: Lean checks it.
namespace Go.Proofs.YtdflblegdfpdpaaDoor.PE
open Go.RowKit Go.Proofs.YtdflblegdfpdpaaDoorW.PrintWords Go.Proofs.YtdflblegdfpdpaaDoorW.PrintLast Go.Proofs.YtdflblegdfpdpaaDoorW.PrintMore
attribute [local go_sem] max2_int min2_int max_two min_two max_three min_three max_four min_four   -- for this text's walks alone
open PA PB
set_option linter.unusedVariables false
set_option linter.unusedSimpArgs false

/-! ### match_within: function 33 -/
def match_within.j0 : Nat → Int → Int → Bool → Int → Int → Bool → Bool → Option (Bool)
  | 0, _, _, _, _, _, _, _ => none
  | k + 1, x0, x1, x2, x3, x4, x5, x18 => if x18 = true then (some false) else (if x1 = 0 then (if x0 < 0 then (some false) else (if x0 = 0 then (if x2 = true then (some false) else (if x4 > 0 then (some true) else (if x3 < 0 then (some true) else (if x3 = 0 then (some (!x5)) else (some false))))) else (if x4 > 0 then (some true) else (if x3 < 0 then (some true) else (if x3 = 0 then (some (!x5)) else (some false)))))) else (if x4 > 0 then (some true) else (if x3 < 0 then (some true) else (if x3 = 0 then (some (!x5)) else (some false)))))
def match_within.f (k : Nat) (a0 : Int) (a1 : Int) (a2 : Bool) (a3 : Int) (a4 : Int) (a5 : Bool) : Option (Bool) := if a1 > 0 then (match_within.j0 k a0 a1 a2 a3 a4 a5 true) else (match_within.j0 k a0 a1 a2 a3 a4 a5 (decide (a4 < 0)))
theorem match_within.mono_l : ∀ k, (∀ y0 y1 y2 y3 y4 y5 y6, LeO (match_within.j0 k y0 y1 y2 y3 y4 y5 y6) (match_within.j0 (k + 1) y0 y1 y2 y3 y4 y5 y6))
  | 0 => fun _ _ _ _ _ _ _ r h => by simp [match_within.j0] at h
  | k + 1 => by
    have ih0 := match_within.mono_l k
    · intro y0 y1 y2 y3 y4 y5 y6
      unfold match_within.j0
      repeat' first
      | (with_reducible exact ih0 _ _ _ _ _ _ _)
      | (with_reducible exact LeO.refl _)
      | (with_reducible exact LeO.none _)
      | (with_reducible refine LeO.ite ?_ ?_)
      | (with_reducible refine LeO.bind ?_ (fun _ => ?_))
      | exact ih0 _ _ _ _ _ _ _
      | exact LeO.none _
      | refine LeO.ite ?_ ?_
      | refine LeO.bind ?_ (fun _ => ?_)
theorem match_within.mono : ∀ a0 a1 a2 a3 a4 a5 k, LeO (match_within.f k a0 a1 a2 a3 a4 a5) (match_within.f (k + 1) a0 a1 a2 a3 a4 a5) := by
  intro a0 a1 a2 a3 a4 a5 k
  have ih0 := match_within.mono_l k
  unfold match_within.f
  repeat' first
      | (with_reducible exact ih0 _ _ _ _ _ _ _)
      | (with_reducible exact LeO.refl _)
      | (with_reducible exact LeO.none _)
      | (with_reducible refine LeO.ite ?_ ?_)
      | (with_reducible refine LeO.bind ?_ (fun _ => ?_))
      | exact ih0 _ _ _ _ _ _ _
      | exact LeO.none _
      | refine LeO.ite ?_ ?_
      | refine LeO.bind ?_ (fun _ => ?_)
set_option maxHeartbeats 8000000 in
set_option maxRecDepth 100000 in
theorem match_within.calls (k : Nat) (a0 : Int) (a1 : Int) (a2 : Bool) (a3 : Int) (a4 : Int) (a5 : Bool) (r : Bool) (w : World) (h : match_within.f k a0 a1 a2 a3 a4 a5 = some r) :
    Calls Tryd.prog 33 #[.int .i64 a0, .int .i64 a1, .bool a2, .int .i64 a3, .int .i64 a4, .bool a5] w fun e w' => e = .returned (.bool r) ∧ Drawn0 w w' := by
  have H : (if a1 > 0 then (match_within.j0 k a0 a1 a2 a3 a4 a5 true) else (match_within.j0 k a0 a1 a2 a3 a4 a5 (decide (a4 < 0)))) = some r := h
  clear h
  have HC7 := Aside0.mk H
  clear H
  go_enter Tryd.func33, Tryd.ntmps33
  go_upto_region 1 with (fail)
  go_cut [18] (fun v18 wc => ∃ (kq : Nat) (x18_6 : Bool), v18 = .bool x18_6 ∧ Aside0 (match_within.j0 kq a0 a1 a2 a3 a4 a5 x18_6 = some r) ∧ Aside0 (kq ≤ k) ∧ Drawn0 w wc)
  case first =>
    have H := HC7.out
    clear HC7
    by_cases c8 : a1 > 0
    · rw [if_pos c8] at H
      have c8b0 : decide (0 < a1) = true := decide_eq_true c8
      clear c8
      (first | rw [c8b0] | (simp only [i64_w, i32_w]; rw [c8b0]) | skip)
      have H' := Aside0.mk H
      clear H
      go_wp2
      go_meet
      case rel => exact ⟨_, (true), (by first | rfl | (simp; done) | (simp [*]; done)), H', ⟨by first | omega | exact Nat.le_refl _⟩, by repeat (first | exact Drawn0.refl _ | apply Drawn0.step)⟩
    · rw [if_neg c8] at H
      have c8b0 : decide (0 < a1) = false := decide_eq_false c8
      clear c8
      (first | rw [c8b0] | (simp only [i64_w, i32_w]; rw [c8b0]) | skip)
      have H' := Aside0.mk H
      clear H
      go_wp2
      go_meet
      case rel => exact ⟨_, (decide (a4 < 0)), (by first | rfl | (simp; done) | (simp [*]; done)), H', ⟨by first | omega | exact Nat.le_refl _⟩, by repeat (first | exact Drawn0.refl _ | apply Drawn0.step)⟩
  case rest =>
    clear HC7
    try clear p2
    try clear c3
    try clear c8
    try clear c8b0
    obtain ⟨kq, x18_6, rfl, HA, HJ6, ⟨mc6, rfl⟩⟩ := hcut
    cases kq with
    | zero => exact absurd HA.out (by simp [match_within.j0])
    | succ kj6 =>
      have H := HA.out
      clear HA
      simp only [match_within.j0] at H
      by_cases c9 : x18_6 = true
      · subst c9
        have H1 : (some false) = some r := by rw [if_pos rfl] at H; exact H
        clear H
        have H := H1
        clear H1
        obtain rfl := Option.some.inj H
        go_wp2
        go_ret
        exact ⟨by first | rfl | (simp; done) | (simp [*]; done), by repeat (first | exact Drawn0.refl _ | apply Drawn0.step)⟩
      · replace c9 := Bool.eq_false_iff.mpr c9
        subst c9
        have H1 : (if a1 = 0 then (if a0 < 0 then (some false) else (if a0 = 0 then (if a2 = true then (some false) else (if a4 > 0 then (some true) else (if a3 < 0 then (some true) else (if a3 = 0 then (some (!a5)) else (some false))))) else (if a4 > 0 then (some true) else (if a3 < 0 then (some true) else (if a3 = 0 then (some (!a5)) else (some false)))))) else (if a4 > 0 then (some true) else (if a3 < 0 then (some true) else (if a3 = 0 then (some (!a5)) else (some false))))) = some r := by rw [if_neg (show ¬ (false = true) by decide)] at H; exact H
        clear H
        have H := H1
        clear H1
        by_cases c10 : a1 = 0
        · rw [if_pos c10] at H
          have c10b0 : (a1 == 0) = true := beq_iff_eq.mpr c10
          have c10b1 : (a1 != 0) = false := bne_eq_false_iff_eq.mpr c10
          clear c10
          by_cases c11 : a0 < 0
          · rw [if_pos c11] at H
            have c11b0 : decide (a0 < 0) = true := decide_eq_true c11
            clear c11
            obtain rfl := Option.some.inj H
            go_wp2
            go_ret
            exact ⟨by first | rfl | (simp; done) | (simp [*]; done), by repeat (first | exact Drawn0.refl _ | apply Drawn0.step)⟩
          · rw [if_neg c11] at H
            have c11b0 : decide (a0 < 0) = false := decide_eq_false c11
            clear c11
            by_cases c12 : a0 = 0
            · rw [if_pos c12] at H
              have c12b0 : (a0 == 0) = true := beq_iff_eq.mpr c12
              have c12b1 : (a0 != 0) = false := bne_eq_false_iff_eq.mpr c12
              clear c12
              by_cases c13 : a2 = true
              · subst c13
                have H1 : (some false) = some r := by rw [if_pos rfl] at H; exact H
                clear H
                have H := H1
                clear H1
                obtain rfl := Option.some.inj H
                go_wp2
                go_ret
                exact ⟨by first | rfl | (simp; done) | (simp [*]; done), by repeat (first | exact Drawn0.refl _ | apply Drawn0.step)⟩
              · replace c13 := Bool.eq_false_iff.mpr c13
                subst c13
                have H1 : (if a4 > 0 then (some true) else (if a3 < 0 then (some true) else (if a3 = 0 then (some (!a5)) else (some false)))) = some r := by rw [if_neg (show ¬ (false = true) by decide)] at H; exact H
                clear H
                have H := H1
                clear H1
                by_cases c14 : a4 > 0
                · rw [if_pos c14] at H
                  have c14b0 : decide (0 < a4) = true := decide_eq_true c14
                  clear c14
                  obtain rfl := Option.some.inj H
                  go_wp2
                  go_ret
                  exact ⟨by first | rfl | (simp; done) | (simp [*]; done), by repeat (first | exact Drawn0.refl _ | apply Drawn0.step)⟩
                · rw [if_neg c14] at H
                  have c14b0 : decide (0 < a4) = false := decide_eq_false c14
                  clear c14
                  by_cases c15 : a3 < 0
                  · rw [if_pos c15] at H
                    have c15b0 : decide (a3 < 0) = true := decide_eq_true c15
                    clear c15
                    obtain rfl := Option.some.inj H
                    go_wp2
                    go_ret
                    exact ⟨by first | rfl | (simp; done) | (simp [*]; done), by repeat (first | exact Drawn0.refl _ | apply Drawn0.step)⟩
                  · rw [if_neg c15] at H
                    have c15b0 : decide (a3 < 0) = false := decide_eq_false c15
                    clear c15
                    by_cases c16 : a3 = 0
                    · rw [if_pos c16] at H
                      have c16b0 : (a3 == 0) = true := beq_iff_eq.mpr c16
                      have c16b1 : (a3 != 0) = false := bne_eq_false_iff_eq.mpr c16
                      clear c16
                      obtain rfl := Option.some.inj H
                      go_wp2
                      go_ret
                      exact ⟨by first | rfl | (simp; done) | (simp [*]; done), by repeat (first | exact Drawn0.refl _ | apply Drawn0.step)⟩
                    · rw [if_neg c16] at H
                      have c16b0 : (a3 == 0) = false := beq_eq_false_iff_ne.mpr c16
                      have c16b1 : (a3 != 0) = true := bne_iff_ne.mpr c16
                      obtain rfl := Option.some.inj H
                      go_wp2
                      go_ret
                      exact ⟨by first | rfl | (simp; done) | (simp [*]; done), by repeat (first | exact Drawn0.refl _ | apply Drawn0.step)⟩
            · rw [if_neg c12] at H
              have c12b0 : (a0 == 0) = false := beq_eq_false_iff_ne.mpr c12
              have c12b1 : (a0 != 0) = true := bne_iff_ne.mpr c12
              by_cases c17 : a4 > 0
              · rw [if_pos c17] at H
                have c17b0 : decide (0 < a4) = true := decide_eq_true c17
                clear c17
                obtain rfl := Option.some.inj H
                go_wp2
                go_ret
                exact ⟨by first | rfl | (simp; done) | (simp [*]; done), by repeat (first | exact Drawn0.refl _ | apply Drawn0.step)⟩
              · rw [if_neg c17] at H
                have c17b0 : decide (0 < a4) = false := decide_eq_false c17
                clear c17
                by_cases c18 : a3 < 0
                · rw [if_pos c18] at H
                  have c18b0 : decide (a3 < 0) = true := decide_eq_true c18
                  clear c18
                  obtain rfl := Option.some.inj H
                  go_wp2
                  go_ret
                  exact ⟨by first | rfl | (simp; done) | (simp [*]; done), by repeat (first | exact Drawn0.refl _ | apply Drawn0.step)⟩
                · rw [if_neg c18] at H
                  have c18b0 : decide (a3 < 0) = false := decide_eq_false c18
                  clear c18
                  by_cases c19 : a3 = 0
                  · rw [if_pos c19] at H
                    have c19b0 : (a3 == 0) = true := beq_iff_eq.mpr c19
                    have c19b1 : (a3 != 0) = false := bne_eq_false_iff_eq.mpr c19
                    clear c19
                    obtain rfl := Option.some.inj H
                    go_wp2
                    go_ret
                    exact ⟨by first | rfl | (simp; done) | (simp [*]; done), by repeat (first | exact Drawn0.refl _ | apply Drawn0.step)⟩
                  · rw [if_neg c19] at H
                    have c19b0 : (a3 == 0) = false := beq_eq_false_iff_ne.mpr c19
                    have c19b1 : (a3 != 0) = true := bne_iff_ne.mpr c19
                    obtain rfl := Option.some.inj H
                    go_wp2
                    go_ret
                    exact ⟨by first | rfl | (simp; done) | (simp [*]; done), by repeat (first | exact Drawn0.refl _ | apply Drawn0.step)⟩
        · rw [if_neg c10] at H
          have c10b0 : (a1 == 0) = false := beq_eq_false_iff_ne.mpr c10
          have c10b1 : (a1 != 0) = true := bne_iff_ne.mpr c10
          by_cases c20 : a4 > 0
          · rw [if_pos c20] at H
            have c20b0 : decide (0 < a4) = true := decide_eq_true c20
            clear c20
            obtain rfl := Option.some.inj H
            go_wp2
            go_ret
            exact ⟨by first | rfl | (simp; done) | (simp [*]; done), by repeat (first | exact Drawn0.refl _ | apply Drawn0.step)⟩
          · rw [if_neg c20] at H
            have c20b0 : decide (0 < a4) = false := decide_eq_false c20
            clear c20
            by_cases c21 : a3 < 0
            · rw [if_pos c21] at H
              have c21b0 : decide (a3 < 0) = true := decide_eq_true c21
              clear c21
              obtain rfl := Option.some.inj H
              go_wp2
              go_ret
              exact ⟨by first | rfl | (simp; done) | (simp [*]; done), by repeat (first | exact Drawn0.refl _ | apply Drawn0.step)⟩
            · rw [if_neg c21] at H
              have c21b0 : decide (a3 < 0) = false := decide_eq_false c21
              clear c21
              by_cases c22 : a3 = 0
              · rw [if_pos c22] at H
                have c22b0 : (a3 == 0) = true := beq_iff_eq.mpr c22
                have c22b1 : (a3 != 0) = false := bne_eq_false_iff_eq.mpr c22
                clear c22
                obtain rfl := Option.some.inj H
                go_wp2
                go_ret
                exact ⟨by first | rfl | (simp; done) | (simp [*]; done), by repeat (first | exact Drawn0.refl _ | apply Drawn0.step)⟩
              · rw [if_neg c22] at H
                have c22b0 : (a3 == 0) = false := beq_eq_false_iff_ne.mpr c22
                have c22b1 : (a3 != 0) = true := bne_iff_ne.mpr c22
                obtain rfl := Option.some.inj H
                go_wp2
                go_ret
                exact ⟨by first | rfl | (simp; done) | (simp [*]; done), by repeat (first | exact Drawn0.refl _ | apply Drawn0.step)⟩

end Go.Proofs.YtdflblegdfpdpaaDoor.PE
end

section
/- match.Lex of a bound, match.InLex: the machine's calls. -/
namespace Go.Proofs.YtdflblegdfpdpaaDoor.LexW
open Go Go.RowKit Go.Proofs.YtdflblegdfpdpaaDoorW.PrintWords Go.Proofs.YtdflblegdfpdpaaDoorW.PrintLast Go.Proofs.YtdflblegdfpdpaaDoorW.PrintMore Go.Proofs.YtdflblegdfpdpaaDoor.NumS Go.Proofs.YtdflblegdfpdpaaDoor.ScoreW Go.Proofs.YtdflblegdfpdpaaDoor.CloneW Go.Proofs.YtdflblegdfpdpaaDoor.RefE
set_option linter.unusedVariables false
set_option maxRecDepth 100000
theorem one3 (x : Int) (A : Option Addr) (n c : Nat) (b : Bool) : (#[.int .i64 x, .slice A n c, .bool b] : Array Value).all (·.oneCell') = true := by
  rw [Array.all_eq_true_iff_forall_mem]
  intro v hv
  have hv : v ∈ ([.int .i64 x, .slice A n c, .bool b] : List Value) := by simpa using hv
  simp only [List.mem_cons, List.not_mem_nil, or_false] at hv
  rcases hv with rfl | rfl | rfl <;> rfl
theorem cell_lt {W : World} {g : Nat} {o : Obj} (h : W.heap[g]? = some o) : g < W.heap.size := by
  rcases Nat.lt_or_ge g W.heap.size with h1 | h1
  · exact h1
  · rw [Array.getElem?_eq_none h1] at h; cases h
theorem cell_lt2 {W : World} {a : Addr} {v : Value} (h : W.cell? a = some v) : a.block < W.heap.size := by
  rcases Nat.lt_or_ge a.block W.heap.size with h1 | h1
  · exact h1
  · unfold World.cell? at h
    rw [Array.getElem?_eq_none h1] at h
    cases h
theorem C_setRow2 {W : World} {A : Option Addr} {n : Nat} {l : List Int} (h : Kd.C (Kd.int .u8) W A n l) (g : Nat) (cs : Array Value) (hg : ∀ ad, A = some ad → ad.block ≠ g) : Kd.C (Kd.int .u8) (W.setRow g cs) A n l := by
  cases A with
  | some ad => exact C_setRow h g cs (hg ad rfl)
  | none =>
    obtain ⟨h1, h2, h3⟩ := h
    exact ⟨h1, h2, fun h0 => by obtain ⟨a, ha, _⟩ := h3 h0; cases ha⟩
theorem setRow_heap2 (w : World) (g : Nat) (cs old : Array Value) (t : TypeId) (h : w.heap[g]? = some (.cells old t (0, 0))) : (w.setRow g cs).heap[g]? = some (.cells cs t (0, 0)) := setRow_heap _ _ _ _ _ _ h

set_option maxHeartbeats 1600000 in
theorem lexFarMinus.calls (A : Option Addr) (c : Nat) (w : World) (hr : Kd.C (Kd.int .u8) w A 1 [45]) :
    Calls Tryd.prog 24 #[.slice A 1 c] w fun e w' => e = .returned (.tuple #[.agg #[.int .i64 (-1), .slice none 0 0, .bool false], .int .i64 0]) ∧ Below w.heap.size w w' := by
  have e1 := str_is [45] (by unfold inB; decide) [45] (by unfold inB; decide) [45] (by simp [strOfNums])
  have e2 := str_is [45] (by unfold inB; decide) [43] (by unfold inB; decide) [43] (by simp [strOfNums])
  rw [show decide (([45] : List Int) = [45]) = true by decide] at e1
  rw [show decide (([45] : List Int) = [43]) = false by decide] at e2
  have hs := Kd.C_string (P := Tryd.prog) (w := w.alloc (.cells #[.int .i64 0, .slice none 0 0, .bool false] 43)) (A := A) (c := c) Tryd.underlying22 Tryd.underlying5 Tryd.underlying9 (Kd.C_alloc (xs := [45]) hr _)
  have hs : (convert 22 9 (.slice A 1 c)).run Tryd.prog (w.alloc (.cells #[.int .i64 0, .slice none 0 0, .bool false] 43)) = .ok (.string (strOfNums [45])) (w.alloc (.cells #[.int .i64 0, .slice none 0 0, .bool false] 43)) := hs
  generalize strOfNums [45] = sx at *
  clear hr
  go_enter Tryd.func24, Tryd.ntmps24
  go_wp2
  refine bodyPost_ret (GlobW.results_cell_row_tmp (P := Tryd.prog) rfl _ _ w.heap.size 43 _ (0, 0) _ rfl (blk_new w _) Tryd.underlying43 rfl (by kernel_rfl)) rfl ?_
  exact ⟨rfl, below_alloc (Below.refl _ _) _⟩

set_option maxHeartbeats 1600000 in
theorem lexFarPlus.calls (A : Option Addr) (c : Nat) (w : World) (hr : Kd.C (Kd.int .u8) w A 1 [43]) :
    Calls Tryd.prog 24 #[.slice A 1 c] w fun e w' => e = .returned (.tuple #[.agg #[.int .i64 (1), .slice none 0 0, .bool false], .int .i64 0]) ∧ Below w.heap.size w w' := by
  have e1 := str_is [43] (by unfold inB; decide) [45] (by unfold inB; decide) [45] (by simp [strOfNums])
  have e2 := str_is [43] (by unfold inB; decide) [43] (by unfold inB; decide) [43] (by simp [strOfNums])
  rw [show decide (([43] : List Int) = [45]) = false by decide] at e1
  rw [show decide (([43] : List Int) = [43]) = true by decide] at e2
  have hs := Kd.C_string (P := Tryd.prog) (w := w.alloc (.cells #[.int .i64 0, .slice none 0 0, .bool false] 43)) (A := A) (c := c) Tryd.underlying22 Tryd.underlying5 Tryd.underlying9 (Kd.C_alloc (xs := [43]) hr _)
  have hs : (convert 22 9 (.slice A 1 c)).run Tryd.prog (w.alloc (.cells #[.int .i64 0, .slice none 0 0, .bool false] 43)) = .ok (.string (strOfNums [43])) (w.alloc (.cells #[.int .i64 0, .slice none 0 0, .bool false] 43)) := hs
  generalize strOfNums [43] = sx at *
  clear hr
  go_enter Tryd.func24, Tryd.ntmps24
  go_wp2
  refine bodyPost_ret (GlobW.results_cell_row_tmp (P := Tryd.prog) rfl _ _ w.heap.size 43 _ (0, 0) _ rfl (blk_new w _) Tryd.underlying43 rfl (by kernel_rfl)) rfl ?_
  exact ⟨rfl, below_alloc (Below.refl _ _) _⟩

set_option maxHeartbeats 3200000 in
theorem lexInShut.calls (A : Option Addr) (c : Nat) (l t : List Int) (w : World) (hr : Kd.C (Kd.int .u8) w A l.length l) (hb : inB l) (hpos : 0 < l.length) (hcl : l.length ≤ c) (hx : rd l 0 = 91) (ht : t = l.drop 1) (hl : l.length ≤ 140737488355328) :
    Calls Tryd.prog 24 #[.slice A l.length c] w fun e w' => ∃ A' c', e = .returned (.tuple #[.agg #[.int .i64 0, .slice A' t.length c', .bool false], .int .i64 0]) ∧ t.length ≤ c' ∧ Kd.C (Kd.int .u8) w' A' t.length t ∧ Below w.heap.size w w' := by
  have e1 := str_is l hb [45] (by unfold inB; decide) [45] (by simp [strOfNums])
  have e2 := str_is l hb [43] (by unfold inB; decide) [43] (by simp [strOfNums])
  rw [decide_eq_false (fun h => by rw [h] at hx; exact absurd hx (by decide))] at e1
  rw [decide_eq_false (fun h => by rw [h] at hx; exact absurd hx (by decide))] at e2
  have hs := Kd.C_string (P := Tryd.prog) (w := w.alloc (.cells #[.int .i64 0, .slice none 0 0, .bool false] 43)) (A := A) (c := c) Tryd.underlying22 Tryd.underlying5 Tryd.underlying9 (Kd.C_alloc hr _)
  obtain ⟨At, hrd, hCd, hcd⟩ := cut_drop2 l A c hcl 1 (by omega)
  have hrd : ∀ W : World, (Instr.slice 22 (.slice A l.length c) (some (.int .i64 1)) none none).run Tryd.prog W = .ok (.slice At t.length (c - 1)) W := by rw [ht]; exact hrd
  have HTC := Aside0.mk (show Kd.C (Kd.int .u8) w At t.length t by rw [ht]; exact hCd w hr)
  have htl : t.length ≤ 140737488355328 := by rw [ht, List.length_drop]; omega
  obtain ⟨ad, rfl, hc⟩ := Kd.at_int hr (0 : Int) (by omega) (by omega)
  have hcA : w.cell? ad = some (.int .u8 91) := by rw [hx] at hc; simpa [Addr.add] using hc
  have hadn : ad.block ≠ w.heap.size := by have := cell_lt2 hcA; omega
  have hcA2 := Lib.cell?_alloc_some (.cells #[.int .i64 0, .slice none 0 0, .bool false] 43) hcA
  have d0 : decide ((0 : Int) < l.length) = true := decide_eq_true (by omega)
  have d0' : decide (0 < l.length) = true := decide_eq_true hpos
  clear hc hcA hb hr hx ht hCd hcd hcl
  go_enter Tryd.func24, Tryd.ntmps24
  go_upto_region 6 with fail
  have hS0 : (w.alloc (.cells #[.int .i64 0, .slice none 0 0, .bool false] 43)).drew.cell? ad = some (.int .u8 91) ∧ Aside0 (∃ cs : Array Value, cs.size = 3 ∧ (w.alloc (.cells #[.int .i64 0, .slice none 0 0, .bool false] 43)).drew.heap[w.heap.size]? = some (.cells cs 43 (0, 0))) ∧ Aside0 (Below w.heap.size w (w.alloc (.cells #[.int .i64 0, .slice none 0 0, .bool false] 43)).drew) := ⟨hcA2, ⟨_, rfl, blk_new w _⟩, ⟨(below_alloc (Below.refl _ _) _).drew⟩⟩
  clear hs e1 e2 hcA2
  refine wp_region_held_drew (S := (fun w' => w'.cell? ad = some (.int .u8 91) ∧ Aside0 (∃ cs : Array Value, cs.size = 3 ∧ w'.heap[w.heap.size]? = some (.cells cs 43 (0, 0))) ∧ Aside0 (Below w.heap.size w w'))) (by kernel_rfl) (by exact hS0) (fun hHeld => ?_)
  refine wpAnyH_take (i := 0) (oi := ({ dst := some 30, op := Go.Op.move (Go.Operand.tmp 0), type := 22, pos := "match.go:173", after := #[], guard := none } : Oper)) (v := ?vp0) rfl (by kernel_rfl) (by kernel_rfl) (by kernel_rfl) (fun _ _ _ h => h) (Or.inl ⟨by rfl, ?hyp0⟩) (by assumption) ?restp0
  case hyp0 => (intro w hSw; (try dsimp only at hSw); go_simp; (try with_reducible rfl))
  (try simp only [Act.put, List.setIfInBounds_toArray, List.set_cons_zero, List.set_cons_succ])
  refine wpAnyH_take (i := 1) (oi := ({ dst := some 31, op := Go.Op.slice 22 (Go.Operand.tmp 30) (some (Go.Operand.const (Go.Value.int Go.IntKind.i64 1))) none none, type := 22, pos := "match.go:173", after := #[{ on := 0, ground := Go.Ground.data }], guard := none } : Oper)) (v := ?vp1) rfl (by kernel_rfl) (by kernel_rfl) (by kernel_rfl) (fun _ _ _ h => h) (Or.inl ⟨by rfl, ?hyp1⟩) (by assumption) ?restp1
  case hyp1 => (intro w hSw; (try dsimp only at hSw); go_simp; (try with_reducible rfl))
  (try simp only [Act.put, List.setIfInBounds_toArray, List.set_cons_zero, List.set_cons_succ])
  refine wpAnyH_take (i := 3) (oi := ({ dst := some 33, op := Go.Op.move (Go.Operand.tmp 0), type := 22, pos := "match.go:173", after := #[], guard := none } : Oper)) (v := ?vp3) rfl (by kernel_rfl) (by kernel_rfl) (by kernel_rfl) (fun _ _ _ h => h) (Or.inl ⟨by rfl, ?hyp3⟩) (by assumption) ?restp3
  case hyp3 => (intro w hSw; (try dsimp only at hSw); go_simp; (try with_reducible rfl))
  (try simp only [Act.put, List.setIfInBounds_toArray, List.set_cons_zero, List.set_cons_succ])
  refine wpAnyH_take (i := 4) (oi := ({ dst := some 34, op := Go.Op.indexAddr 22 (Go.Operand.tmp 33) (Go.Operand.const (Go.Value.int Go.IntKind.i64 0)), type := 0, pos := "match.go:173", after := #[{ on := 3, ground := Go.Ground.data }], guard := none } : Oper)) (v := ?vp4) rfl (by kernel_rfl) (by kernel_rfl) (by kernel_rfl) (fun _ _ _ h => h) (Or.inl ⟨by rfl, ?hyp4⟩) (by assumption) ?restp4
  case hyp4 => (intro w hSw; (try dsimp only at hSw); go_simp; (try with_reducible rfl))
  (try simp only [Act.put, List.setIfInBounds_toArray, List.set_cons_zero, List.set_cons_succ])
  refine wpAnyH_take (i := 5) (oi := ({ dst := some 35, op := Go.Op.load 5 (Go.Operand.tmp 34), type := 5, pos := "match.go:173", after := #[{ on := 4, ground := Go.Ground.data }], guard := none } : Oper)) (v := ?vp5) rfl (by kernel_rfl) (by kernel_rfl) (by kernel_rfl) (fun _ _ _ h => h) (Or.inl ⟨by rfl, ?hyp5⟩) (by assumption) ?restp5
  case hyp5 => (intro w hSw; (try dsimp only at hSw); go_simp; (try with_reducible rfl))
  (try simp only [Act.put, List.setIfInBounds_toArray, List.set_cons_zero, List.set_cons_succ])
  refine wpAnyH_take (i := 6) (oi := ({ dst := some 36, op := Go.Op.binOp Go.BinOp.eql 5 (Go.Operand.tmp 35) (Go.Operand.const (Go.Value.int Go.IntKind.u8 40)) 5, type := 4, pos := "match.go:173", after := #[{ on := 5, ground := Go.Ground.data }], guard := none } : Oper)) (v := ?vp6) rfl (by kernel_rfl) (by kernel_rfl) (by kernel_rfl) (fun _ _ _ h => h) (Or.inl ⟨by rfl, ?hyp6⟩) (by assumption) ?restp6
  case hyp6 => (intro w hSw; (try dsimp only at hSw); go_simp; (try with_reducible rfl))
  (try simp only [Act.put, List.setIfInBounds_toArray, List.set_cons_zero, List.set_cons_succ])
  refine wpAnyH_ready (rs := [2]) (by kernel_rfl) (by simp) ?_
  refine AllReadyH.cons (o := ({ dst := some 32, op := Go.Op.call { callee := Go.Callee.value (Go.Operand.func 35), args := #[Go.Operand.tmp 31], argTypes := #[22] }, type := 22, pos := "match.go:173", after := #[{ on := 1, ground := Go.Ground.data }], guard := none } : Oper)) rfl (fun K hK => ?_) AllReadyH.nil
  go_simp
  refine (clone.calls At (c - 1) t _ (Kd.C_below HTC.out hHeld.2.2.out) htl).mono ?_
  rintro e w7 ⟨A', c', rfl, hc', hCc, hb, hAb⟩
  have HC7 := Aside0.mk hCc
  have HB7 := Aside0.mk (PB.below_next hHeld.2.2.out hb)
  have hX7 := pw_cell_below hb hHeld.1
  have HAB : Aside0 (∀ ad2, A' = some ad2 → ad2.block ≠ w.heap.size) := ⟨fun ad2 h2 => by obtain ⟨cs7, _, hK7⟩ := hHeld.2.1.out; have h1 := hAb ad2 h2; have h3 := cell_lt hK7; omega⟩
  obtain ⟨cs7, hcs7, hK7⟩ := hHeld.2.1.out
  have HK7 := Aside0.mk (blk_below hK7 hb)
  clear hCc hb hK7 hAb
  (try go_wp2_with fail)
  refine hK.out _ _ (by exact ⟨hX7, ⟨cs7, hcs7, HK7.out⟩, HB7⟩) (fun hHeld => ?_)
  clear hK K
  (try simp only [Act.put, List.setIfInBounds_toArray, List.set_cons_zero, List.set_cons_succ])
  refine wpAnyH_take (i := 7) (oi := ({ dst := some 37, op := Go.Op.build 43 #[(1, Go.Operand.tmp 32), (2, Go.Operand.tmp 36)], type := 43, pos := "match.go:173", after := #[{ on := 2, ground := Go.Ground.data }, { on := 6, ground := Go.Ground.data }], guard := none } : Oper)) (v := ?vp7) rfl (by kernel_rfl) (by kernel_rfl) (by kernel_rfl) (fun _ _ _ h => h) (Or.inl ⟨by rfl, ?hyp7⟩) (by assumption) ?restp7
  case hyp7 => (intro w hSw; (try dsimp only at hSw); go_simp; (try with_reducible rfl))
  (try simp only [Act.put, List.setIfInBounds_toArray, List.set_cons_zero, List.set_cons_succ])
  refine wpAnyH_ready (rs := [8]) (by kernel_rfl) (by simp) ?_
  refine AllReadyH.cons (o := ({ dst := none, op := Go.Op.store 43 (Go.Operand.tmp 2) (Go.Operand.tmp 37), type := 0, pos := "match.go:173", after := #[{ on := 7, ground := Go.Ground.data }, { on := 2, ground := Go.Ground.chain }, { on := 0, ground := Go.Ground.phase }, { on := 1, ground := Go.Ground.phase }, { on := 2, ground := Go.Ground.phase }, { on := 3, ground := Go.Ground.phase }, { on := 4, ground := Go.Ground.phase }, { on := 5, ground := Go.Ground.phase }, { on := 6, ground := Go.Ground.phase }, { on := 7, ground := Go.Ground.phase }], guard := none } : Oper)) rfl (fun K hK => ?_) AllReadyH.nil
  rw [if_pos (by rfl)]
  refine wp_store_row 43 (.tmp 2) (.tmp 37) rfl w.heap.size #[.int .i64 0, .slice A' t.length c', .bool false] rfl rfl 43 cs7 HK7.out (by kernel_rfl) hcs7 (one3 _ _ _ _ _) ?_
  have HR8 := Aside0.mk (setRow_heap2 w7 w.heap.size #[.int .i64 0, .slice A' t.length c', .bool false] cs7 43 HK7.out)
  have HB8 := Aside0.mk (below_setRow HB7.out (Nat.le_refl _) #[.int .i64 0, .slice A' t.length c', .bool false])
  have HC8 := Aside0.mk (show Kd.C (Kd.int .u8) (w7.setRow w.heap.size #[.int .i64 0, .slice A' t.length c', .bool false]) A' t.length t from C_setRow2 HC7.out _ _ HAB.out)
  have hX8 : (w7.setRow w.heap.size #[.int .i64 0, .slice A' t.length c', .bool false]).cell? ad = some (.int .u8 91) := (cell_setRow_other _ _ _ _ hadn).trans hX7
  refine hK.out _ _ (by exact ⟨hX8, ⟨_, rfl, HR8.out⟩, HB8⟩) (fun hHeld => ?_)
  clear hK K
  refine wpAnyH_take (i := 9) (oi := ({ dst := some 3, op := Go.Op.assign (Go.Operand.const (Go.Value.int Go.IntKind.i64 0)), type := 50, pos := "match.go:173", after := #[{ on := 8, ground := Go.Ground.chain }, { on := 0, ground := Go.Ground.phase }, { on := 1, ground := Go.Ground.phase }, { on := 2, ground := Go.Ground.phase }, { on := 3, ground := Go.Ground.phase }, { on := 4, ground := Go.Ground.phase }, { on := 5, ground := Go.Ground.phase }, { on := 6, ground := Go.Ground.phase }, { on := 7, ground := Go.Ground.phase }, { on := 8, ground := Go.Ground.phase }], guard := none } : Oper)) (v := ?vp9) rfl (by kernel_rfl) (by kernel_rfl) (by kernel_rfl) (fun _ _ _ h => h) (Or.inl ⟨by rfl, ?hyp9⟩) (by assumption) ?restp9
  case hyp9 => (intro w hSw; (try dsimp only at hSw); go_simp; (try with_reducible rfl))
  (try simp only [Act.put, List.setIfInBounds_toArray, List.set_cons_zero, List.set_cons_succ])
  refine wpAnyH_done (by kernel_rfl) ?_ _
  (try go_wp2_with fail)
  refine bodyPost_ret (GlobW.results_cell_row_tmp (P := Tryd.prog) rfl _ _ w.heap.size 43 _ (0, 0) _ rfl HR8.out Tryd.underlying43 rfl (by kernel_rfl)) rfl ?_
  exact ⟨A', c', rfl, hc', HC8.out, HB8.out⟩

set_option maxHeartbeats 3200000 in
theorem lexInOpen.calls (A : Option Addr) (c : Nat) (l t : List Int) (w : World) (hr : Kd.C (Kd.int .u8) w A l.length l) (hb : inB l) (hpos : 0 < l.length) (hcl : l.length ≤ c) (hx : rd l 0 = 40) (ht : t = l.drop 1) (hl : l.length ≤ 140737488355328) :
    Calls Tryd.prog 24 #[.slice A l.length c] w fun e w' => ∃ A' c', e = .returned (.tuple #[.agg #[.int .i64 0, .slice A' t.length c', .bool true], .int .i64 0]) ∧ t.length ≤ c' ∧ Kd.C (Kd.int .u8) w' A' t.length t ∧ Below w.heap.size w w' := by
  have e1 := str_is l hb [45] (by unfold inB; decide) [45] (by simp [strOfNums])
  have e2 := str_is l hb [43] (by unfold inB; decide) [43] (by simp [strOfNums])
  rw [decide_eq_false (fun h => by rw [h] at hx; exact absurd hx (by decide))] at e1
  rw [decide_eq_false (fun h => by rw [h] at hx; exact absurd hx (by decide))] at e2
  have hs := Kd.C_string (P := Tryd.prog) (w := w.alloc (.cells #[.int .i64 0, .slice none 0 0, .bool false] 43)) (A := A) (c := c) Tryd.underlying22 Tryd.underlying5 Tryd.underlying9 (Kd.C_alloc hr _)
  obtain ⟨At, hrd, hCd, hcd⟩ := cut_drop2 l A c hcl 1 (by omega)
  have hrd : ∀ W : World, (Instr.slice 22 (.slice A l.length c) (some (.int .i64 1)) none none).run Tryd.prog W = .ok (.slice At t.length (c - 1)) W := by rw [ht]; exact hrd
  have HTC := Aside0.mk (show Kd.C (Kd.int .u8) w At t.length t by rw [ht]; exact hCd w hr)
  have htl : t.length ≤ 140737488355328 := by rw [ht, List.length_drop]; omega
  obtain ⟨ad, rfl, hc⟩ := Kd.at_int hr (0 : Int) (by omega) (by omega)
  have hcA : w.cell? ad = some (.int .u8 40) := by rw [hx] at hc; simpa [Addr.add] using hc
  have hadn : ad.block ≠ w.heap.size := by have := cell_lt2 hcA; omega
  have hcA2 := Lib.cell?_alloc_some (.cells #[.int .i64 0, .slice none 0 0, .bool false] 43) hcA
  have d0 : decide ((0 : Int) < l.length) = true := decide_eq_true (by omega)
  have d0' : decide (0 < l.length) = true := decide_eq_true hpos
  clear hc hcA hb hr hx ht hCd hcd hcl
  go_enter Tryd.func24, Tryd.ntmps24
  go_upto_region 6 with fail
  have hS0 : (w.alloc (.cells #[.int .i64 0, .slice none 0 0, .bool false] 43)).drew.cell? ad = some (.int .u8 40) ∧ Aside0 (∃ cs : Array Value, cs.size = 3 ∧ (w.alloc (.cells #[.int .i64 0, .slice none 0 0, .bool false] 43)).drew.heap[w.heap.size]? = some (.cells cs 43 (0, 0))) ∧ Aside0 (Below w.heap.size w (w.alloc (.cells #[.int .i64 0, .slice none 0 0, .bool false] 43)).drew) := ⟨hcA2, ⟨_, rfl, blk_new w _⟩, ⟨(below_alloc (Below.refl _ _) _).drew⟩⟩
  clear hs e1 e2 hcA2
  refine wp_region_held_drew (S := (fun w' => w'.cell? ad = some (.int .u8 40) ∧ Aside0 (∃ cs : Array Value, cs.size = 3 ∧ w'.heap[w.heap.size]? = some (.cells cs 43 (0, 0))) ∧ Aside0 (Below w.heap.size w w'))) (by kernel_rfl) (by exact hS0) (fun hHeld => ?_)
  refine wpAnyH_take (i := 0) (oi := ({ dst := some 30, op := Go.Op.move (Go.Operand.tmp 0), type := 22, pos := "match.go:173", after := #[], guard := none } : Oper)) (v := ?vp0) rfl (by kernel_rfl) (by kernel_rfl) (by kernel_rfl) (fun _ _ _ h => h) (Or.inl ⟨by rfl, ?hyp0⟩) (by assumption) ?restp0
  case hyp0 => (intro w hSw; (try dsimp only at hSw); go_simp; (try with_reducible rfl))
  (try simp only [Act.put, List.setIfInBounds_toArray, List.set_cons_zero, List.set_cons_succ])
  refine wpAnyH_take (i := 1) (oi := ({ dst := some 31, op := Go.Op.slice 22 (Go.Operand.tmp 30) (some (Go.Operand.const (Go.Value.int Go.IntKind.i64 1))) none none, type := 22, pos := "match.go:173", after := #[{ on := 0, ground := Go.Ground.data }], guard := none } : Oper)) (v := ?vp1) rfl (by kernel_rfl) (by kernel_rfl) (by kernel_rfl) (fun _ _ _ h => h) (Or.inl ⟨by rfl, ?hyp1⟩) (by assumption) ?restp1
  case hyp1 => (intro w hSw; (try dsimp only at hSw); go_simp; (try with_reducible rfl))
  (try simp only [Act.put, List.setIfInBounds_toArray, List.set_cons_zero, List.set_cons_succ])
  refine wpAnyH_take (i := 3) (oi := ({ dst := some 33, op := Go.Op.move (Go.Operand.tmp 0), type := 22, pos := "match.go:173", after := #[], guard := none } : Oper)) (v := ?vp3) rfl (by kernel_rfl) (by kernel_rfl) (by kernel_rfl) (fun _ _ _ h => h) (Or.inl ⟨by rfl, ?hyp3⟩) (by assumption) ?restp3
  case hyp3 => (intro w hSw; (try dsimp only at hSw); go_simp; (try with_reducible rfl))
  (try simp only [Act.put, List.setIfInBounds_toArray, List.set_cons_zero, List.set_cons_succ])
  refine wpAnyH_take (i := 4) (oi := ({ dst := some 34, op := Go.Op.indexAddr 22 (Go.Operand.tmp 33) (Go.Operand.const (Go.Value.int Go.IntKind.i64 0)), type := 0, pos := "match.go:173", after := #[{ on := 3, ground := Go.Ground.data }], guard := none } : Oper)) (v := ?vp4) rfl (by kernel_rfl) (by kernel_rfl) (by kernel_rfl) (fun _ _ _ h => h) (Or.inl ⟨by rfl, ?hyp4⟩) (by assumption) ?restp4
  case hyp4 => (intro w hSw; (try dsimp only at hSw); go_simp; (try with_reducible rfl))
  (try simp only [Act.put, List.setIfInBounds_toArray, List.set_cons_zero, List.set_cons_succ])
  refine wpAnyH_take (i := 5) (oi := ({ dst := some 35, op := Go.Op.load 5 (Go.Operand.tmp 34), type := 5, pos := "match.go:173", after := #[{ on := 4, ground := Go.Ground.data }], guard := none } : Oper)) (v := ?vp5) rfl (by kernel_rfl) (by kernel_rfl) (by kernel_rfl) (fun _ _ _ h => h) (Or.inl ⟨by rfl, ?hyp5⟩) (by assumption) ?restp5
  case hyp5 => (intro w hSw; (try dsimp only at hSw); go_simp; (try with_reducible rfl))
  (try simp only [Act.put, List.setIfInBounds_toArray, List.set_cons_zero, List.set_cons_succ])
  refine wpAnyH_take (i := 6) (oi := ({ dst := some 36, op := Go.Op.binOp Go.BinOp.eql 5 (Go.Operand.tmp 35) (Go.Operand.const (Go.Value.int Go.IntKind.u8 40)) 5, type := 4, pos := "match.go:173", after := #[{ on := 5, ground := Go.Ground.data }], guard := none } : Oper)) (v := ?vp6) rfl (by kernel_rfl) (by kernel_rfl) (by kernel_rfl) (fun _ _ _ h => h) (Or.inl ⟨by rfl, ?hyp6⟩) (by assumption) ?restp6
  case hyp6 => (intro w hSw; (try dsimp only at hSw); go_simp; (try with_reducible rfl))
  (try simp only [Act.put, List.setIfInBounds_toArray, List.set_cons_zero, List.set_cons_succ])
  refine wpAnyH_ready (rs := [2]) (by kernel_rfl) (by simp) ?_
  refine AllReadyH.cons (o := ({ dst := some 32, op := Go.Op.call { callee := Go.Callee.value (Go.Operand.func 35), args := #[Go.Operand.tmp 31], argTypes := #[22] }, type := 22, pos := "match.go:173", after := #[{ on := 1, ground := Go.Ground.data }], guard := none } : Oper)) rfl (fun K hK => ?_) AllReadyH.nil
  go_simp
  refine (clone.calls At (c - 1) t _ (Kd.C_below HTC.out hHeld.2.2.out) htl).mono ?_
  rintro e w7 ⟨A', c', rfl, hc', hCc, hb, hAb⟩
  have HC7 := Aside0.mk hCc
  have HB7 := Aside0.mk (PB.below_next hHeld.2.2.out hb)
  have hX7 := pw_cell_below hb hHeld.1
  have HAB : Aside0 (∀ ad2, A' = some ad2 → ad2.block ≠ w.heap.size) := ⟨fun ad2 h2 => by obtain ⟨cs7, _, hK7⟩ := hHeld.2.1.out; have h1 := hAb ad2 h2; have h3 := cell_lt hK7; omega⟩
  obtain ⟨cs7, hcs7, hK7⟩ := hHeld.2.1.out
  have HK7 := Aside0.mk (blk_below hK7 hb)
  clear hCc hb hK7 hAb
  (try go_wp2_with fail)
  refine hK.out _ _ (by exact ⟨hX7, ⟨cs7, hcs7, HK7.out⟩, HB7⟩) (fun hHeld => ?_)
  clear hK K
  (try simp only [Act.put, List.setIfInBounds_toArray, List.set_cons_zero, List.set_cons_succ])
  refine wpAnyH_take (i := 7) (oi := ({ dst := some 37, op := Go.Op.build 43 #[(1, Go.Operand.tmp 32), (2, Go.Operand.tmp 36)], type := 43, pos := "match.go:173", after := #[{ on := 2, ground := Go.Ground.data }, { on := 6, ground := Go.Ground.data }], guard := none } : Oper)) (v := ?vp7) rfl (by kernel_rfl) (by kernel_rfl) (by kernel_rfl) (fun _ _ _ h => h) (Or.inl ⟨by rfl, ?hyp7⟩) (by assumption) ?restp7
  case hyp7 => (intro w hSw; (try dsimp only at hSw); go_simp; (try with_reducible rfl))
  (try simp only [Act.put, List.setIfInBounds_toArray, List.set_cons_zero, List.set_cons_succ])
  refine wpAnyH_ready (rs := [8]) (by kernel_rfl) (by simp) ?_
  refine AllReadyH.cons (o := ({ dst := none, op := Go.Op.store 43 (Go.Operand.tmp 2) (Go.Operand.tmp 37), type := 0, pos := "match.go:173", after := #[{ on := 7, ground := Go.Ground.data }, { on := 2, ground := Go.Ground.chain }, { on := 0, ground := Go.Ground.phase }, { on := 1, ground := Go.Ground.phase }, { on := 2, ground := Go.Ground.phase }, { on := 3, ground := Go.Ground.phase }, { on := 4, ground := Go.Ground.phase }, { on := 5, ground := Go.Ground.phase }, { on := 6, ground := Go.Ground.phase }, { on := 7, ground := Go.Ground.phase }], guard := none } : Oper)) rfl (fun K hK => ?_) AllReadyH.nil
  rw [if_pos (by rfl)]
  refine wp_store_row 43 (.tmp 2) (.tmp 37) rfl w.heap.size #[.int .i64 0, .slice A' t.length c', .bool true] rfl rfl 43 cs7 HK7.out (by kernel_rfl) hcs7 (one3 _ _ _ _ _) ?_
  have HR8 := Aside0.mk (setRow_heap2 w7 w.heap.size #[.int .i64 0, .slice A' t.length c', .bool true] cs7 43 HK7.out)
  have HB8 := Aside0.mk (below_setRow HB7.out (Nat.le_refl _) #[.int .i64 0, .slice A' t.length c', .bool true])
  have HC8 := Aside0.mk (show Kd.C (Kd.int .u8) (w7.setRow w.heap.size #[.int .i64 0, .slice A' t.length c', .bool true]) A' t.length t from C_setRow2 HC7.out _ _ HAB.out)
  have hX8 : (w7.setRow w.heap.size #[.int .i64 0, .slice A' t.length c', .bool true]).cell? ad = some (.int .u8 40) := (cell_setRow_other _ _ _ _ hadn).trans hX7
  refine hK.out _ _ (by exact ⟨hX8, ⟨_, rfl, HR8.out⟩, HB8⟩) (fun hHeld => ?_)
  clear hK K
  refine wpAnyH_take (i := 9) (oi := ({ dst := some 3, op := Go.Op.assign (Go.Operand.const (Go.Value.int Go.IntKind.i64 0)), type := 50, pos := "match.go:173", after := #[{ on := 8, ground := Go.Ground.chain }, { on := 0, ground := Go.Ground.phase }, { on := 1, ground := Go.Ground.phase }, { on := 2, ground := Go.Ground.phase }, { on := 3, ground := Go.Ground.phase }, { on := 4, ground := Go.Ground.phase }, { on := 5, ground := Go.Ground.phase }, { on := 6, ground := Go.Ground.phase }, { on := 7, ground := Go.Ground.phase }, { on := 8, ground := Go.Ground.phase }], guard := none } : Oper)) (v := ?vp9) rfl (by kernel_rfl) (by kernel_rfl) (by kernel_rfl) (fun _ _ _ h => h) (Or.inl ⟨by rfl, ?hyp9⟩) (by assumption) ?restp9
  case hyp9 => (intro w hSw; (try dsimp only at hSw); go_simp; (try with_reducible rfl))
  (try simp only [Act.put, List.setIfInBounds_toArray, List.set_cons_zero, List.set_cons_succ])
  refine wpAnyH_done (by kernel_rfl) ?_ _
  (try go_wp2_with fail)
  refine bodyPost_ret (GlobW.results_cell_row_tmp (P := Tryd.prog) rfl _ _ w.heap.size 43 _ (0, 0) _ rfl HR8.out Tryd.underlying43 rfl (by kernel_rfl)) rfl ?_
  exact ⟨A', c', rfl, hc', HC8.out, HB8.out⟩
theorem below_drawn0 {W W' : World} (h : Drawn0 W W') : Below W.heap.size W W' := h.below
theorem s7 {w W W' : World} {g3 g4 : Nat} {v0 v1 v2 v3 v4 v5 : Value} (h : W.cell? ⟨g3, 0, none⟩ = some v0 ∧ W.cell? ⟨g3, 1, none⟩ = some v1 ∧ W.cell? ⟨g3, 2, none⟩ = some v2 ∧ W.cell? ⟨g4, 0, none⟩ = some v3 ∧ W.cell? ⟨g4, 1, none⟩ = some v4 ∧ W.cell? ⟨g4, 2, none⟩ = some v5 ∧ Aside0 (Below w.heap.size w W)) (hb : Below W.heap.size W W') :
    W'.cell? ⟨g3, 0, none⟩ = some v0 ∧ W'.cell? ⟨g3, 1, none⟩ = some v1 ∧ W'.cell? ⟨g3, 2, none⟩ = some v2 ∧ W'.cell? ⟨g4, 0, none⟩ = some v3 ∧ W'.cell? ⟨g4, 1, none⟩ = some v4 ∧ W'.cell? ⟨g4, 2, none⟩ = some v5 ∧ Aside0 (Below w.heap.size w W') :=
  ⟨pw_cell_below hb h.1, pw_cell_below hb h.2.1, pw_cell_below hb h.2.2.1, pw_cell_below hb h.2.2.2.1, pw_cell_below hb h.2.2.2.2.1, pw_cell_below hb h.2.2.2.2.2.1, ⟨PB.below_next h.2.2.2.2.2.2.out hb⟩⟩

/-- Between two ends: how it stands to each, how far and how open they are. -/
def withinB (tl fl : Int) (ol : Bool) (th fh : Int) (oh : Bool) : Bool :=
  if fl > 0 then false else if fh < 0 then false else if fl = 0 ∧ (tl < 0 ∨ (tl = 0 ∧ ol = true)) then false else (decide (fh > 0) || decide (th < 0) || (decide (th = 0) && !oh))
theorem within_rest (th fh : Int) (oh : Bool) : (if fh > 0 then some true else (if th < 0 then some true else (if th = 0 then some (!oh) else some false))) = some (decide (fh > 0) || decide (th < 0) || (decide (th = 0) && !oh)) := by
  by_cases h1 : fh > 0
  · simp [h1]
  · by_cases h2 : th < 0
    · simp [h1, h2]
    · by_cases h3 : th = 0 <;> simp [h1, h2, h3]
theorem within_f (tl fl : Int) (ol : Bool) (th fh : Int) (oh : Bool) : PE.match_within.f 1 tl fl ol th fh oh = some (withinB tl fl ol th fh oh) := by
  have hr := within_rest th fh oh
  have hj : ∀ b : Bool, PE.match_within.j0 1 tl fl ol th fh oh b = if b = true then some false else (if fl = 0 then (if tl < 0 then some false else if tl = 0 then (if ol = true then some false else some (decide (fh > 0) || decide (th < 0) || (decide (th = 0) && !oh))) else some (decide (fh > 0) || decide (th < 0) || (decide (th = 0) && !oh))) else some (decide (fh > 0) || decide (th < 0) || (decide (th = 0) && !oh))) := by
    intro b
    rw [← hr]
    rfl
  unfold PE.match_within.f withinB
  rw [hj, hj]
  generalize (decide (fh > 0) || decide (th < 0) || (decide (th = 0) && !oh)) = R
  by_cases h1 : fl > 0
  · rw [if_pos h1, if_pos h1, if_pos rfl]
  · rw [if_neg h1, if_neg h1]
    by_cases h2 : fh < 0
    · rw [if_pos h2, if_pos (decide_eq_true h2)]
    · rw [if_neg h2, if_neg (by simp [h2])]
      by_cases h3 : fl = 0
      · rw [if_pos h3]
        by_cases h4 : tl < 0
        · rw [if_pos h4, if_pos ⟨h3, .inl h4⟩]
        · rw [if_neg h4]
          by_cases h5 : tl = 0
          · rw [if_pos h5]
            cases ol
            · rw [if_neg (by simp), if_neg (by rintro ⟨_, h | h⟩; exact h4 h; cases h.2)]
            · rw [if_pos rfl, if_pos ⟨h3, .inr ⟨h5, rfl⟩⟩]
          · rw [if_neg h5, if_neg (by rintro ⟨_, h | h⟩; exact h4 h; exact h5 h.1)]
      · rw [if_neg h3, if_neg (fun h => h3 h.1)]
theorem within.calls (tl fl : Int) (ol : Bool) (th fh : Int) (oh : Bool) (w : World) :
    Calls Tryd.prog 33 #[.int .i64 tl, .int .i64 fl, .bool ol, .int .i64 th, .int .i64 fh, .bool oh] w fun e w' => e = .returned (.bool (withinB tl fl ol th fh oh)) ∧ Drawn0 w w' :=
  PE.match_within.calls 1 tl fl ol th fh oh _ w (within_f tl fl ol th fh oh)
def inLexB (fl : Int) (l : List Int) (ol : Bool) (fh : Int) (h : List Int) (oh : Bool) (m : List Int) : Bool := withinB (cmpL m l) fl ol (cmpL m h) fh oh

set_option maxHeartbeats 3200000 in
theorem inLex.calls (fl : Int) (Al : Option Addr) (cl : Nat) (l : List Int) (ol : Bool) (fh : Int) (Ah : Option Addr) (ch : Nat) (h : List Int) (oh : Bool) (Am : Option Addr) (cm : Nat) (m : List Int) (w : World)
    (hl : Kd.C (Kd.int .u8) w Al l.length l) (hh : Kd.C (Kd.int .u8) w Ah h.length h) (hm : Kd.C (Kd.int .u8) w Am m.length m) (il : inB l) (ih : inB h) (im : inB m) :
    Calls Tryd.prog 25 #[.agg #[.int .i64 fl, .slice Al l.length cl, .bool ol], .agg #[.int .i64 fh, .slice Ah h.length ch, .bool oh], .slice Am m.length cm] w fun e w' => e = .returned (.bool (inLexB fl l ol fh h oh m)) ∧ Below w.heap.size w w' := by
  have HL := Aside0.mk hl
  have HH := Aside0.mk hh
  have HM := Aside0.mk hm
  have IL := Aside0.mk il
  have IH := Aside0.mk ih
  have IM := Aside0.mk im
  have HB := Aside0.mk (Below.refl w.heap.size w)
  clear hl hh hm il ih im
  go_enter Tryd.func25, Tryd.ntmps25
  go_upto_region 1 with (first
    | ((with_reducible refine gate_dst (N := 3) rfl ?_); refine box_event ?hg (N := 3) ?hd (cs := #[.int .i64 fl, .slice Al l.length cl, .bool ol]) (t := 43) ?hr ?_; (case hd => rfl); (case hg => rfl); (case hr => first | (go_simp; done) | (go_simp; rfl)); intro g3 hg3 w5 hbox hb; have n0_ := Aside0.mk (below_step HB.out hb); have BK3 := Aside0.mk hbox; clear HB; have HB := n0_; clear n0_ hb hbox hg3)
    | ((with_reducible refine gate_dst (N := 4) rfl ?_); refine box_event ?hg (N := 4) ?hd (cs := #[.int .i64 fh, .slice Ah h.length ch, .bool oh]) (t := 43) ?hr ?_; (case hd => rfl); (case hg => rfl); (case hr => first | (go_simp; done) | (go_simp; rfl)); intro g4 hg4 w6 hbox hb; have n0_ := Aside0.mk (below_step HB.out hb); have BK4 := Aside0.mk hbox; have BK3b := Aside0.mk (blk_below BK3.out hb); clear HB; have HB := n0_; clear n0_ hb hbox BK3 hg4))
  have x30 : w6.cell? ⟨g3, 0, none⟩ = some (.int .i64 fl) := (blk_cell BK3b.out 0).trans rfl
  have x31 : w6.cell? ⟨g3, 1, none⟩ = some (.slice Al l.length cl) := (blk_cell BK3b.out 1).trans rfl
  have x32 : w6.cell? ⟨g3, 2, none⟩ = some (.bool ol) := (blk_cell BK3b.out 2).trans rfl
  have x40 : w6.cell? ⟨g4, 0, none⟩ = some (.int .i64 fh) := (blk_cell BK4.out 0).trans rfl
  have x41 : w6.cell? ⟨g4, 1, none⟩ = some (.slice Ah h.length ch) := (blk_cell BK4.out 1).trans rfl
  have x42 : w6.cell? ⟨g4, 2, none⟩ = some (.bool oh) := (blk_cell BK4.out 2).trans rfl
  have hS0 : w6.drew.cell? ⟨g3, 0, none⟩ = some (.int .i64 fl) ∧ w6.drew.cell? ⟨g3, 1, none⟩ = some (.slice Al l.length cl) ∧ w6.drew.cell? ⟨g3, 2, none⟩ = some (.bool ol) ∧ w6.drew.cell? ⟨g4, 0, none⟩ = some (.int .i64 fh) ∧ w6.drew.cell? ⟨g4, 1, none⟩ = some (.slice Ah h.length ch) ∧ w6.drew.cell? ⟨g4, 2, none⟩ = some (.bool oh) ∧ Aside0 (Below w.heap.size w w6.drew) := ⟨x30, x31, x32, x40, x41, x42, ⟨HB.out.drew⟩⟩
  clear x30 x31 x32 x40 x41 x42 BK3b BK4
  refine wp_region_held_drew (S := (fun W => W.cell? ⟨g3, 0, none⟩ = some (.int .i64 fl) ∧ W.cell? ⟨g3, 1, none⟩ = some (.slice Al l.length cl) ∧ W.cell? ⟨g3, 2, none⟩ = some (.bool ol) ∧ W.cell? ⟨g4, 0, none⟩ = some (.int .i64 fh) ∧ W.cell? ⟨g4, 1, none⟩ = some (.slice Ah h.length ch) ∧ W.cell? ⟨g4, 2, none⟩ = some (.bool oh) ∧ Aside0 (Below w.heap.size w W))) (by kernel_rfl) (by exact hS0) (fun hHeld => ?_)
  refine wpAnyH_take (i := 0) (oi := ({ dst := some 7, op := Go.Op.move (Go.Operand.tmp 2), type := 22, pos := "match.go:207", after := #[], guard := none } : Oper)) (v := ?vq0) rfl (by kernel_rfl) (by kernel_rfl) (by kernel_rfl) (fun _ _ _ h => h) (Or.inl ⟨by rfl, ?hyq0⟩) (by assumption) ?restq0
  case hyq0 => (intro w hSw; (try dsimp only at hSw); go_simp; (try with_reducible rfl))
  (try simp only [Act.put, List.setIfInBounds_toArray, List.set_cons_zero, List.set_cons_succ])
  refine wpAnyH_take (i := 1) (oi := ({ dst := some 8, op := Go.Op.fieldAddr 43 (Go.Operand.tmp 3) 1, type := 0, pos := "match.go:207", after := #[], guard := none } : Oper)) (v := ?vq1) rfl (by kernel_rfl) (by kernel_rfl) (by kernel_rfl) (fun _ _ _ h => h) (Or.inl ⟨by rfl, ?hyq1⟩) (by assumption) ?restq1
  case hyq1 => (intro w hSw; (try dsimp only at hSw); go_simp; (try with_reducible rfl))
  (try simp only [Act.put, List.setIfInBounds_toArray, List.set_cons_zero, List.set_cons_succ])
  refine wpAnyH_take (i := 2) (oi := ({ dst := some 9, op := Go.Op.load 22 (Go.Operand.tmp 8), type := 22, pos := "match.go:207", after := #[{ on := 1, ground := Go.Ground.data }], guard := none } : Oper)) (v := ?vq2) rfl (by kernel_rfl) (by kernel_rfl) (by kernel_rfl) (fun _ _ _ h => h) (Or.inl ⟨by rfl, ?hyq2⟩) (by assumption) ?restq2
  case hyq2 => (intro w hSw; (try dsimp only at hSw); go_simp; (try with_reducible rfl))
  (try simp only [Act.put, List.setIfInBounds_toArray, List.set_cons_zero, List.set_cons_succ])
  refine wpAnyH_take (i := 4) (oi := ({ dst := some 11, op := Go.Op.fieldAddr 43 (Go.Operand.tmp 3) 0, type := 0, pos := "match.go:207", after := #[], guard := none } : Oper)) (v := ?vq4) rfl (by kernel_rfl) (by kernel_rfl) (by kernel_rfl) (fun _ _ _ h => h) (Or.inl ⟨by rfl, ?hyq4⟩) (by assumption) ?restq4
  case hyq4 => (intro w hSw; (try dsimp only at hSw); go_simp; (try with_reducible rfl))
  (try simp only [Act.put, List.setIfInBounds_toArray, List.set_cons_zero, List.set_cons_succ])
  refine wpAnyH_take (i := 5) (oi := ({ dst := some 12, op := Go.Op.load 3 (Go.Operand.tmp 11), type := 3, pos := "match.go:207", after := #[{ on := 4, ground := Go.Ground.data }], guard := none } : Oper)) (v := ?vq5) rfl (by kernel_rfl) (by kernel_rfl) (by kernel_rfl) (fun _ _ _ h => h) (Or.inl ⟨by rfl, ?hyq5⟩) (by assumption) ?restq5
  case hyq5 => (intro w hSw; (try dsimp only at hSw); go_simp; (try with_reducible rfl))
  (try simp only [Act.put, List.setIfInBounds_toArray, List.set_cons_zero, List.set_cons_succ])
  refine wpAnyH_take (i := 6) (oi := ({ dst := some 13, op := Go.Op.fieldAddr 43 (Go.Operand.tmp 3) 2, type := 0, pos := "match.go:207", after := #[], guard := none } : Oper)) (v := ?vq6) rfl (by kernel_rfl) (by kernel_rfl) (by kernel_rfl) (fun _ _ _ h => h) (Or.inl ⟨by rfl, ?hyq6⟩) (by assumption) ?restq6
  case hyq6 => (intro w hSw; (try dsimp only at hSw); go_simp; (try with_reducible rfl))
  (try simp only [Act.put, List.setIfInBounds_toArray, List.set_cons_zero, List.set_cons_succ])
  refine wpAnyH_take (i := 7) (oi := ({ dst := some 14, op := Go.Op.load 4 (Go.Operand.tmp 13), type := 4, pos := "match.go:207", after := #[{ on := 6, ground := Go.Ground.data }], guard := none } : Oper)) (v := ?vq7) rfl (by kernel_rfl) (by kernel_rfl) (by kernel_rfl) (fun _ _ _ h => h) (Or.inl ⟨by rfl, ?hyq7⟩) (by assumption) ?restq7
  case hyq7 => (intro w hSw; (try dsimp only at hSw); go_simp; (try with_reducible rfl))
  (try simp only [Act.put, List.setIfInBounds_toArray, List.set_cons_zero, List.set_cons_succ])
  refine wpAnyH_take (i := 8) (oi := ({ dst := some 15, op := Go.Op.move (Go.Operand.tmp 2), type := 22, pos := "match.go:207", after := #[], guard := none } : Oper)) (v := ?vq8) rfl (by kernel_rfl) (by kernel_rfl) (by kernel_rfl) (fun _ _ _ h => h) (Or.inl ⟨by rfl, ?hyq8⟩) (by assumption) ?restq8
  case hyq8 => (intro w hSw; (try dsimp only at hSw); go_simp; (try with_reducible rfl))
  (try simp only [Act.put, List.setIfInBounds_toArray, List.set_cons_zero, List.set_cons_succ])
  refine wpAnyH_take (i := 9) (oi := ({ dst := some 16, op := Go.Op.fieldAddr 43 (Go.Operand.tmp 4) 1, type := 0, pos := "match.go:207", after := #[], guard := none } : Oper)) (v := ?vq9) rfl (by kernel_rfl) (by kernel_rfl) (by kernel_rfl) (fun _ _ _ h => h) (Or.inl ⟨by rfl, ?hyq9⟩) (by assumption) ?restq9
  case hyq9 => (intro w hSw; (try dsimp only at hSw); go_simp; (try with_reducible rfl))
  (try simp only [Act.put, List.setIfInBounds_toArray, List.set_cons_zero, List.set_cons_succ])
  refine wpAnyH_take (i := 10) (oi := ({ dst := some 17, op := Go.Op.load 22 (Go.Operand.tmp 16), type := 22, pos := "match.go:207", after := #[{ on := 9, ground := Go.Ground.data }], guard := none } : Oper)) (v := ?vq10) rfl (by kernel_rfl) (by kernel_rfl) (by kernel_rfl) (fun _ _ _ h => h) (Or.inl ⟨by rfl, ?hyq10⟩) (by assumption) ?restq10
  case hyq10 => (intro w hSw; (try dsimp only at hSw); go_simp; (try with_reducible rfl))
  (try simp only [Act.put, List.setIfInBounds_toArray, List.set_cons_zero, List.set_cons_succ])
  refine wpAnyH_take (i := 12) (oi := ({ dst := some 19, op := Go.Op.fieldAddr 43 (Go.Operand.tmp 4) 0, type := 0, pos := "match.go:207", after := #[], guard := none } : Oper)) (v := ?vq12) rfl (by kernel_rfl) (by kernel_rfl) (by kernel_rfl) (fun _ _ _ h => h) (Or.inl ⟨by rfl, ?hyq12⟩) (by assumption) ?restq12
  case hyq12 => (intro w hSw; (try dsimp only at hSw); go_simp; (try with_reducible rfl))
  (try simp only [Act.put, List.setIfInBounds_toArray, List.set_cons_zero, List.set_cons_succ])
  refine wpAnyH_take (i := 13) (oi := ({ dst := some 20, op := Go.Op.load 3 (Go.Operand.tmp 19), type := 3, pos := "match.go:207", after := #[{ on := 12, ground := Go.Ground.data }], guard := none } : Oper)) (v := ?vq13) rfl (by kernel_rfl) (by kernel_rfl) (by kernel_rfl) (fun _ _ _ h => h) (Or.inl ⟨by rfl, ?hyq13⟩) (by assumption) ?restq13
  case hyq13 => (intro w hSw; (try dsimp only at hSw); go_simp; (try with_reducible rfl))
  (try simp only [Act.put, List.setIfInBounds_toArray, List.set_cons_zero, List.set_cons_succ])
  refine wpAnyH_take (i := 14) (oi := ({ dst := some 21, op := Go.Op.fieldAddr 43 (Go.Operand.tmp 4) 2, type := 0, pos := "match.go:207", after := #[], guard := none } : Oper)) (v := ?vq14) rfl (by kernel_rfl) (by kernel_rfl) (by kernel_rfl) (fun _ _ _ h => h) (Or.inl ⟨by rfl, ?hyq14⟩) (by assumption) ?restq14
  case hyq14 => (intro w hSw; (try dsimp only at hSw); go_simp; (try with_reducible rfl))
  (try simp only [Act.put, List.setIfInBounds_toArray, List.set_cons_zero, List.set_cons_succ])
  refine wpAnyH_take (i := 15) (oi := ({ dst := some 22, op := Go.Op.load 4 (Go.Operand.tmp 21), type := 4, pos := "match.go:207", after := #[{ on := 14, ground := Go.Ground.data }], guard := none } : Oper)) (v := ?vq15) rfl (by kernel_rfl) (by kernel_rfl) (by kernel_rfl) (fun _ _ _ h => h) (Or.inl ⟨by rfl, ?hyq15⟩) (by assumption) ?restq15
  case hyq15 => (intro w hSw; (try dsimp only at hSw); go_simp; (try with_reducible rfl))
  (try simp only [Act.put, List.setIfInBounds_toArray, List.set_cons_zero, List.set_cons_succ])
  refine wpAnyH_ready (rs := [3]) (by kernel_rfl) (by simp) ?_
  refine AllReadyH.cons (o := ({ dst := some 10, op := Go.Op.call { callee := Go.Callee.value (Go.Operand.func 36), args := #[Go.Operand.tmp 7, Go.Operand.tmp 9], argTypes := #[22, 22] }, type := 3, pos := "match.go:207", after := #[{ on := 0, ground := Go.Ground.data }, { on := 2, ground := Go.Ground.data }], guard := none } : Oper)) rfl (fun K hK => ?_) AllReadyH.nil
  go_simp
  refine (compare.calls Am cm m Al cl l _ (Kd.C_below HM.out hHeld.2.2.2.2.2.2.out) (Kd.C_below HL.out hHeld.2.2.2.2.2.2.out) IM.out IL.out).mono ?_
  rintro e wx ⟨rfl, rfl⟩
  (try go_wp2_with fail)
  refine hK.out _ _ (by exact hHeld) (fun hHeld => ?_)
  clear hK K
  (try simp only [Act.put, List.setIfInBounds_toArray, List.set_cons_zero, List.set_cons_succ])
  refine wpAnyH_ready (rs := [11]) (by kernel_rfl) (by simp) ?_
  refine AllReadyH.cons (o := ({ dst := some 18, op := Go.Op.call { callee := Go.Callee.value (Go.Operand.func 36), args := #[Go.Operand.tmp 15, Go.Operand.tmp 17], argTypes := #[22, 22] }, type := 3, pos := "match.go:207", after := #[{ on := 8, ground := Go.Ground.data }, { on := 10, ground := Go.Ground.data }, { on := 3, ground := Go.Ground.chain }], guard := none } : Oper)) rfl (fun K hK => ?_) AllReadyH.nil
  go_simp
  refine (compare.calls Am cm m Ah ch h _ (Kd.C_below HM.out hHeld.2.2.2.2.2.2.out) (Kd.C_below HH.out hHeld.2.2.2.2.2.2.out) IM.out IH.out).mono ?_
  rintro e wx ⟨rfl, rfl⟩
  (try go_wp2_with fail)
  refine hK.out _ _ (by exact hHeld) (fun hHeld => ?_)
  clear hK K
  (try simp only [Act.put, List.setIfInBounds_toArray, List.set_cons_zero, List.set_cons_succ])
  refine wpAnyH_ready (rs := [16]) (by kernel_rfl) (by simp) ?_
  refine AllReadyH.cons (o := ({ dst := some 23, op := Go.Op.call { callee := Go.Callee.value (Go.Operand.func 33), args := #[Go.Operand.tmp 10, Go.Operand.tmp 12, Go.Operand.tmp 14, Go.Operand.tmp 18, Go.Operand.tmp 20, Go.Operand.tmp 22], argTypes := #[3, 3, 4, 3, 3, 4] }, type := 4, pos := "match.go:207", after := #[{ on := 3, ground := Go.Ground.data }, { on := 5, ground := Go.Ground.data }, { on := 7, ground := Go.Ground.data }, { on := 11, ground := Go.Ground.data }, { on := 13, ground := Go.Ground.data }, { on := 15, ground := Go.Ground.data }, { on := 11, ground := Go.Ground.chain }], guard := none } : Oper)) rfl (fun K hK => ?_) AllReadyH.nil
  go_simp
  refine (within.calls _ _ _ _ _ _ _).mono ?_
  rintro e wx ⟨rfl, hb⟩
  have HBE := Aside0.mk (PB.below_next hHeld.2.2.2.2.2.2.out (below_drawn0 hb))
  have hS1 := s7 hHeld (below_drawn0 hb)
  clear hb
  (try go_wp2_with fail)
  refine hK.out _ _ (by exact hS1) (fun hHeld => ?_)
  clear hK K
  (try simp only [Act.put, List.setIfInBounds_toArray, List.set_cons_zero, List.set_cons_succ])
  refine wpAnyH_take (i := 17) (oi := ({ dst := some 6, op := Go.Op.assign (Go.Operand.tmp 23), type := 4, pos := "match.go:207", after := #[{ on := 16, ground := Go.Ground.data }, { on := 16, ground := Go.Ground.chain }, { on := 0, ground := Go.Ground.phase }, { on := 1, ground := Go.Ground.phase }, { on := 2, ground := Go.Ground.phase }, { on := 3, ground := Go.Ground.phase }, { on := 4, ground := Go.Ground.phase }, { on := 5, ground := Go.Ground.phase }, { on := 6, ground := Go.Ground.phase }, { on := 7, ground := Go.Ground.phase }, { on := 8, ground := Go.Ground.phase }, { on := 9, ground := Go.Ground.phase }, { on := 10, ground := Go.Ground.phase }, { on := 11, ground := Go.Ground.phase }, { on := 12, ground := Go.Ground.phase }, { on := 13, ground := Go.Ground.phase }, { on := 14, ground := Go.Ground.phase }, { on := 15, ground := Go.Ground.phase }, { on := 16, ground := Go.Ground.phase }], guard := none } : Oper)) (v := ?vq17) rfl (by kernel_rfl) (by kernel_rfl) (by kernel_rfl) (fun _ _ _ h => h) (Or.inl ⟨by rfl, ?hyq17⟩) (by assumption) ?restq17
  case hyq17 => (intro w hSw; (try dsimp only at hSw); go_simp; (try with_reducible rfl))
  (try simp only [Act.put, List.setIfInBounds_toArray, List.set_cons_zero, List.set_cons_succ])
  refine wpAnyH_done (by kernel_rfl) ?_ _
  (try go_wp2_with fail)
  go_ret
  exact ⟨rfl, HBE.out⟩
end Go.Proofs.YtdflblegdfpdpaaDoor.LexW
end

section
/- larderref9.Glob: the machine's call. -/
namespace Go.Proofs.YtdflblegdfpdpaaDoor.GlobR
open Go Go.RowKit Go.Proofs.YtdflblegdfpdpaaDoorW.PrintWords Go.Proofs.YtdflblegdfpdpaaDoorW.PrintLast Go.Proofs.YtdflblegdfpdpaaDoorW.PrintMore Go.Proofs.YtdflblegdfpdpaaDoor.GlobS Go.Proofs.YtdflblegdfpdpaaDoor.ScoreW Go.Proofs.YtdflblegdfpdpaaDoor.RowF Go.Proofs.YtdflblegdfpdpaaDoor.GlobW Go.Proofs.YtdflblegdfpdpaaDoor.PcsR Go.Proofs.YtdflblegdfpdpaaDoor.GlobD
set_option linter.unusedVariables false
set_option maxRecDepth 100000

/-- A whole block of marks. -/
def BoolAt (W : World) (g : Nat) (l : List Bool) : Prop := W.heap[g]? = some (.cells (l.map Value.bool).toArray 4 (0, 0))
theorem BoolAt.get {W : World} {g : Nat} {l : List Bool} (h : BoolAt W g l) (k : Nat) (b : Bool) (hb : l[k]? = some b) : W.cell? ⟨g, k, none⟩ = some (.bool b) := by
  refine (blk_cell h k).trans ?_
  simp [hb]
theorem BoolAt.frozen {W : World} {g : Nat} {l : List Bool} (h : BoolAt W g l) (k : Nat) : W.frozen? ⟨g, k, none⟩ = false := blk_frozen h k
theorem BoolAt.set {W : World} {g : Nat} {l : List Bool} (h : BoolAt W g l) (k : Nat) (b : Bool) : BoolAt (W.setCell ⟨g, k, none⟩ (.bool b)) g (l.set k b) := by
  have := blk_set h k (.bool b)
  rw [List.setIfInBounds_toArray, ← List.map_set] at this
  exact this
theorem BoolAt.below {W W' : World} {g : Nat} {l : List Bool} (h : BoolAt W g l) (hb : Below W.heap.size W W') : BoolAt W' g l := blk_below h hb
theorem BoolAt.other {W : World} {g g' : Nat} {l : List Bool} (h : BoolAt W g l) (hg : g ≠ g') (k : Nat) (v : Value) : BoolAt (W.setCell ⟨g', k, none⟩ v) g l := by
  unfold BoolAt
  rw [Below.heap_setCell W _ _ g hg]
  exact h
theorem infoBool : ∃ i, Tryd.prog.info? 4 = some i ∧ i.zero = some (.bool false) ∧ i.size = 1 ∧ i.bytes = 1 := by
  have h : (Tryd.prog.info? 4).map (fun i => (i.zero, i.size, i.bytes)) = some (some (.bool false), 1, 1) := by kernel_rfl
  obtain ⟨i, hi, hz⟩ := Option.map_eq_some_iff.1 h
  simp only [Prod.mk.injEq] at hz
  exact ⟨i, hi, hz.1, hz.2.1, hz.2.2⟩
theorem make_bool (n : Nat) (hn : n ≤ 140737488355328) (u : World) : (Instr.makeSlice 96 (.int .i64 (n : Int)) (.int .i64 (n : Int))).run Tryd.prog u =
    .ok (.slice (some ⟨u.heap.size, 0, none⟩) n n) (u.alloc (.cells (madeCells #[.bool false] n) 4)) := by
  obtain ⟨i0, hi, hz0, hz1, hz2⟩ := infoBool
  have h := run_make (P := Tryd.prog) u 96 4 i0 (.bool false) Tryd.underlying96 hi hz0 .i64 .i64 (n : Int) (n : Int) (by omega) (Int.le_refl _) (by rw [hz2]; omega) (by omega)
  simpa [hz1, Value.cells] using h
theorem bool_made (w : World) (n : Nat) : BoolAt (w.alloc (.cells (madeCells #[.bool false] n) 4)) w.heap.size (List.replicate n false) := by
  have := blk_new w (.cells (madeCells #[.bool false] n) 4)
  unfold BoolAt
  rw [this]
  congr 2
  apply Array.toList_inj.1
  rw [toList_madeCells_one]
  simp
/-- Which beginnings can be cut for the pieces. -/
def tab (l : List Pc) (t : List Int) : List Bool := (List.range (t.length + 1)).map (canD l t)
/-- The same, as far as j. -/
def part (l : List Pc) (t : List Int) (j : Nat) : List Bool := (List.range (t.length + 1)).map fun k => decide (k < j) && canD l t k
theorem tab_get (l : List Pc) (t : List Int) (j : Nat) (h : j ≤ t.length) : (tab l t)[j]? = some (canD l t j) := by
  unfold tab
  rw [List.getElem?_map, List.getElem?_range (by omega)]
  rfl
theorem part_get (l : List Pc) (t : List Int) (j k : Nat) (h : k ≤ t.length) : (part l t j)[k]? = some (decide (k < j) && canD l t k) := by
  unfold part
  rw [List.getElem?_map, List.getElem?_range (by omega)]
  rfl
theorem part_zero (l : List Pc) (t : List Int) : part l t 0 = List.replicate (t.length + 1) false := by
  apply List.ext_getElem?
  intro k
  by_cases h : k ≤ t.length
  · rw [part_get l t 0 k h, List.getElem?_replicate, if_pos (by omega)]
    simp
  · rw [List.getElem?_eq_none (by simp [part]; omega), List.getElem?_eq_none (by simp; omega)]
theorem part_set (l : List Pc) (t : List Int) (j : Nat) (h : j ≤ t.length) : (part l t j).set j (canD l t j) = part l t (j + 1) := by
  apply List.ext_getElem?
  intro k
  rw [List.getElem?_set]
  by_cases h1 : k ≤ t.length
  · by_cases h2 : j = k
    · subst h2
      rw [if_pos rfl, if_pos (by simp [part]; omega), part_get l t (j + 1) j h1]
      simp
    · rw [if_neg h2, part_get l t j k h1, part_get l t (j + 1) k h1]
      congr 2
      rw [decide_eq_decide]
      omega
  · rw [if_neg (by omega), List.getElem?_eq_none (by simp [part]; omega), List.getElem?_eq_none (by simp [part]; omega)]
theorem part_all (l : List Pc) (t : List Int) : part l t (t.length + 1) = tab l t := by
  unfold part tab
  refine List.map_congr_left (fun k hk => ?_)
  rw [decide_eq_true (List.mem_range.1 hk), Bool.true_and]
theorem tab_nil (t : List Int) : (List.replicate (t.length + 1) false).set 0 true = tab [] t := by
  apply List.ext_getElem?
  intro k
  rw [List.getElem?_set]
  by_cases h1 : k ≤ t.length
  · rw [tab_get [] t k h1, can_nil t k h1]
    by_cases h2 : 0 = k
    · subst h2; simp
    · rw [if_neg h2, List.getElem?_replicate, if_pos (by omega)]
      simp; omega
  · rw [if_neg (by omega), List.getElem?_eq_none (by simp; omega), List.getElem?_eq_none (by simp [tab]; omega)]
theorem add_pos (b : Addr) (k : Nat) (h : 0 < k) : b.add k = ⟨b.block, b.off + k, none⟩ := by
  unfold Addr.add
  rw [if_neg (by omega)]
/-- A piece's marks, where it lies among the pieces. -/
theorem piece_cells {w : World} {A : Option Addr} {n : Nat} {l : List Pc} (h : pcR.C w A n l) (i : Nat) (p : Pc) (hp : l[i]? = some p) :
    ∃ ad, A = some ad ∧ w.cell? (ad.add (i * 257)) = some (.bool p.star) ∧ ∀ k, k < 256 → w.cell? ⟨(ad.add (i * 257)).block, (ad.add (i * 257)).off + 1 + k, none⟩ = some (.bool (has p.set k)) := by
  obtain ⟨hi, hp'⟩ := List.getElem?_eq_some_iff.1 hp
  have hn : l.length = n := h.1
  obtain ⟨ad, c, hh, hc, hK, hcells⟩ := Kd.C_get h p (i : Int) (by omega) (by omega)
  rw [Int.toNat_natCast] at hK hcells
  have he : l.getD i p = p := by rw [List.getD_eq_getElem?_getD, hp]; rfl
  rw [he] at hK
  obtain rfl : c = rowF p.star (has p.set) := hK
  refine ⟨ad, hh, ?_, fun k hk => ?_⟩
  · have := hcells 0 (.bool p.star) rfl
    exact this
  · have := hcells (1 + k) (.bool (has p.set k)) (rowF_get _ _ k hk)
    rw [← HeldW.add_add] at this
    have e : ((ad.add (i * 257)).add (1 + k)) = ⟨(ad.add (i * 257)).block, (ad.add (i * 257)).off + (1 + k), none⟩ := add_pos _ _ (by omega)
    have this : w.cell? ((ad.add (i * 257)).add (1 + k)) = some (.bool (has p.set k)) := this
    rw [e, ← Nat.add_assoc] at this
    exact this
set_option maxHeartbeats 8000000 in
theorem glob.calls (A : Option Addr) (c : Nat) (p : List Int) (At : Option Addr) (ct : Nat) (t : List Int) (w : World) (hr : Kd.C (Kd.int .u8) w A p.length p) (hc : p.length ≤ c) (hl : ∀ c ∈ p, 0 ≤ c ∧ c < 256) (hlen : p.length ≤ 1048576) (ht : Kd.C (Kd.int .u8) w At t.length t) (hct : t.length ≤ ct) (hlt : ∀ c ∈ t, 0 ≤ c ∧ c < 256) (htl : t.length ≤ 1048576) :
    Calls Tryd.prog 45 #[.slice A p.length c, .slice At t.length ct] w fun e w' => e = .returned (.bool (globL p t)) ∧ Below w.heap.size w w' := by
  have HP := Aside0.mk (pieces.calls A c p w hr hc hl hlen)
  have HT := Aside0.mk ht
  have HTI := Aside0.mk hlt
  clear hr hl ht hlt
  go_enter Tryd.func45, Tryd.ntmps45
  go_wp2_with fail
  refine HP.out.mono ?_
  rintro e w2 ⟨v, rfl, hR, hLl, hb⟩
  obtain ⟨Al, cl, rfl, hcl, hCl⟩ := Kd.R_reads hR
  have HB2 := Aside0.mk hb
  have HCL := Aside0.mk hCl
  have HT2 := Aside0.mk (Kd.C_below HT.out hb)
  have HGL : Aside0 (globL p t = fits (piecesL p) t) := ⟨rfl⟩
  clear hb hCl hR HP HT
  generalize piecesL p = L at *
  obtain ⟨n, hn⟩ : ∃ n, n = t.length + 1 := ⟨_, rfl⟩
  have hmk : ∀ u : World, (Instr.makeSlice 96 (.int .i64 ((t.length : Int) + 1)) (.int .i64 ((t.length : Int) + 1))).run Tryd.prog u = .ok (.slice (some ⟨u.heap.size, 0, none⟩) n n) (u.alloc (.cells (madeCells #[.bool false] n) 4)) := by
    intro u
    have := make_bool n (by omega) u
    rw [hn] at this ⊢
    exact this
  have BM := Aside0.mk (bool_made w2 n)
  have HN := Aside0.mk hn
  have hnp : t.length < n := by omega
  clear hn
  go_upto_region 3 with fail
  have HB3 := Aside0.mk (below_alloc (Below.refl w2.heap.size w2) (.cells (madeCells #[.bool false] n) 4))
  obtain ⟨g0, hg0⟩ : ∃ g0, g0 = w2.heap.size := ⟨_, rfl⟩
  rw [← hg0] at BM
  rw [← hg0]
  have HG0 : Aside0 (w2.heap.size ≤ g0) := ⟨by omega⟩
  clear hg0
  generalize w2.alloc (.cells (madeCells #[.bool false] n) 4) = w3 at *
  have hz := BM.out.get 0 false (by rw [List.getElem?_replicate, if_pos (by omega)])
  have hzf := BM.out.frozen 0
  have f0 : decide ((0 : Int) < n) = true := decide_eq_true (by omega)
  have f0' : decide (0 < n) = true := decide_eq_true (by omega)
  go_upto_region 4 with fail
  have BM4 : Aside0 (BoolAt (w3.setCell ⟨g0, 0, none⟩ (.bool true)) g0 (tab [] t)) := ⟨by rw [← tab_nil, ← HN.out]; exact BM.out.set 0 true⟩
  have HB4 := Aside0.mk (GlobW.below_put HB3.out HG0.out 0 (.bool true))
  clear hz hzf BM HB3 f0 f0'
  generalize w3.setCell ⟨g0, 0, none⟩ (.bool true) = w4 at *
  go_wp2_with fail
  go_loopw [6, 7] (fun v6 v7 wr => ∃ (i g : Nat), v6 = .slice (some ⟨g, 0, none⟩) n n ∧ v7 = .int .i64 i ∧ i ≤ L.length ∧ Aside0 (w2.heap.size ≤ g ∧ BoolAt wr g (tab (L.take i) t) ∧ Below w2.heap.size w2 wr)) (fun v6 v7 wr => L.length - (intOf v7).toNat)
  case atStart => exact ⟨0, g0, rfl, rfl, by omega, ⟨HG0.out, BM4.out, HB4.out⟩⟩
  case round =>
    obtain ⟨i, g, rfl, rfl, hi2, HI⟩ := hrel
    rename World => wr
    by_cases hil : i < L.length
    · have c1 : decide ((i : Int) < L.length) = true := decide_eq_true (by omega)
      have c1' : decide (i < L.length) = true := decide_eq_true hil
      obtain ⟨pc, hpc⟩ : ∃ pc, L[i]? = some pc := ⟨_, List.getElem?_eq_getElem hil⟩
      have HTK : Aside0 (L.take (i + 1) = L.take i ++ [pc]) := ⟨by rw [List.take_add_one, hpc]; rfl⟩
      have HPC := Aside0.mk hpc
      clear hpc
      have BM5 := Aside0.mk (bool_made wr n)
      go_upto_region 8 with fail
      have hb5 := below_alloc (Below.refl wr.heap.size wr) (.cells (madeCells #[.bool false] n) 4)
      have HB5 := Aside0.mk (PB.below_next HI.out.2.2 hb5)
      have BC5 := Aside0.mk (HI.out.2.1.below hb5)
      have hgr : g < wr.heap.size := ClsR.cell_lt HI.out.2.1
      obtain ⟨gn, hgn⟩ : ∃ gn, gn = wr.heap.size := ⟨_, rfl⟩
      rw [← hgn] at BM5
      rw [← hgn]
      have HNE : Aside0 (g ≠ gn) := ⟨by omega⟩
      have HGN : Aside0 (w2.heap.size ≤ gn) := ⟨by rw [hgn]; exact HI.out.2.2.size⟩
      clear hgn hgr hb5 HI
      generalize wr.alloc (.cells (madeCells #[.bool false] n) 4) = w5 at *
      go_wp2_with fail
      go_loopw [9] (fun v9 wq => ∃ j : Nat, v9 = .int .i64 j ∧ j ≤ n ∧ Aside0 (BoolAt wq gn (part (L.take (i + 1)) t j) ∧ BoolAt wq g (tab (L.take i) t) ∧ Below w2.heap.size w2 wq)) (fun v9 wq => n - (intOf v9).toNat)
      case atStart => exact ⟨0, rfl, by omega, ⟨by rw [part_zero, ← HN.out]; exact BM5.out, BC5.out, HB5.out⟩⟩
      case round =>
        obtain ⟨j, rfl, hj2, HJ⟩ := hrel
        rename World => wq
        by_cases hjl : j ≤ t.length
        · have e1 : decide ((j : Int) ≤ t.length) = true := decide_eq_true (by omega)
          have e1' : decide (j ≤ t.length) = true := decide_eq_true hjl
          have hjn : j < n := by omega
          obtain ⟨ad, rfl, hst, hfit⟩ := piece_cells (Kd.C_below HCL.out HJ.out.2.2) i pc HPC.out
          have HFIT := Aside0.mk hfit
          clear hfit
          have hgj : wq.cell? ⟨g, j, none⟩ = some (.bool (canD (L.take i) t j)) := HJ.out.2.1.get j _ (tab_get _ _ j hjl)
          have hnj : wq.cell? ⟨gn, j, none⟩ = some (.bool false) := HJ.out.1.get j _ (by rw [part_get _ _ _ _ hjl]; simp)
          have hnf := HJ.out.1.frozen j
          have HSET : Aside0 (∀ b, b = canD (L.take (i + 1)) t j → BoolAt (wq.setCell ⟨gn, j, none⟩ (.bool b)) gn (part (L.take (i + 1)) t (j + 1)) ∧ BoolAt (wq.setCell ⟨gn, j, none⟩ (.bool b)) g (tab (L.take i) t) ∧ Below w2.heap.size w2 (wq.setCell ⟨gn, j, none⟩ (.bool b))) := ⟨fun b hb => ⟨by rw [← part_set _ _ _ hjl, ← hb]; exact HJ.out.1.set j b, HJ.out.2.1.other HNE.out j _, GlobW.below_put HJ.out.2.2 HGN.out j _⟩⟩
          have HSETD : Aside0 (∀ b, b = canD (L.take (i + 1)) t j → BoolAt (wq.drew.setCell ⟨gn, j, none⟩ (.bool b)) gn (part (L.take (i + 1)) t (j + 1)) ∧ BoolAt (wq.drew.setCell ⟨gn, j, none⟩ (.bool b)) g (tab (L.take i) t) ∧ Below w2.heap.size w2 (wq.drew.setCell ⟨gn, j, none⟩ (.bool b))) := ⟨fun b hb => ⟨(HSET.out b hb).1, (HSET.out b hb).2.1, GlobW.below_put HJ.out.2.2.drew HGN.out j _⟩⟩
          obtain ⟨b0, hb0⟩ : ∃ b0, b0 = canD (L.take i) t j := ⟨_, rfl⟩
          rw [← hb0] at hgj
          have HB0 := Aside0.mk hb0
          clear hb0
          cases hs : pc.star
          · rw [hs] at hst
            have HS := Aside0.mk hs
            clear hs
            -- SET
            cases j with
            | zero =>
              have HCS := Aside0.mk (can_set_zero (L.take i) pc HS.out t)
              rw [← HTK.out] at HCS
              have hS0 : True := trivial
              have e2 : decide ((0 : Int) < ((0 : Nat) : Int)) = false := by decide
              go_upto_region 13 with fail
              refine wp_region_held_drew (S := (fun _ => True)) (by kernel_rfl) (by exact hS0) (fun hHeld => ?_)
              refine wpAnyH_take (i := 0) (oi := ({ dst := some 57, op := Go.Op.move (Go.Operand.tmp 8), type := 96, pos := "match.go:97", after := #[], guard := none } : Oper)) (v := ?vp0) rfl (by kernel_rfl) (by kernel_rfl) (by kernel_rfl) (fun _ _ _ h => h) (Or.inl ⟨by rfl, ?hyp0⟩) (by assumption) ?restp0
              case hyp0 => (intro w hSw; (try dsimp only at hSw); go_simp; (try with_reducible rfl))
              (try simp only [Act.put, List.setIfInBounds_toArray, List.set_cons_zero, List.set_cons_succ])
              refine wpAnyH_take (i := 1) (oi := ({ dst := some 58, op := Go.Op.move (Go.Operand.tmp 9), type := 3, pos := "match.go:97", after := #[], guard := none } : Oper)) (v := ?vp1) rfl (by kernel_rfl) (by kernel_rfl) (by kernel_rfl) (fun _ _ _ h => h) (Or.inl ⟨by rfl, ?hyp1⟩) (by assumption) ?restp1
              case hyp1 => (intro w hSw; (try dsimp only at hSw); go_simp; (try with_reducible rfl))
              (try simp only [Act.put, List.setIfInBounds_toArray, List.set_cons_zero, List.set_cons_succ])
              refine wpAnyH_take (i := 2) (oi := ({ dst := some 59, op := Go.Op.move (Go.Operand.tmp 9), type := 3, pos := "match.go:97", after := #[], guard := none } : Oper)) (v := ?vp2) rfl (by kernel_rfl) (by kernel_rfl) (by kernel_rfl) (fun _ _ _ h => h) (Or.inl ⟨by rfl, ?hyp2⟩) (by assumption) ?restp2
              case hyp2 => (intro w hSw; (try dsimp only at hSw); go_simp; (try with_reducible rfl))
              (try simp only [Act.put, List.setIfInBounds_toArray, List.set_cons_zero, List.set_cons_succ])
              refine wpAnyH_take (i := 3) (oi := ({ dst := some 60, op := Go.Op.binOp Go.BinOp.gtr 3 (Go.Operand.tmp 59) (Go.Operand.const (Go.Value.int Go.IntKind.i64 0)) 3, type := 4, pos := "match.go:97", after := #[{ on := 2, ground := Go.Ground.data }], guard := none } : Oper)) (v := ?vp3) rfl (by kernel_rfl) (by kernel_rfl) (by kernel_rfl) (fun _ _ _ h => h) (Or.inl ⟨by rfl, ?hyp3⟩) (by assumption) ?restp3
              case hyp3 => (intro w hSw; (try dsimp only at hSw); go_simp; (try with_reducible rfl))
              (try simp only [Act.put, List.setIfInBounds_toArray, List.set_cons_zero, List.set_cons_succ])
              refine wpAnyH_take (i := 4) (oi := ({ dst := some 61, op := Go.Op.move (Go.Operand.tmp 60), type := 4, pos := "match.go:97", after := #[{ on := 3, ground := Go.Ground.data }], guard := none } : Oper)) (v := ?vp4) rfl (by kernel_rfl) (by kernel_rfl) (by kernel_rfl) (fun _ _ _ h => h) (Or.inl ⟨by rfl, ?hyp4⟩) (by assumption) ?restp4
              case hyp4 => (intro w hSw; (try dsimp only at hSw); go_simp; (try with_reducible rfl))
              (try simp only [Act.put, List.setIfInBounds_toArray, List.set_cons_zero, List.set_cons_succ])
              refine wpAnyH_take (i := 5) (oi := ({ dst := some 62, op := Go.Op.move (Go.Operand.tmp 6), type := 96, pos := "match.go:97", after := #[{ on := 4, ground := Go.Ground.guard }], guard := some (4, true) } : Oper)) (v := undef) rfl (by kernel_rfl) (by kernel_rfl) (by kernel_rfl) (fun _ _ _ h => h) (Or.inr ⟨by rfl, rfl⟩) (by assumption) ?_
              (try simp only [Act.put, List.setIfInBounds_toArray, List.set_cons_zero, List.set_cons_succ])
              refine wpAnyH_take (i := 6) (oi := ({ dst := some 63, op := Go.Op.move (Go.Operand.tmp 9), type := 3, pos := "match.go:97", after := #[{ on := 4, ground := Go.Ground.guard }], guard := some (4, true) } : Oper)) (v := undef) rfl (by kernel_rfl) (by kernel_rfl) (by kernel_rfl) (fun _ _ _ h => h) (Or.inr ⟨by rfl, rfl⟩) (by assumption) ?_
              (try simp only [Act.put, List.setIfInBounds_toArray, List.set_cons_zero, List.set_cons_succ])
              refine wpAnyH_take (i := 7) (oi := ({ dst := some 64, op := Go.Op.binOp Go.BinOp.sub 3 (Go.Operand.tmp 63) (Go.Operand.const (Go.Value.int Go.IntKind.i64 1)) 3, type := 3, pos := "match.go:97", after := #[{ on := 6, ground := Go.Ground.data }, { on := 4, ground := Go.Ground.guard }], guard := some (4, true) } : Oper)) (v := undef) rfl (by kernel_rfl) (by kernel_rfl) (by kernel_rfl) (fun _ _ _ h => h) (Or.inr ⟨by rfl, rfl⟩) (by assumption) ?_
              (try simp only [Act.put, List.setIfInBounds_toArray, List.set_cons_zero, List.set_cons_succ])
              refine wpAnyH_take (i := 8) (oi := ({ dst := some 65, op := Go.Op.indexAddr 96 (Go.Operand.tmp 62) (Go.Operand.tmp 64), type := 0, pos := "match.go:97", after := #[{ on := 5, ground := Go.Ground.data }, { on := 7, ground := Go.Ground.data }, { on := 4, ground := Go.Ground.guard }], guard := some (4, true) } : Oper)) (v := undef) rfl (by kernel_rfl) (by kernel_rfl) (by kernel_rfl) (fun _ _ _ h => h) (Or.inr ⟨by rfl, rfl⟩) (by assumption) ?_
              (try simp only [Act.put, List.setIfInBounds_toArray, List.set_cons_zero, List.set_cons_succ])
              refine wpAnyH_take (i := 9) (oi := ({ dst := some 66, op := Go.Op.load 4 (Go.Operand.tmp 65), type := 4, pos := "match.go:97", after := #[{ on := 8, ground := Go.Ground.data }, { on := 4, ground := Go.Ground.guard }], guard := some (4, true) } : Oper)) (v := undef) rfl (by kernel_rfl) (by kernel_rfl) (by kernel_rfl) (fun _ _ _ h => h) (Or.inr ⟨by rfl, rfl⟩) (by assumption) ?_
              (try simp only [Act.put, List.setIfInBounds_toArray, List.set_cons_zero, List.set_cons_succ])
              refine wpAnyH_take (i := 10) (oi := ({ dst := some 67, op := Go.Op.pick (Go.Operand.tmp 61) (Go.Operand.tmp 66) (Go.Operand.const (Go.Value.bool false)), type := 4, pos := "match.go:97", after := #[{ on := 4, ground := Go.Ground.data }, { on := 9, ground := Go.Ground.data }], guard := none } : Oper)) (v := ?vp10) rfl (by kernel_rfl) (by kernel_rfl) (by kernel_rfl) (fun _ _ _ h => h) (Or.inl ⟨by rfl, ?hyp10⟩) (by assumption) ?restp10
              case hyp10 => (intro w hSw; (try dsimp only at hSw); go_simp; (try with_reducible rfl))
              (try simp only [Act.put, List.setIfInBounds_toArray, List.set_cons_zero, List.set_cons_succ])
              refine wpAnyH_take (i := 11) (oi := ({ dst := some 68, op := Go.Op.move (Go.Operand.tmp 67), type := 4, pos := "match.go:97", after := #[{ on := 10, ground := Go.Ground.data }, { on := 4, ground := Go.Ground.chain }], guard := none } : Oper)) (v := ?vp11) rfl (by kernel_rfl) (by kernel_rfl) (by kernel_rfl) (fun _ _ _ h => h) (Or.inl ⟨by rfl, ?hyp11⟩) (by assumption) ?restp11
              case hyp11 => (intro w hSw; (try dsimp only at hSw); go_simp; (try with_reducible rfl))
              (try simp only [Act.put, List.setIfInBounds_toArray, List.set_cons_zero, List.set_cons_succ])
              refine wpAnyH_take (i := 12) (oi := ({ dst := some 69, op := Go.Op.move (Go.Operand.tmp 5), type := 94, pos := "match.go:97", after := #[{ on := 11, ground := Go.Ground.guard }], guard := some (11, true) } : Oper)) (v := undef) rfl (by kernel_rfl) (by kernel_rfl) (by kernel_rfl) (fun _ _ _ h => h) (Or.inr ⟨by rfl, rfl⟩) (by assumption) ?_
              (try simp only [Act.put, List.setIfInBounds_toArray, List.set_cons_zero, List.set_cons_succ])
              refine wpAnyH_take (i := 13) (oi := ({ dst := some 70, op := Go.Op.move (Go.Operand.tmp 7), type := 3, pos := "match.go:97", after := #[{ on := 11, ground := Go.Ground.guard }], guard := some (11, true) } : Oper)) (v := undef) rfl (by kernel_rfl) (by kernel_rfl) (by kernel_rfl) (fun _ _ _ h => h) (Or.inr ⟨by rfl, rfl⟩) (by assumption) ?_
              (try simp only [Act.put, List.setIfInBounds_toArray, List.set_cons_zero, List.set_cons_succ])
              refine wpAnyH_take (i := 14) (oi := ({ dst := some 71, op := Go.Op.move (Go.Operand.tmp 1), type := 22, pos := "match.go:97", after := #[{ on := 11, ground := Go.Ground.guard }], guard := some (11, true) } : Oper)) (v := undef) rfl (by kernel_rfl) (by kernel_rfl) (by kernel_rfl) (fun _ _ _ h => h) (Or.inr ⟨by rfl, rfl⟩) (by assumption) ?_
              (try simp only [Act.put, List.setIfInBounds_toArray, List.set_cons_zero, List.set_cons_succ])
              refine wpAnyH_take (i := 15) (oi := ({ dst := some 72, op := Go.Op.move (Go.Operand.tmp 9), type := 3, pos := "match.go:97", after := #[{ on := 11, ground := Go.Ground.guard }], guard := some (11, true) } : Oper)) (v := undef) rfl (by kernel_rfl) (by kernel_rfl) (by kernel_rfl) (fun _ _ _ h => h) (Or.inr ⟨by rfl, rfl⟩) (by assumption) ?_
              (try simp only [Act.put, List.setIfInBounds_toArray, List.set_cons_zero, List.set_cons_succ])
              refine wpAnyH_take (i := 16) (oi := ({ dst := some 73, op := Go.Op.binOp Go.BinOp.sub 3 (Go.Operand.tmp 72) (Go.Operand.const (Go.Value.int Go.IntKind.i64 1)) 3, type := 3, pos := "match.go:97", after := #[{ on := 15, ground := Go.Ground.data }, { on := 11, ground := Go.Ground.guard }], guard := some (11, true) } : Oper)) (v := undef) rfl (by kernel_rfl) (by kernel_rfl) (by kernel_rfl) (fun _ _ _ h => h) (Or.inr ⟨by rfl, rfl⟩) (by assumption) ?_
              (try simp only [Act.put, List.setIfInBounds_toArray, List.set_cons_zero, List.set_cons_succ])
              refine wpAnyH_take (i := 17) (oi := ({ dst := some 74, op := Go.Op.indexAddr 22 (Go.Operand.tmp 71) (Go.Operand.tmp 73), type := 0, pos := "match.go:97", after := #[{ on := 14, ground := Go.Ground.data }, { on := 16, ground := Go.Ground.data }, { on := 11, ground := Go.Ground.guard }], guard := some (11, true) } : Oper)) (v := undef) rfl (by kernel_rfl) (by kernel_rfl) (by kernel_rfl) (fun _ _ _ h => h) (Or.inr ⟨by rfl, rfl⟩) (by assumption) ?_
              (try simp only [Act.put, List.setIfInBounds_toArray, List.set_cons_zero, List.set_cons_succ])
              refine wpAnyH_take (i := 18) (oi := ({ dst := some 75, op := Go.Op.load 5 (Go.Operand.tmp 74), type := 5, pos := "match.go:97", after := #[{ on := 17, ground := Go.Ground.data }, { on := 11, ground := Go.Ground.guard }], guard := some (11, true) } : Oper)) (v := undef) rfl (by kernel_rfl) (by kernel_rfl) (by kernel_rfl) (fun _ _ _ h => h) (Or.inr ⟨by rfl, rfl⟩) (by assumption) ?_
              (try simp only [Act.put, List.setIfInBounds_toArray, List.set_cons_zero, List.set_cons_succ])
              refine wpAnyH_take (i := 19) (oi := ({ dst := some 76, op := Go.Op.indexAddr 94 (Go.Operand.tmp 69) (Go.Operand.tmp 70), type := 0, pos := "match.go:97", after := #[{ on := 12, ground := Go.Ground.data }, { on := 13, ground := Go.Ground.data }, { on := 11, ground := Go.Ground.guard }], guard := some (11, true) } : Oper)) (v := undef) rfl (by kernel_rfl) (by kernel_rfl) (by kernel_rfl) (fun _ _ _ h => h) (Or.inr ⟨by rfl, rfl⟩) (by assumption) ?_
              (try simp only [Act.put, List.setIfInBounds_toArray, List.set_cons_zero, List.set_cons_succ])
              refine wpAnyH_take (i := 20) (oi := ({ dst := some 77, op := Go.Op.fieldAddr 99 (Go.Operand.tmp 76) 1, type := 0, pos := "match.go:97", after := #[{ on := 19, ground := Go.Ground.data }, { on := 11, ground := Go.Ground.guard }], guard := some (11, true) } : Oper)) (v := undef) rfl (by kernel_rfl) (by kernel_rfl) (by kernel_rfl) (fun _ _ _ h => h) (Or.inr ⟨by rfl, rfl⟩) (by assumption) ?_
              (try simp only [Act.put, List.setIfInBounds_toArray, List.set_cons_zero, List.set_cons_succ])
              refine wpAnyH_take (i := 21) (oi := ({ dst := some 78, op := Go.Op.indexAddr 97 (Go.Operand.tmp 77) (Go.Operand.tmp 75), type := 0, pos := "match.go:97", after := #[{ on := 20, ground := Go.Ground.data }, { on := 18, ground := Go.Ground.data }, { on := 11, ground := Go.Ground.guard }], guard := some (11, true) } : Oper)) (v := undef) rfl (by kernel_rfl) (by kernel_rfl) (by kernel_rfl) (fun _ _ _ h => h) (Or.inr ⟨by rfl, rfl⟩) (by assumption) ?_
              (try simp only [Act.put, List.setIfInBounds_toArray, List.set_cons_zero, List.set_cons_succ])
              refine wpAnyH_take (i := 22) (oi := ({ dst := some 79, op := Go.Op.load 4 (Go.Operand.tmp 78), type := 4, pos := "match.go:97", after := #[{ on := 21, ground := Go.Ground.data }, { on := 11, ground := Go.Ground.guard }], guard := some (11, true) } : Oper)) (v := undef) rfl (by kernel_rfl) (by kernel_rfl) (by kernel_rfl) (fun _ _ _ h => h) (Or.inr ⟨by rfl, rfl⟩) (by assumption) ?_
              (try simp only [Act.put, List.setIfInBounds_toArray, List.set_cons_zero, List.set_cons_succ])
              refine wpAnyH_take (i := 23) (oi := ({ dst := some 80, op := Go.Op.pick (Go.Operand.tmp 68) (Go.Operand.tmp 79) (Go.Operand.const (Go.Value.bool false)), type := 4, pos := "match.go:97", after := #[{ on := 11, ground := Go.Ground.data }, { on := 22, ground := Go.Ground.data }], guard := none } : Oper)) (v := ?vp23) rfl (by kernel_rfl) (by kernel_rfl) (by kernel_rfl) (fun _ _ _ h => h) (Or.inl ⟨by rfl, ?hyp23⟩) (by assumption) ?restp23
              case hyp23 => (intro w hSw; (try dsimp only at hSw); go_simp; (try with_reducible rfl))
              (try simp only [Act.put, List.setIfInBounds_toArray, List.set_cons_zero, List.set_cons_succ])
              refine wpAnyH_take (i := 24) (oi := ({ dst := some 81, op := Go.Op.indexAddr 96 (Go.Operand.tmp 57) (Go.Operand.tmp 58), type := 0, pos := "match.go:97", after := #[{ on := 0, ground := Go.Ground.data }, { on := 1, ground := Go.Ground.data }, { on := 0, ground := Go.Ground.phase }, { on := 1, ground := Go.Ground.phase }, { on := 2, ground := Go.Ground.phase }, { on := 3, ground := Go.Ground.phase }, { on := 4, ground := Go.Ground.phase }, { on := 5, ground := Go.Ground.phase }, { on := 6, ground := Go.Ground.phase }, { on := 7, ground := Go.Ground.phase }, { on := 8, ground := Go.Ground.phase }, { on := 9, ground := Go.Ground.phase }, { on := 10, ground := Go.Ground.phase }, { on := 11, ground := Go.Ground.phase }, { on := 12, ground := Go.Ground.phase }, { on := 13, ground := Go.Ground.phase }, { on := 14, ground := Go.Ground.phase }, { on := 15, ground := Go.Ground.phase }, { on := 16, ground := Go.Ground.phase }, { on := 17, ground := Go.Ground.phase }, { on := 18, ground := Go.Ground.phase }, { on := 19, ground := Go.Ground.phase }, { on := 20, ground := Go.Ground.phase }, { on := 21, ground := Go.Ground.phase }, { on := 22, ground := Go.Ground.phase }, { on := 23, ground := Go.Ground.phase }], guard := none } : Oper)) (v := ?vp24) rfl (by kernel_rfl) (by kernel_rfl) (by kernel_rfl) (fun _ _ _ h => h) (Or.inl ⟨by rfl, ?hyp24⟩) (by assumption) ?restp24
              case hyp24 => (intro w hSw; (try dsimp only at hSw); go_simp; (try with_reducible rfl))
              (try simp only [Act.put, List.setIfInBounds_toArray, List.set_cons_zero, List.set_cons_succ])
              refine wpAnyH_ready (rs := [25]) (by kernel_rfl) (by simp) ?_
              refine AllReadyH.cons (o := ({ dst := none, op := Go.Op.store 4 (Go.Operand.tmp 81) (Go.Operand.tmp 80), type := 0, pos := "match.go:97", after := #[{ on := 24, ground := Go.Ground.data }, { on := 23, ground := Go.Ground.data }, { on := 11, ground := Go.Ground.chain }, { on := 0, ground := Go.Ground.phase }, { on := 1, ground := Go.Ground.phase }, { on := 2, ground := Go.Ground.phase }, { on := 3, ground := Go.Ground.phase }, { on := 4, ground := Go.Ground.phase }, { on := 5, ground := Go.Ground.phase }, { on := 6, ground := Go.Ground.phase }, { on := 7, ground := Go.Ground.phase }, { on := 8, ground := Go.Ground.phase }, { on := 9, ground := Go.Ground.phase }, { on := 10, ground := Go.Ground.phase }, { on := 11, ground := Go.Ground.phase }, { on := 12, ground := Go.Ground.phase }, { on := 13, ground := Go.Ground.phase }, { on := 14, ground := Go.Ground.phase }, { on := 15, ground := Go.Ground.phase }, { on := 16, ground := Go.Ground.phase }, { on := 17, ground := Go.Ground.phase }, { on := 18, ground := Go.Ground.phase }, { on := 19, ground := Go.Ground.phase }, { on := 20, ground := Go.Ground.phase }, { on := 21, ground := Go.Ground.phase }, { on := 22, ground := Go.Ground.phase }, { on := 23, ground := Go.Ground.phase }], guard := none } : Oper)) rfl (fun K hK => ?_) AllReadyH.nil
              go_simp
              skip
              (try go_wp2_with fail)
              refine hK.out _ _ (by trivial) (fun hHeld => ?_)
              clear hK K
              (try simp only [Act.put, List.setIfInBounds_toArray, List.set_cons_zero, List.set_cons_succ])
              refine wpAnyH_done (by kernel_rfl) ?_ _
              (try go_wp2_with fail)
              go_roundw
              case rel => exact ⟨1, by first | rfl | go_num | trivial, by omega, ⟨HSETD.out false HCS.out.symm⟩⟩
              case measure => simp [intOf]; omega
            | succ k =>
              have hkt : k < t.length := by omega
              obtain ⟨x, hx⟩ : ∃ x, x = t[k] := ⟨_, rfl⟩
              have hxr := HTI.out x (by rw [hx]; exact List.getElem_mem hkt)
              obtain ⟨y, rfl⟩ : ∃ y : Nat, x = y := ⟨x.toNat, by omega⟩
              have hy2 : y < 256 := by omega
              have HCS := Aside0.mk (can_set (L.take i) pc HS.out t k hkt)
              rw [← HTK.out, ← hx, Int.toNat_natCast] at HCS
              obtain ⟨b1, hb1⟩ : ∃ b1, b1 = canD (L.take i) t k := ⟨_, rfl⟩
              obtain ⟨fx, hfx⟩ : ∃ fx, fx = has pc.set y := ⟨_, rfl⟩
              have hgk : wq.cell? ⟨g, k, none⟩ = some (.bool b1) := by rw [hb1]; exact HJ.out.2.1.get k _ (tab_get _ _ k (by omega))
              have hfy : wq.cell? ⟨(ad.add (i * 257)).block, (ad.add (i * 257)).off + 1 + y, none⟩ = some (.bool fx) := by rw [hfx]; exact HFIT.out y hy2
              obtain ⟨ad2, rfl, hty⟩ := Kd.at_int (Kd.C_below HT2.out HJ.out.2.2) (k : Int) (by omega) (by omega)
              have hrd : rd t (k : Int) = (y : Int) := by
                unfold rd
                rw [Int.toNat_natCast, List.getD_eq_getElem?_getD, List.getElem?_eq_getElem hkt, ← hx]
                rfl
              rw [hrd, Int.toNat_natCast] at hty
              rw [← hb1, ← hfx] at HCS
              have HTB : Aside0 ((ad2.add k).block ≠ gn) := ⟨by
                obtain ⟨ad3, h3, hc3⟩ := Kd.at_int HT2.out (k : Int) (by omega) (by omega)
                obtain rfl := Option.some.inj h3
                rw [Int.toNat_natCast] at hc3
                have h4 := LexW.cell_lt2 hc3
                have h5 := HGN.out
                omega⟩
              have HPB : Aside0 ((ad.add (i * 257)).block ≠ gn) := ⟨by
                obtain ⟨ad3, h3, hc3, _⟩ := piece_cells HCL.out i pc HPC.out
                obtain rfl := Option.some.inj h3
                have h4 := LexW.cell_lt2 hc3
                have h5 := HGN.out
                omega⟩
              have hkn : k < n := by omega
              have f1 : decide ((k : Int) < n) = true := decide_eq_true (by omega)
              have f1' : decide (k < n) = true := decide_eq_true hkn
              have f2 : decide ((k : Int) < t.length) = true := decide_eq_true (by omega)
              have f2' : decide (k < t.length) = true := decide_eq_true hkt
              have e2 : decide ((0 : Int) < ((k + 1 : Nat) : Int)) = true := decide_eq_true (by omega)
              have e2' : decide ((0 : Int) < (k : Int) + 1) = true := decide_eq_true (by omega)
              have f3 : decide ((y : Int) < 256) = true := decide_eq_true (by omega)
              have f3' : decide (y < 256) = true := decide_eq_true hy2
              have f4 : decide ((i : Int) < L.length) = true := decide_eq_true (by omega)
              have f4' : decide (i < L.length) = true := decide_eq_true (by omega)
              clear hx hb1 hfx
              have HST : ∀ (v : Value), (wq.drew.setCell ⟨gn, k + 1, none⟩ v).cell? ⟨g, k, none⟩ = some (.bool b1) ∧ (wq.drew.setCell ⟨gn, k + 1, none⟩ v).cell? (ad2.add k) = some (.int .u8 (y : Nat)) ∧ (wq.drew.setCell ⟨gn, k + 1, none⟩ v).cell? ⟨(ad.add (i * 257)).block, (ad.add (i * 257)).off + 1 + y, none⟩ = some (.bool fx) := fun v =>
                ⟨(World.cell?_setCell_other _ _ _ _ (fun h => HNE.out (congrArg Addr.block h).symm)).trans hgk, (World.cell?_setCell_other _ _ _ _ (fun h => HTB.out (congrArg Addr.block h).symm)).trans hty, (World.cell?_setCell_other _ _ _ _ (fun h => HPB.out (congrArg Addr.block h).symm)).trans hfy⟩
              have HSTA := Aside0.mk HST
              have hS0 : wq.drew.cell? ⟨g, k, none⟩ = some (.bool b1) ∧ wq.drew.cell? (ad2.add k) = some (.int .u8 (y : Nat)) ∧ wq.drew.cell? ⟨(ad.add (i * 257)).block, (ad.add (i * 257)).off + 1 + y, none⟩ = some (.bool fx) := ⟨hgk, hty, hfy⟩
              clear HST hgk hty hfy hgj
              go_upto_region 13 with fail
              cases b1
              · skip
                refine wp_region_held_drew (S := (fun W => W.cell? ⟨g, k, none⟩ = some (.bool false) ∧ W.cell? (ad2.add k) = some (.int .u8 (y : Nat)) ∧ W.cell? ⟨(ad.add (i * 257)).block, (ad.add (i * 257)).off + 1 + y, none⟩ = some (.bool fx))) (by kernel_rfl) (by exact hS0) (fun hHeld => ?_)
                refine wpAnyH_take (i := 0) (oi := ({ dst := some 57, op := Go.Op.move (Go.Operand.tmp 8), type := 96, pos := "match.go:97", after := #[], guard := none } : Oper)) (v := ?vq0) rfl (by kernel_rfl) (by kernel_rfl) (by kernel_rfl) (fun _ _ _ h => h) (Or.inl ⟨by rfl, ?hyq0⟩) (by assumption) ?restq0
                case hyq0 => (intro w hSw; (try dsimp only at hSw); go_simp; (try with_reducible rfl))
                (try simp only [Act.put, List.setIfInBounds_toArray, List.set_cons_zero, List.set_cons_succ])
                refine wpAnyH_take (i := 1) (oi := ({ dst := some 58, op := Go.Op.move (Go.Operand.tmp 9), type := 3, pos := "match.go:97", after := #[], guard := none } : Oper)) (v := ?vq1) rfl (by kernel_rfl) (by kernel_rfl) (by kernel_rfl) (fun _ _ _ h => h) (Or.inl ⟨by rfl, ?hyq1⟩) (by assumption) ?restq1
                case hyq1 => (intro w hSw; (try dsimp only at hSw); go_simp; (try with_reducible rfl))
                (try simp only [Act.put, List.setIfInBounds_toArray, List.set_cons_zero, List.set_cons_succ])
                refine wpAnyH_take (i := 2) (oi := ({ dst := some 59, op := Go.Op.move (Go.Operand.tmp 9), type := 3, pos := "match.go:97", after := #[], guard := none } : Oper)) (v := ?vq2) rfl (by kernel_rfl) (by kernel_rfl) (by kernel_rfl) (fun _ _ _ h => h) (Or.inl ⟨by rfl, ?hyq2⟩) (by assumption) ?restq2
                case hyq2 => (intro w hSw; (try dsimp only at hSw); go_simp; (try with_reducible rfl))
                (try simp only [Act.put, List.setIfInBounds_toArray, List.set_cons_zero, List.set_cons_succ])
                refine wpAnyH_take (i := 3) (oi := ({ dst := some 60, op := Go.Op.binOp Go.BinOp.gtr 3 (Go.Operand.tmp 59) (Go.Operand.const (Go.Value.int Go.IntKind.i64 0)) 3, type := 4, pos := "match.go:97", after := #[{ on := 2, ground := Go.Ground.data }], guard := none } : Oper)) (v := ?vq3) rfl (by kernel_rfl) (by kernel_rfl) (by kernel_rfl) (fun _ _ _ h => h) (Or.inl ⟨by rfl, ?hyq3⟩) (by assumption) ?restq3
                case hyq3 => (intro w hSw; (try dsimp only at hSw); go_simp; (try with_reducible rfl))
                (try simp only [Act.put, List.setIfInBounds_toArray, List.set_cons_zero, List.set_cons_succ])
                refine wpAnyH_take (i := 4) (oi := ({ dst := some 61, op := Go.Op.move (Go.Operand.tmp 60), type := 4, pos := "match.go:97", after := #[{ on := 3, ground := Go.Ground.data }], guard := none } : Oper)) (v := ?vq4) rfl (by kernel_rfl) (by kernel_rfl) (by kernel_rfl) (fun _ _ _ h => h) (Or.inl ⟨by rfl, ?hyq4⟩) (by assumption) ?restq4
                case hyq4 => (intro w hSw; (try dsimp only at hSw); go_simp; (try with_reducible rfl))
                (try simp only [Act.put, List.setIfInBounds_toArray, List.set_cons_zero, List.set_cons_succ])
                refine wpAnyH_take (i := 5) (oi := ({ dst := some 62, op := Go.Op.move (Go.Operand.tmp 6), type := 96, pos := "match.go:97", after := #[{ on := 4, ground := Go.Ground.guard }], guard := some (4, true) } : Oper)) (v := ?vq5) rfl (by kernel_rfl) (by kernel_rfl) (by kernel_rfl) (fun _ _ _ h => h) (Or.inl ⟨by rfl, ?hyq5⟩) (by assumption) ?restq5
                case hyq5 => (intro w hSw; (try dsimp only at hSw); go_simp; (try with_reducible rfl))
                (try simp only [Act.put, List.setIfInBounds_toArray, List.set_cons_zero, List.set_cons_succ])
                refine wpAnyH_take (i := 6) (oi := ({ dst := some 63, op := Go.Op.move (Go.Operand.tmp 9), type := 3, pos := "match.go:97", after := #[{ on := 4, ground := Go.Ground.guard }], guard := some (4, true) } : Oper)) (v := ?vq6) rfl (by kernel_rfl) (by kernel_rfl) (by kernel_rfl) (fun _ _ _ h => h) (Or.inl ⟨by rfl, ?hyq6⟩) (by assumption) ?restq6
                case hyq6 => (intro w hSw; (try dsimp only at hSw); go_simp; (try with_reducible rfl))
                (try simp only [Act.put, List.setIfInBounds_toArray, List.set_cons_zero, List.set_cons_succ])
                refine wpAnyH_take (i := 7) (oi := ({ dst := some 64, op := Go.Op.binOp Go.BinOp.sub 3 (Go.Operand.tmp 63) (Go.Operand.const (Go.Value.int Go.IntKind.i64 1)) 3, type := 3, pos := "match.go:97", after := #[{ on := 6, ground := Go.Ground.data }, { on := 4, ground := Go.Ground.guard }], guard := some (4, true) } : Oper)) (v := Value.int .i64 (k : Nat)) rfl (by kernel_rfl) (by kernel_rfl) (by kernel_rfl) (fun _ _ _ h => h) (Or.inl ⟨by rfl, ?hyq7⟩) (by assumption) ?restq7
                case hyq7 => (intro w hSw; (try dsimp only at hSw); go_simp; (try (rw [IntKind.wrap_i64]; omega)); (try with_reducible rfl))
                (try simp only [Act.put, List.setIfInBounds_toArray, List.set_cons_zero, List.set_cons_succ])
                refine wpAnyH_take (i := 8) (oi := ({ dst := some 65, op := Go.Op.indexAddr 96 (Go.Operand.tmp 62) (Go.Operand.tmp 64), type := 0, pos := "match.go:97", after := #[{ on := 5, ground := Go.Ground.data }, { on := 7, ground := Go.Ground.data }, { on := 4, ground := Go.Ground.guard }], guard := some (4, true) } : Oper)) (v := ?vq8) rfl (by kernel_rfl) (by kernel_rfl) (by kernel_rfl) (fun _ _ _ h => h) (Or.inl ⟨by rfl, ?hyq8⟩) (by assumption) ?restq8
                case hyq8 => (intro w hSw; (try dsimp only at hSw); go_simp; (try with_reducible rfl))
                (try simp only [Act.put, List.setIfInBounds_toArray, List.set_cons_zero, List.set_cons_succ])
                refine wpAnyH_take (i := 9) (oi := ({ dst := some 66, op := Go.Op.load 4 (Go.Operand.tmp 65), type := 4, pos := "match.go:97", after := #[{ on := 8, ground := Go.Ground.data }, { on := 4, ground := Go.Ground.guard }], guard := some (4, true) } : Oper)) (v := ?vq9) rfl (by kernel_rfl) (by kernel_rfl) (by kernel_rfl) (fun _ _ _ h => h) (Or.inl ⟨by rfl, ?hyq9⟩) (by assumption) ?restq9
                case hyq9 => (intro w hSw; (try dsimp only at hSw); go_simp; (try with_reducible rfl))
                (try simp only [Act.put, List.setIfInBounds_toArray, List.set_cons_zero, List.set_cons_succ])
                refine wpAnyH_take (i := 10) (oi := ({ dst := some 67, op := Go.Op.pick (Go.Operand.tmp 61) (Go.Operand.tmp 66) (Go.Operand.const (Go.Value.bool false)), type := 4, pos := "match.go:97", after := #[{ on := 4, ground := Go.Ground.data }, { on := 9, ground := Go.Ground.data }], guard := none } : Oper)) (v := ?vq10) rfl (by kernel_rfl) (by kernel_rfl) (by kernel_rfl) (fun _ _ _ h => h) (Or.inl ⟨by rfl, ?hyq10⟩) (by assumption) ?restq10
                case hyq10 => (intro w hSw; (try dsimp only at hSw); go_simp; (try with_reducible rfl))
                (try simp only [Act.put, List.setIfInBounds_toArray, List.set_cons_zero, List.set_cons_succ])
                refine wpAnyH_take (i := 11) (oi := ({ dst := some 68, op := Go.Op.move (Go.Operand.tmp 67), type := 4, pos := "match.go:97", after := #[{ on := 10, ground := Go.Ground.data }, { on := 4, ground := Go.Ground.chain }], guard := none } : Oper)) (v := ?vq11) rfl (by kernel_rfl) (by kernel_rfl) (by kernel_rfl) (fun _ _ _ h => h) (Or.inl ⟨by rfl, ?hyq11⟩) (by assumption) ?restq11
                case hyq11 => (intro w hSw; (try dsimp only at hSw); go_simp; (try with_reducible rfl))
                (try simp only [Act.put, List.setIfInBounds_toArray, List.set_cons_zero, List.set_cons_succ])
                refine wpAnyH_take (i := 12) (oi := ({ dst := some 69, op := Go.Op.move (Go.Operand.tmp 5), type := 94, pos := "match.go:97", after := #[{ on := 11, ground := Go.Ground.guard }], guard := some (11, true) } : Oper)) (v := undef) rfl (by kernel_rfl) (by kernel_rfl) (by kernel_rfl) (fun _ _ _ h => h) (Or.inr ⟨by rfl, rfl⟩) (by assumption) ?_
                (try simp only [Act.put, List.setIfInBounds_toArray, List.set_cons_zero, List.set_cons_succ])
                refine wpAnyH_take (i := 13) (oi := ({ dst := some 70, op := Go.Op.move (Go.Operand.tmp 7), type := 3, pos := "match.go:97", after := #[{ on := 11, ground := Go.Ground.guard }], guard := some (11, true) } : Oper)) (v := undef) rfl (by kernel_rfl) (by kernel_rfl) (by kernel_rfl) (fun _ _ _ h => h) (Or.inr ⟨by rfl, rfl⟩) (by assumption) ?_
                (try simp only [Act.put, List.setIfInBounds_toArray, List.set_cons_zero, List.set_cons_succ])
                refine wpAnyH_take (i := 14) (oi := ({ dst := some 71, op := Go.Op.move (Go.Operand.tmp 1), type := 22, pos := "match.go:97", after := #[{ on := 11, ground := Go.Ground.guard }], guard := some (11, true) } : Oper)) (v := undef) rfl (by kernel_rfl) (by kernel_rfl) (by kernel_rfl) (fun _ _ _ h => h) (Or.inr ⟨by rfl, rfl⟩) (by assumption) ?_
                (try simp only [Act.put, List.setIfInBounds_toArray, List.set_cons_zero, List.set_cons_succ])
                refine wpAnyH_take (i := 15) (oi := ({ dst := some 72, op := Go.Op.move (Go.Operand.tmp 9), type := 3, pos := "match.go:97", after := #[{ on := 11, ground := Go.Ground.guard }], guard := some (11, true) } : Oper)) (v := undef) rfl (by kernel_rfl) (by kernel_rfl) (by kernel_rfl) (fun _ _ _ h => h) (Or.inr ⟨by rfl, rfl⟩) (by assumption) ?_
                (try simp only [Act.put, List.setIfInBounds_toArray, List.set_cons_zero, List.set_cons_succ])
                refine wpAnyH_take (i := 16) (oi := ({ dst := some 73, op := Go.Op.binOp Go.BinOp.sub 3 (Go.Operand.tmp 72) (Go.Operand.const (Go.Value.int Go.IntKind.i64 1)) 3, type := 3, pos := "match.go:97", after := #[{ on := 15, ground := Go.Ground.data }, { on := 11, ground := Go.Ground.guard }], guard := some (11, true) } : Oper)) (v := undef) rfl (by kernel_rfl) (by kernel_rfl) (by kernel_rfl) (fun _ _ _ h => h) (Or.inr ⟨by rfl, rfl⟩) (by assumption) ?_
                (try simp only [Act.put, List.setIfInBounds_toArray, List.set_cons_zero, List.set_cons_succ])
                refine wpAnyH_take (i := 17) (oi := ({ dst := some 74, op := Go.Op.indexAddr 22 (Go.Operand.tmp 71) (Go.Operand.tmp 73), type := 0, pos := "match.go:97", after := #[{ on := 14, ground := Go.Ground.data }, { on := 16, ground := Go.Ground.data }, { on := 11, ground := Go.Ground.guard }], guard := some (11, true) } : Oper)) (v := undef) rfl (by kernel_rfl) (by kernel_rfl) (by kernel_rfl) (fun _ _ _ h => h) (Or.inr ⟨by rfl, rfl⟩) (by assumption) ?_
                (try simp only [Act.put, List.setIfInBounds_toArray, List.set_cons_zero, List.set_cons_succ])
                refine wpAnyH_take (i := 18) (oi := ({ dst := some 75, op := Go.Op.load 5 (Go.Operand.tmp 74), type := 5, pos := "match.go:97", after := #[{ on := 17, ground := Go.Ground.data }, { on := 11, ground := Go.Ground.guard }], guard := some (11, true) } : Oper)) (v := undef) rfl (by kernel_rfl) (by kernel_rfl) (by kernel_rfl) (fun _ _ _ h => h) (Or.inr ⟨by rfl, rfl⟩) (by assumption) ?_
                (try simp only [Act.put, List.setIfInBounds_toArray, List.set_cons_zero, List.set_cons_succ])
                refine wpAnyH_take (i := 19) (oi := ({ dst := some 76, op := Go.Op.indexAddr 94 (Go.Operand.tmp 69) (Go.Operand.tmp 70), type := 0, pos := "match.go:97", after := #[{ on := 12, ground := Go.Ground.data }, { on := 13, ground := Go.Ground.data }, { on := 11, ground := Go.Ground.guard }], guard := some (11, true) } : Oper)) (v := undef) rfl (by kernel_rfl) (by kernel_rfl) (by kernel_rfl) (fun _ _ _ h => h) (Or.inr ⟨by rfl, rfl⟩) (by assumption) ?_
                (try simp only [Act.put, List.setIfInBounds_toArray, List.set_cons_zero, List.set_cons_succ])
                refine wpAnyH_take (i := 20) (oi := ({ dst := some 77, op := Go.Op.fieldAddr 99 (Go.Operand.tmp 76) 1, type := 0, pos := "match.go:97", after := #[{ on := 19, ground := Go.Ground.data }, { on := 11, ground := Go.Ground.guard }], guard := some (11, true) } : Oper)) (v := undef) rfl (by kernel_rfl) (by kernel_rfl) (by kernel_rfl) (fun _ _ _ h => h) (Or.inr ⟨by rfl, rfl⟩) (by assumption) ?_
                (try simp only [Act.put, List.setIfInBounds_toArray, List.set_cons_zero, List.set_cons_succ])
                refine wpAnyH_take (i := 21) (oi := ({ dst := some 78, op := Go.Op.indexAddr 97 (Go.Operand.tmp 77) (Go.Operand.tmp 75), type := 0, pos := "match.go:97", after := #[{ on := 20, ground := Go.Ground.data }, { on := 18, ground := Go.Ground.data }, { on := 11, ground := Go.Ground.guard }], guard := some (11, true) } : Oper)) (v := undef) rfl (by kernel_rfl) (by kernel_rfl) (by kernel_rfl) (fun _ _ _ h => h) (Or.inr ⟨by rfl, rfl⟩) (by assumption) ?_
                (try simp only [Act.put, List.setIfInBounds_toArray, List.set_cons_zero, List.set_cons_succ])
                refine wpAnyH_take (i := 22) (oi := ({ dst := some 79, op := Go.Op.load 4 (Go.Operand.tmp 78), type := 4, pos := "match.go:97", after := #[{ on := 21, ground := Go.Ground.data }, { on := 11, ground := Go.Ground.guard }], guard := some (11, true) } : Oper)) (v := undef) rfl (by kernel_rfl) (by kernel_rfl) (by kernel_rfl) (fun _ _ _ h => h) (Or.inr ⟨by rfl, rfl⟩) (by assumption) ?_
                (try simp only [Act.put, List.setIfInBounds_toArray, List.set_cons_zero, List.set_cons_succ])
                refine wpAnyH_take (i := 23) (oi := ({ dst := some 80, op := Go.Op.pick (Go.Operand.tmp 68) (Go.Operand.tmp 79) (Go.Operand.const (Go.Value.bool false)), type := 4, pos := "match.go:97", after := #[{ on := 11, ground := Go.Ground.data }, { on := 22, ground := Go.Ground.data }], guard := none } : Oper)) (v := ?vq23) rfl (by kernel_rfl) (by kernel_rfl) (by kernel_rfl) (fun _ _ _ h => h) (Or.inl ⟨by rfl, ?hyq23⟩) (by assumption) ?restq23
                case hyq23 => (intro w hSw; (try dsimp only at hSw); go_simp; (try with_reducible rfl))
                (try simp only [Act.put, List.setIfInBounds_toArray, List.set_cons_zero, List.set_cons_succ])
                refine wpAnyH_take (i := 24) (oi := ({ dst := some 81, op := Go.Op.indexAddr 96 (Go.Operand.tmp 57) (Go.Operand.tmp 58), type := 0, pos := "match.go:97", after := #[{ on := 0, ground := Go.Ground.data }, { on := 1, ground := Go.Ground.data }, { on := 0, ground := Go.Ground.phase }, { on := 1, ground := Go.Ground.phase }, { on := 2, ground := Go.Ground.phase }, { on := 3, ground := Go.Ground.phase }, { on := 4, ground := Go.Ground.phase }, { on := 5, ground := Go.Ground.phase }, { on := 6, ground := Go.Ground.phase }, { on := 7, ground := Go.Ground.phase }, { on := 8, ground := Go.Ground.phase }, { on := 9, ground := Go.Ground.phase }, { on := 10, ground := Go.Ground.phase }, { on := 11, ground := Go.Ground.phase }, { on := 12, ground := Go.Ground.phase }, { on := 13, ground := Go.Ground.phase }, { on := 14, ground := Go.Ground.phase }, { on := 15, ground := Go.Ground.phase }, { on := 16, ground := Go.Ground.phase }, { on := 17, ground := Go.Ground.phase }, { on := 18, ground := Go.Ground.phase }, { on := 19, ground := Go.Ground.phase }, { on := 20, ground := Go.Ground.phase }, { on := 21, ground := Go.Ground.phase }, { on := 22, ground := Go.Ground.phase }, { on := 23, ground := Go.Ground.phase }], guard := none } : Oper)) (v := Value.pointer (some ⟨gn, k + 1, none⟩)) rfl (by kernel_rfl) (by kernel_rfl) (by kernel_rfl) (fun _ _ _ h => h) (Or.inl ⟨by rfl, ?hyq24⟩) (by assumption) ?restq24
                case hyq24 => (intro w hSw; (try dsimp only at hSw); go_simp; (try rw [if_pos ⟨by omega, by omega⟩]); (try (intro hh; exact absurd (hh (by omega)) (by omega))); (try with_reducible rfl))
                (try simp only [Act.put, List.setIfInBounds_toArray, List.set_cons_zero, List.set_cons_succ])
                refine wpAnyH_ready (rs := [25]) (by kernel_rfl) (by simp) ?_
                refine AllReadyH.cons (o := ({ dst := none, op := Go.Op.store 4 (Go.Operand.tmp 81) (Go.Operand.tmp 80), type := 0, pos := "match.go:97", after := #[{ on := 24, ground := Go.Ground.data }, { on := 23, ground := Go.Ground.data }, { on := 11, ground := Go.Ground.chain }, { on := 0, ground := Go.Ground.phase }, { on := 1, ground := Go.Ground.phase }, { on := 2, ground := Go.Ground.phase }, { on := 3, ground := Go.Ground.phase }, { on := 4, ground := Go.Ground.phase }, { on := 5, ground := Go.Ground.phase }, { on := 6, ground := Go.Ground.phase }, { on := 7, ground := Go.Ground.phase }, { on := 8, ground := Go.Ground.phase }, { on := 9, ground := Go.Ground.phase }, { on := 10, ground := Go.Ground.phase }, { on := 11, ground := Go.Ground.phase }, { on := 12, ground := Go.Ground.phase }, { on := 13, ground := Go.Ground.phase }, { on := 14, ground := Go.Ground.phase }, { on := 15, ground := Go.Ground.phase }, { on := 16, ground := Go.Ground.phase }, { on := 17, ground := Go.Ground.phase }, { on := 18, ground := Go.Ground.phase }, { on := 19, ground := Go.Ground.phase }, { on := 20, ground := Go.Ground.phase }, { on := 21, ground := Go.Ground.phase }, { on := 22, ground := Go.Ground.phase }, { on := 23, ground := Go.Ground.phase }], guard := none } : Oper)) rfl (fun K hK => ?_) AllReadyH.nil
                go_simp
                skip
                (try go_wp2_with fail)
                refine hK.out _ _ (by exact HSTA.out _) (fun hHeld => ?_)
                clear hK K
                (try simp only [Act.put, List.setIfInBounds_toArray, List.set_cons_zero, List.set_cons_succ])
                refine wpAnyH_done (by kernel_rfl) ?_ _
                (try go_wp2_with fail)
                go_roundw
                case rel => exact ⟨k + 1 + 1, by first | rfl | go_num | trivial, by omega, ⟨HSETD.out false (by rw [HCS.out]; rfl)⟩⟩
                case measure => simp [intOf]; omega
              · skip
                refine wp_region_held_drew (S := (fun W => W.cell? ⟨g, k, none⟩ = some (.bool true) ∧ W.cell? (ad2.add k) = some (.int .u8 (y : Nat)) ∧ W.cell? ⟨(ad.add (i * 257)).block, (ad.add (i * 257)).off + 1 + y, none⟩ = some (.bool fx))) (by kernel_rfl) (by exact hS0) (fun hHeld => ?_)
                refine wpAnyH_take (i := 0) (oi := ({ dst := some 57, op := Go.Op.move (Go.Operand.tmp 8), type := 96, pos := "match.go:97", after := #[], guard := none } : Oper)) (v := ?vr0) rfl (by kernel_rfl) (by kernel_rfl) (by kernel_rfl) (fun _ _ _ h => h) (Or.inl ⟨by rfl, ?hyr0⟩) (by assumption) ?restr0
                case hyr0 => (intro w hSw; (try dsimp only at hSw); go_simp; (try with_reducible rfl))
                (try simp only [Act.put, List.setIfInBounds_toArray, List.set_cons_zero, List.set_cons_succ])
                refine wpAnyH_take (i := 1) (oi := ({ dst := some 58, op := Go.Op.move (Go.Operand.tmp 9), type := 3, pos := "match.go:97", after := #[], guard := none } : Oper)) (v := ?vr1) rfl (by kernel_rfl) (by kernel_rfl) (by kernel_rfl) (fun _ _ _ h => h) (Or.inl ⟨by rfl, ?hyr1⟩) (by assumption) ?restr1
                case hyr1 => (intro w hSw; (try dsimp only at hSw); go_simp; (try with_reducible rfl))
                (try simp only [Act.put, List.setIfInBounds_toArray, List.set_cons_zero, List.set_cons_succ])
                refine wpAnyH_take (i := 2) (oi := ({ dst := some 59, op := Go.Op.move (Go.Operand.tmp 9), type := 3, pos := "match.go:97", after := #[], guard := none } : Oper)) (v := ?vr2) rfl (by kernel_rfl) (by kernel_rfl) (by kernel_rfl) (fun _ _ _ h => h) (Or.inl ⟨by rfl, ?hyr2⟩) (by assumption) ?restr2
                case hyr2 => (intro w hSw; (try dsimp only at hSw); go_simp; (try with_reducible rfl))
                (try simp only [Act.put, List.setIfInBounds_toArray, List.set_cons_zero, List.set_cons_succ])
                refine wpAnyH_take (i := 3) (oi := ({ dst := some 60, op := Go.Op.binOp Go.BinOp.gtr 3 (Go.Operand.tmp 59) (Go.Operand.const (Go.Value.int Go.IntKind.i64 0)) 3, type := 4, pos := "match.go:97", after := #[{ on := 2, ground := Go.Ground.data }], guard := none } : Oper)) (v := ?vr3) rfl (by kernel_rfl) (by kernel_rfl) (by kernel_rfl) (fun _ _ _ h => h) (Or.inl ⟨by rfl, ?hyr3⟩) (by assumption) ?restr3
                case hyr3 => (intro w hSw; (try dsimp only at hSw); go_simp; (try with_reducible rfl))
                (try simp only [Act.put, List.setIfInBounds_toArray, List.set_cons_zero, List.set_cons_succ])
                refine wpAnyH_take (i := 4) (oi := ({ dst := some 61, op := Go.Op.move (Go.Operand.tmp 60), type := 4, pos := "match.go:97", after := #[{ on := 3, ground := Go.Ground.data }], guard := none } : Oper)) (v := ?vr4) rfl (by kernel_rfl) (by kernel_rfl) (by kernel_rfl) (fun _ _ _ h => h) (Or.inl ⟨by rfl, ?hyr4⟩) (by assumption) ?restr4
                case hyr4 => (intro w hSw; (try dsimp only at hSw); go_simp; (try with_reducible rfl))
                (try simp only [Act.put, List.setIfInBounds_toArray, List.set_cons_zero, List.set_cons_succ])
                refine wpAnyH_take (i := 5) (oi := ({ dst := some 62, op := Go.Op.move (Go.Operand.tmp 6), type := 96, pos := "match.go:97", after := #[{ on := 4, ground := Go.Ground.guard }], guard := some (4, true) } : Oper)) (v := ?vr5) rfl (by kernel_rfl) (by kernel_rfl) (by kernel_rfl) (fun _ _ _ h => h) (Or.inl ⟨by rfl, ?hyr5⟩) (by assumption) ?restr5
                case hyr5 => (intro w hSw; (try dsimp only at hSw); go_simp; (try with_reducible rfl))
                (try simp only [Act.put, List.setIfInBounds_toArray, List.set_cons_zero, List.set_cons_succ])
                refine wpAnyH_take (i := 6) (oi := ({ dst := some 63, op := Go.Op.move (Go.Operand.tmp 9), type := 3, pos := "match.go:97", after := #[{ on := 4, ground := Go.Ground.guard }], guard := some (4, true) } : Oper)) (v := ?vr6) rfl (by kernel_rfl) (by kernel_rfl) (by kernel_rfl) (fun _ _ _ h => h) (Or.inl ⟨by rfl, ?hyr6⟩) (by assumption) ?restr6
                case hyr6 => (intro w hSw; (try dsimp only at hSw); go_simp; (try with_reducible rfl))
                (try simp only [Act.put, List.setIfInBounds_toArray, List.set_cons_zero, List.set_cons_succ])
                refine wpAnyH_take (i := 7) (oi := ({ dst := some 64, op := Go.Op.binOp Go.BinOp.sub 3 (Go.Operand.tmp 63) (Go.Operand.const (Go.Value.int Go.IntKind.i64 1)) 3, type := 3, pos := "match.go:97", after := #[{ on := 6, ground := Go.Ground.data }, { on := 4, ground := Go.Ground.guard }], guard := some (4, true) } : Oper)) (v := Value.int .i64 (k : Nat)) rfl (by kernel_rfl) (by kernel_rfl) (by kernel_rfl) (fun _ _ _ h => h) (Or.inl ⟨by rfl, ?hyr7⟩) (by assumption) ?restr7
                case hyr7 => (intro w hSw; (try dsimp only at hSw); go_simp; (try (rw [IntKind.wrap_i64]; omega)); (try with_reducible rfl))
                (try simp only [Act.put, List.setIfInBounds_toArray, List.set_cons_zero, List.set_cons_succ])
                refine wpAnyH_take (i := 8) (oi := ({ dst := some 65, op := Go.Op.indexAddr 96 (Go.Operand.tmp 62) (Go.Operand.tmp 64), type := 0, pos := "match.go:97", after := #[{ on := 5, ground := Go.Ground.data }, { on := 7, ground := Go.Ground.data }, { on := 4, ground := Go.Ground.guard }], guard := some (4, true) } : Oper)) (v := ?vr8) rfl (by kernel_rfl) (by kernel_rfl) (by kernel_rfl) (fun _ _ _ h => h) (Or.inl ⟨by rfl, ?hyr8⟩) (by assumption) ?restr8
                case hyr8 => (intro w hSw; (try dsimp only at hSw); go_simp; (try with_reducible rfl))
                (try simp only [Act.put, List.setIfInBounds_toArray, List.set_cons_zero, List.set_cons_succ])
                refine wpAnyH_take (i := 9) (oi := ({ dst := some 66, op := Go.Op.load 4 (Go.Operand.tmp 65), type := 4, pos := "match.go:97", after := #[{ on := 8, ground := Go.Ground.data }, { on := 4, ground := Go.Ground.guard }], guard := some (4, true) } : Oper)) (v := ?vr9) rfl (by kernel_rfl) (by kernel_rfl) (by kernel_rfl) (fun _ _ _ h => h) (Or.inl ⟨by rfl, ?hyr9⟩) (by assumption) ?restr9
                case hyr9 => (intro w hSw; (try dsimp only at hSw); go_simp; (try with_reducible rfl))
                (try simp only [Act.put, List.setIfInBounds_toArray, List.set_cons_zero, List.set_cons_succ])
                refine wpAnyH_take (i := 10) (oi := ({ dst := some 67, op := Go.Op.pick (Go.Operand.tmp 61) (Go.Operand.tmp 66) (Go.Operand.const (Go.Value.bool false)), type := 4, pos := "match.go:97", after := #[{ on := 4, ground := Go.Ground.data }, { on := 9, ground := Go.Ground.data }], guard := none } : Oper)) (v := ?vr10) rfl (by kernel_rfl) (by kernel_rfl) (by kernel_rfl) (fun _ _ _ h => h) (Or.inl ⟨by rfl, ?hyr10⟩) (by assumption) ?restr10
                case hyr10 => (intro w hSw; (try dsimp only at hSw); go_simp; (try with_reducible rfl))
                (try simp only [Act.put, List.setIfInBounds_toArray, List.set_cons_zero, List.set_cons_succ])
                refine wpAnyH_take (i := 11) (oi := ({ dst := some 68, op := Go.Op.move (Go.Operand.tmp 67), type := 4, pos := "match.go:97", after := #[{ on := 10, ground := Go.Ground.data }, { on := 4, ground := Go.Ground.chain }], guard := none } : Oper)) (v := ?vr11) rfl (by kernel_rfl) (by kernel_rfl) (by kernel_rfl) (fun _ _ _ h => h) (Or.inl ⟨by rfl, ?hyr11⟩) (by assumption) ?restr11
                case hyr11 => (intro w hSw; (try dsimp only at hSw); go_simp; (try with_reducible rfl))
                (try simp only [Act.put, List.setIfInBounds_toArray, List.set_cons_zero, List.set_cons_succ])
                refine wpAnyH_take (i := 12) (oi := ({ dst := some 69, op := Go.Op.move (Go.Operand.tmp 5), type := 94, pos := "match.go:97", after := #[{ on := 11, ground := Go.Ground.guard }], guard := some (11, true) } : Oper)) (v := ?vr12) rfl (by kernel_rfl) (by kernel_rfl) (by kernel_rfl) (fun _ _ _ h => h) (Or.inl ⟨by rfl, ?hyr12⟩) (by assumption) ?restr12
                case hyr12 => (intro w hSw; (try dsimp only at hSw); go_simp; (try with_reducible rfl))
                (try simp only [Act.put, List.setIfInBounds_toArray, List.set_cons_zero, List.set_cons_succ])
                refine wpAnyH_take (i := 13) (oi := ({ dst := some 70, op := Go.Op.move (Go.Operand.tmp 7), type := 3, pos := "match.go:97", after := #[{ on := 11, ground := Go.Ground.guard }], guard := some (11, true) } : Oper)) (v := ?vr13) rfl (by kernel_rfl) (by kernel_rfl) (by kernel_rfl) (fun _ _ _ h => h) (Or.inl ⟨by rfl, ?hyr13⟩) (by assumption) ?restr13
                case hyr13 => (intro w hSw; (try dsimp only at hSw); go_simp; (try with_reducible rfl))
                (try simp only [Act.put, List.setIfInBounds_toArray, List.set_cons_zero, List.set_cons_succ])
                refine wpAnyH_take (i := 14) (oi := ({ dst := some 71, op := Go.Op.move (Go.Operand.tmp 1), type := 22, pos := "match.go:97", after := #[{ on := 11, ground := Go.Ground.guard }], guard := some (11, true) } : Oper)) (v := ?vr14) rfl (by kernel_rfl) (by kernel_rfl) (by kernel_rfl) (fun _ _ _ h => h) (Or.inl ⟨by rfl, ?hyr14⟩) (by assumption) ?restr14
                case hyr14 => (intro w hSw; (try dsimp only at hSw); go_simp; (try with_reducible rfl))
                (try simp only [Act.put, List.setIfInBounds_toArray, List.set_cons_zero, List.set_cons_succ])
                refine wpAnyH_take (i := 15) (oi := ({ dst := some 72, op := Go.Op.move (Go.Operand.tmp 9), type := 3, pos := "match.go:97", after := #[{ on := 11, ground := Go.Ground.guard }], guard := some (11, true) } : Oper)) (v := ?vr15) rfl (by kernel_rfl) (by kernel_rfl) (by kernel_rfl) (fun _ _ _ h => h) (Or.inl ⟨by rfl, ?hyr15⟩) (by assumption) ?restr15
                case hyr15 => (intro w hSw; (try dsimp only at hSw); go_simp; (try with_reducible rfl))
                (try simp only [Act.put, List.setIfInBounds_toArray, List.set_cons_zero, List.set_cons_succ])
                refine wpAnyH_take (i := 16) (oi := ({ dst := some 73, op := Go.Op.binOp Go.BinOp.sub 3 (Go.Operand.tmp 72) (Go.Operand.const (Go.Value.int Go.IntKind.i64 1)) 3, type := 3, pos := "match.go:97", after := #[{ on := 15, ground := Go.Ground.data }, { on := 11, ground := Go.Ground.guard }], guard := some (11, true) } : Oper)) (v := Value.int .i64 (k : Nat)) rfl (by kernel_rfl) (by kernel_rfl) (by kernel_rfl) (fun _ _ _ h => h) (Or.inl ⟨by rfl, ?hyr16⟩) (by assumption) ?restr16
                case hyr16 => (intro w hSw; (try dsimp only at hSw); go_simp; (try (rw [IntKind.wrap_i64]; omega)); (try with_reducible rfl))
                (try simp only [Act.put, List.setIfInBounds_toArray, List.set_cons_zero, List.set_cons_succ])
                refine wpAnyH_take (i := 17) (oi := ({ dst := some 74, op := Go.Op.indexAddr 22 (Go.Operand.tmp 71) (Go.Operand.tmp 73), type := 0, pos := "match.go:97", after := #[{ on := 14, ground := Go.Ground.data }, { on := 16, ground := Go.Ground.data }, { on := 11, ground := Go.Ground.guard }], guard := some (11, true) } : Oper)) (v := ?vr17) rfl (by kernel_rfl) (by kernel_rfl) (by kernel_rfl) (fun _ _ _ h => h) (Or.inl ⟨by rfl, ?hyr17⟩) (by assumption) ?restr17
                case hyr17 => (intro w hSw; (try dsimp only at hSw); go_simp; (try with_reducible rfl))
                (try simp only [Act.put, List.setIfInBounds_toArray, List.set_cons_zero, List.set_cons_succ])
                refine wpAnyH_take (i := 18) (oi := ({ dst := some 75, op := Go.Op.load 5 (Go.Operand.tmp 74), type := 5, pos := "match.go:97", after := #[{ on := 17, ground := Go.Ground.data }, { on := 11, ground := Go.Ground.guard }], guard := some (11, true) } : Oper)) (v := ?vr18) rfl (by kernel_rfl) (by kernel_rfl) (by kernel_rfl) (fun _ _ _ h => h) (Or.inl ⟨by rfl, ?hyr18⟩) (by assumption) ?restr18
                case hyr18 => (intro w hSw; (try dsimp only at hSw); go_simp; (try with_reducible rfl))
                (try simp only [Act.put, List.setIfInBounds_toArray, List.set_cons_zero, List.set_cons_succ])
                refine wpAnyH_take (i := 19) (oi := ({ dst := some 76, op := Go.Op.indexAddr 94 (Go.Operand.tmp 69) (Go.Operand.tmp 70), type := 0, pos := "match.go:97", after := #[{ on := 12, ground := Go.Ground.data }, { on := 13, ground := Go.Ground.data }, { on := 11, ground := Go.Ground.guard }], guard := some (11, true) } : Oper)) (v := ?vr19) rfl (by kernel_rfl) (by kernel_rfl) (by kernel_rfl) (fun _ _ _ h => h) (Or.inl ⟨by rfl, ?hyr19⟩) (by assumption) ?restr19
                case hyr19 => (intro w hSw; (try dsimp only at hSw); go_simp; (try with_reducible rfl))
                (try simp only [Act.put, List.setIfInBounds_toArray, List.set_cons_zero, List.set_cons_succ])
                refine wpAnyH_take (i := 20) (oi := ({ dst := some 77, op := Go.Op.fieldAddr 99 (Go.Operand.tmp 76) 1, type := 0, pos := "match.go:97", after := #[{ on := 19, ground := Go.Ground.data }, { on := 11, ground := Go.Ground.guard }], guard := some (11, true) } : Oper)) (v := ?vr20) rfl (by kernel_rfl) (by kernel_rfl) (by kernel_rfl) (fun _ _ _ h => h) (Or.inl ⟨by rfl, ?hyr20⟩) (by assumption) ?restr20
                case hyr20 => (intro w hSw; (try dsimp only at hSw); go_simp; (try with_reducible rfl))
                (try simp only [Act.put, List.setIfInBounds_toArray, List.set_cons_zero, List.set_cons_succ])
                refine wpAnyH_take (i := 21) (oi := ({ dst := some 78, op := Go.Op.indexAddr 97 (Go.Operand.tmp 77) (Go.Operand.tmp 75), type := 0, pos := "match.go:97", after := #[{ on := 20, ground := Go.Ground.data }, { on := 18, ground := Go.Ground.data }, { on := 11, ground := Go.Ground.guard }], guard := some (11, true) } : Oper)) (v := ?vr21) rfl (by kernel_rfl) (by kernel_rfl) (by kernel_rfl) (fun _ _ _ h => h) (Or.inl ⟨by rfl, ?hyr21⟩) (by assumption) ?restr21
                case hyr21 => (intro w hSw; (try dsimp only at hSw); go_simp; (try with_reducible rfl))
                (try simp only [Act.put, List.setIfInBounds_toArray, List.set_cons_zero, List.set_cons_succ])
                refine wpAnyH_take (i := 22) (oi := ({ dst := some 79, op := Go.Op.load 4 (Go.Operand.tmp 78), type := 4, pos := "match.go:97", after := #[{ on := 21, ground := Go.Ground.data }, { on := 11, ground := Go.Ground.guard }], guard := some (11, true) } : Oper)) (v := ?vr22) rfl (by kernel_rfl) (by kernel_rfl) (by kernel_rfl) (fun _ _ _ h => h) (Or.inl ⟨by rfl, ?hyr22⟩) (by assumption) ?restr22
                case hyr22 => (intro w hSw; (try dsimp only at hSw); go_simp; (try with_reducible rfl))
                (try simp only [Act.put, List.setIfInBounds_toArray, List.set_cons_zero, List.set_cons_succ])
                refine wpAnyH_take (i := 23) (oi := ({ dst := some 80, op := Go.Op.pick (Go.Operand.tmp 68) (Go.Operand.tmp 79) (Go.Operand.const (Go.Value.bool false)), type := 4, pos := "match.go:97", after := #[{ on := 11, ground := Go.Ground.data }, { on := 22, ground := Go.Ground.data }], guard := none } : Oper)) (v := ?vr23) rfl (by kernel_rfl) (by kernel_rfl) (by kernel_rfl) (fun _ _ _ h => h) (Or.inl ⟨by rfl, ?hyr23⟩) (by assumption) ?restr23
                case hyr23 => (intro w hSw; (try dsimp only at hSw); go_simp; (try with_reducible rfl))
                (try simp only [Act.put, List.setIfInBounds_toArray, List.set_cons_zero, List.set_cons_succ])
                refine wpAnyH_take (i := 24) (oi := ({ dst := some 81, op := Go.Op.indexAddr 96 (Go.Operand.tmp 57) (Go.Operand.tmp 58), type := 0, pos := "match.go:97", after := #[{ on := 0, ground := Go.Ground.data }, { on := 1, ground := Go.Ground.data }, { on := 0, ground := Go.Ground.phase }, { on := 1, ground := Go.Ground.phase }, { on := 2, ground := Go.Ground.phase }, { on := 3, ground := Go.Ground.phase }, { on := 4, ground := Go.Ground.phase }, { on := 5, ground := Go.Ground.phase }, { on := 6, ground := Go.Ground.phase }, { on := 7, ground := Go.Ground.phase }, { on := 8, ground := Go.Ground.phase }, { on := 9, ground := Go.Ground.phase }, { on := 10, ground := Go.Ground.phase }, { on := 11, ground := Go.Ground.phase }, { on := 12, ground := Go.Ground.phase }, { on := 13, ground := Go.Ground.phase }, { on := 14, ground := Go.Ground.phase }, { on := 15, ground := Go.Ground.phase }, { on := 16, ground := Go.Ground.phase }, { on := 17, ground := Go.Ground.phase }, { on := 18, ground := Go.Ground.phase }, { on := 19, ground := Go.Ground.phase }, { on := 20, ground := Go.Ground.phase }, { on := 21, ground := Go.Ground.phase }, { on := 22, ground := Go.Ground.phase }, { on := 23, ground := Go.Ground.phase }], guard := none } : Oper)) (v := Value.pointer (some ⟨gn, k + 1, none⟩)) rfl (by kernel_rfl) (by kernel_rfl) (by kernel_rfl) (fun _ _ _ h => h) (Or.inl ⟨by rfl, ?hyr24⟩) (by assumption) ?restr24
                case hyr24 => (intro w hSw; (try dsimp only at hSw); go_simp; (try rw [if_pos ⟨by omega, by omega⟩]); (try (intro hh; exact absurd (hh (by omega)) (by omega))); (try with_reducible rfl))
                (try simp only [Act.put, List.setIfInBounds_toArray, List.set_cons_zero, List.set_cons_succ])
                refine wpAnyH_ready (rs := [25]) (by kernel_rfl) (by simp) ?_
                refine AllReadyH.cons (o := ({ dst := none, op := Go.Op.store 4 (Go.Operand.tmp 81) (Go.Operand.tmp 80), type := 0, pos := "match.go:97", after := #[{ on := 24, ground := Go.Ground.data }, { on := 23, ground := Go.Ground.data }, { on := 11, ground := Go.Ground.chain }, { on := 0, ground := Go.Ground.phase }, { on := 1, ground := Go.Ground.phase }, { on := 2, ground := Go.Ground.phase }, { on := 3, ground := Go.Ground.phase }, { on := 4, ground := Go.Ground.phase }, { on := 5, ground := Go.Ground.phase }, { on := 6, ground := Go.Ground.phase }, { on := 7, ground := Go.Ground.phase }, { on := 8, ground := Go.Ground.phase }, { on := 9, ground := Go.Ground.phase }, { on := 10, ground := Go.Ground.phase }, { on := 11, ground := Go.Ground.phase }, { on := 12, ground := Go.Ground.phase }, { on := 13, ground := Go.Ground.phase }, { on := 14, ground := Go.Ground.phase }, { on := 15, ground := Go.Ground.phase }, { on := 16, ground := Go.Ground.phase }, { on := 17, ground := Go.Ground.phase }, { on := 18, ground := Go.Ground.phase }, { on := 19, ground := Go.Ground.phase }, { on := 20, ground := Go.Ground.phase }, { on := 21, ground := Go.Ground.phase }, { on := 22, ground := Go.Ground.phase }, { on := 23, ground := Go.Ground.phase }], guard := none } : Oper)) rfl (fun K hK => ?_) AllReadyH.nil
                go_simp
                skip
                (try go_wp2_with fail)
                refine hK.out _ _ (by exact HSTA.out _) (fun hHeld => ?_)
                clear hK K
                (try simp only [Act.put, List.setIfInBounds_toArray, List.set_cons_zero, List.set_cons_succ])
                refine wpAnyH_done (by kernel_rfl) ?_ _
                (try go_wp2_with fail)
                go_roundw
                case rel => exact ⟨k + 1 + 1, by first | rfl | go_num | trivial, by omega, ⟨HSETD.out fx (by rw [HCS.out]; rfl)⟩⟩
                case measure => simp [intOf]; omega
            -- TES
          · rw [hs] at hst
            have HCS := Aside0.mk (can_star (L.take i) pc hs t j hjl)
            rw [← HTK.out, ← HB0.out] at HCS
            clear hs
            cases b0
            · cases j with
              | zero =>
                have e2 : decide ((0 : Int) < ((0 : Nat) : Int)) = false := by decide
                go_wp2_with fail
                go_roundw
                case rel => exact ⟨1, by first | rfl | go_num | trivial, by omega, ⟨HSET.out false (by rw [HCS.out]; simp)⟩⟩
                case measure => simp [intOf]; omega
              | succ k =>
                have e2 : decide ((0 : Int) < ((k + 1 : Nat) : Int)) = true := decide_eq_true (by omega)
                have e2' : decide ((0 : Int) < (k : Int) + 1) = true := decide_eq_true (by omega)
                have hnk : wq.cell? ⟨gn, k, none⟩ = some (.bool (canD (L.take (i + 1)) t k)) := HJ.out.1.get k _ (by rw [part_get _ _ _ _ (by omega)]; simp)
                obtain ⟨b1, hb1⟩ : ∃ b1, b1 = canD (L.take (i + 1)) t k := ⟨_, rfl⟩
                rw [← hb1] at hnk
                have HB1 := Aside0.mk hb1
                clear hb1
                have hkn : k < n := by omega
                have f1 : decide ((k : Int) < n) = true := decide_eq_true (by omega)
                have f1' : decide (k < n) = true := decide_eq_true hkn
                go_wp2_with fail
                go_roundw
                case rel => exact ⟨k + 1 + 1, by first | rfl | go_num | trivial, by omega, ⟨HSET.out b1 (by rw [HCS.out, HB1.out]; simp)⟩⟩
                case measure => simp [intOf]; omega
            · go_wp2_with fail
              go_roundw
              case rel => exact ⟨j + 1, by first | rfl | go_num | trivial, by omega, ⟨HSET.out true (by rw [HCS.out]; simp)⟩⟩
              case measure => simp [intOf]; omega
        · have hjn : j = n := by have := HN.out; omega
          subst hjn
          have e1 : decide ((j : Int) ≤ t.length) = false := decide_eq_false (by omega)
          have e1' : decide (j ≤ t.length) = false := decide_eq_false hjl
          go_wp2_with fail
          go_roundw
          case rel =>
            refine ⟨i + 1, gn, ?_, ?_, ?_, ?_⟩
            · first | rfl | trivial
            · first | rfl | go_num | trivial
            · omega
            · exact ⟨HGN.out, by rw [← part_all, ← HN.out]; exact HJ.out.1, HJ.out.2.2⟩
          case measure => simp [intOf]; omega
    · obtain rfl : i = L.length := by omega
      have c1 : decide ((L.length : Int) < L.length) = false := decide_eq_false (by omega)
      have c1' : decide (L.length < L.length) = false := decide_eq_false (by omega)
      have hg := HI.out.2.1.get t.length _ (tab_get _ _ _ (Nat.le_refl _))
      rw [can_all, List.take_length, ← HGL.out] at hg
      obtain ⟨r, hrr⟩ : ∃ r, r = globL p t := ⟨_, rfl⟩
      rw [← hrr] at hg
      have HRR := Aside0.mk hrr
      clear hrr
      go_wp2_with fail
      go_ret
      exact ⟨by rw [← HRR.out]; rfl, PB.below_next HB2.out HI.out.2.2⟩
end Go.Proofs.YtdflblegdfpdpaaDoor.GlobR
end
