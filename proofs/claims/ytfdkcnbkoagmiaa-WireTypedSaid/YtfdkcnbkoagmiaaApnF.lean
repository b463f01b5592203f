/- append onto a list of bytes without room. No function of the program. -/
import Derived.Test.YtfdkcnbkoagmiaaCopL
import Derived.Lib.SlBytesConst
import Derived.ArgAppend
namespace Go.Proofs.Ytfdkcnbkoagmiaa.ApnF
open Go Go.RowKit Go.Proofs.YtfdkcnbkoagmiaaW.PrintWords Go.Proofs.YtfdkcnbkoagmiaaW.PrintLast Go.Proofs.YtfdkcnbkoagmiaaW.PrintMore Go.Proofs.Ytfdkcnbkoagmiaa.CopL
set_option linter.unusedVariables false
set_option maxRecDepth 100000

theorem conv_at {w : World} (g : Nat) (hg : w.heap.size = g) (C : Array Value) (n c : Nat) :
    (convert 26 26 (.slice (some ⟨g, 0, none⟩) n c)).run Try.prog (w.alloc (.cells C 5)) = .ok (.slice (some ⟨g, 0, none⟩) n c) (w.alloc (.cells C 5 (C.size, C.size + 1))) := by
  subst hg
  exact Lib.run_convert_bytes_const (P := Try.prog) w 26 5 C n c Try.underlying26 Try.underlying5
theorem got_const (W : World) (g : Nat) (hg : W.heap.size = g) (l : List Int) (f : Nat × Nat) (hl : l.length ≤ 9223372036854775807) : Kd.C (Kd.int .u8) (W.alloc (.cells (l.map (Value.int .u8)).toArray 5 f)) (some ⟨g, 0, none⟩) l.length l := by
  subst hg
  refine ⟨rfl, hl, fun _ => ⟨_, rfl, fun i p hp => ⟨[.int .u8 p], rfl, rfl, fun u x hx => ?_⟩⟩⟩
  obtain ⟨hi, hp'⟩ := List.getElem?_eq_some_iff.1 hp
  cases u with
  | zero =>
    injection hx with hx
    subst hx
    rw [show (Kd.int .u8).sz = 1 from rfl, Nat.mul_one, Nat.add_zero, show (⟨W.heap.size, 0, none⟩ : Addr).add i = ⟨W.heap.size, 0 + i, none⟩ from by unfold Addr.add; split <;> simp_all, Nat.zero_add]
    have hb : (W.alloc (.cells (l.map (Value.int .u8)).toArray 5 f)).heap[W.heap.size]? = some (.cells (l.map (Value.int .u8)).toArray 5 f) := heap_alloc_new W _
    rw [cell_of_row _ _ _ _ _ _ hb]
    simp [hp]
  | succ u => simp at hx

theorem cells_of {w : World} {ad : Addr} {n : Nat} {l : List Int} (h : Kd.C (Kd.int .u8) w (some ad) n l) : ∀ j u, (l.map (Value.int .u8))[j]? = some u → w.cell? (ad.add j) = some u := by
  intro j u hu
  have hl : l.length = n := h.1
  rw [List.getElem?_map, Option.map_eq_some_iff] at hu
  obtain ⟨x, hx, rfl⟩ := hu
  obtain ⟨hj, hx'⟩ := List.getElem?_eq_some_iff.1 hx
  obtain ⟨ad', hh, hc⟩ := Kd.at_int h (j : Int) (by omega) (by omega)
  obtain rfl : ad = ad' := Option.some.inj hh
  rw [Int.toNat_natCast] at hc
  rw [hc]
  unfold rd
  rw [Int.toNat_natCast, List.getD_eq_getElem?_getD, hx]
  rfl
theorem run_empty (w : World) (ty : TypeId) (As : Addr) (n c : Nat) (Ax : Option Addr) :
    (Builtin.append_ #[26, 26] ty #[.slice (some As) n n, .slice Ax 0 c]).run Try.prog w = .ok (.slice (some As) n n) w := by
  obtain ⟨i, hi, h0, h1, h2⟩ := infoB
  have hu := Try.underlying26
  cases Ax <;> simp [Builtin.append_, run_underlying hu, sizeOf, typeInfo, hi, Builtin.lenOf, Builtin.firstCells, storeCells, loadCells, loadCellsFrom]

theorem wpList_append_full {ops : Array Oper} {rest : List Oper} {o : Oper} {a : Act} {w : World} {Q : Exit → Act → World → Prop}
    (hg : o.guard = none) (s x : Operand) (hop : o.op = Op.call { callee := Callee.builtin Builtin.append, args := #[s, x], argTypes := #[26, 26] })
    (As : Addr) (l1 : List Int) (hs : a.eval s = .slice (some As) l1.length l1.length) (hC1 : Kd.C (Kd.int .u8) w (some As) l1.length l1)
    (Ax : Option Addr) (c : Nat) (l2 : List Int) (hx : a.eval x = .slice Ax l2.length c) (hC2 : Kd.C (Kd.int .u8) w Ax l2.length l2) (hb : l1.length + l2.length ≤ 100000000000000) (l3 : List Int) (h3 : l3 = l1 ++ l2)
    (hK : ∀ A' c' w', Kd.C (Kd.int .u8) w' A' l3.length l3 → l3.length ≤ c' → Below w.heap.size w w' → wpList Try.prog ops Q rest (a.put o.dst (.slice A' l3.length c')) w') :
    wpList Try.prog ops Q (o :: rest) a w := by
  subst h3
  by_cases h0 : l2.length = 0
  · obtain rfl : l2 = [] := List.eq_nil_of_length_eq_zero h0
    refine wpList_plain hg fun K hK' => ?_
    have hrun := run_empty w o.type As l1.length c Ax
    unfold Oper.wp
    simp only [List.length_nil] at hx
    simp [execOp, hop, resolve, invoke, builtin, hs, hx, hrun, Result.andThen]
    refine hK' _ _ ?_
    have := hK (some As) l1.length w (by rw [List.append_nil]; exact hC1) (by rw [List.append_nil]; exact Nat.le_refl _) (Below.refl _ _)
    rw [List.append_nil] at this
    exact this
  · obtain ⟨ad, hAx, _⟩ := Kd.at_int hC2 (0 : Int) (by omega) (by omega)
    subst hAx
    obtain ⟨i, hi, z0, z1, z2⟩ := infoB
    refine wpList_append_grows w hg s x 26 hop 5 i (.int .u8 0) 1 1 Try.underlying26 hi z0 z1 z2 rfl (by decide) (some As) l1.length l1.length (l1.map (Value.int .u8)) hs (fun h => by cases h) (by simp) (fun b hb' => by obtain rfl := Option.some.inj hb'; exact cells_of hC1)
      ad l2.length c (l2.map (Value.int .u8)) hx (by simp) (cells_of hC2) (fun u hu => by obtain ⟨y, _, rfl⟩ := List.mem_map.1 hu; rfl) (by omega) (by unfold maxLen; omega) (by omega) ?_
    intro v' w' ho hgr
    have hB : Below w.heap.size w w' := (Below.refl _ w).grown hgr (Nat.le_refl _) (by intro k hk; simp at hk)
    have ho' : w'.ownsRow w.heap.size 5 1 v' (l1 ++ l2).length (encs (Value.int .u8) (l1 ++ l2)) := by
      rw [List.length_append, show encs (Value.int .u8) (l1 ++ l2) = l1.map (Value.int .u8) ++ l2.map (Value.int .u8) by simp [encs]]
      exact ho
    obtain ⟨A', c', rfl, hl, hC⟩ := Kd.R_reads (Kd.R_of_own (h1 := fun _ => rfl) ho' (ok := fun _ => True) (fun _ _ => trivial))
    exact hK A' c' w' hC hl hB
end Go.Proofs.Ytfdkcnbkoagmiaa.ApnF
