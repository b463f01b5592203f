/- The parameters of layer 2's laws on objects, opened. -/
import Derived.Test.YtgjcffjicbmkhaaOpen
import Derived.Test.YtgjcffjicbmkhaaPFx3
import Derived.KernelRfl
namespace Go.Proofs.Ytgjcffjicbmkhaa.MemO
open Go Go.RowKit Go.Proofs.YtgjcffjicbmkhaaW.PrintWords Go.Proofs.Ytgjcffjicbmkhaa.Open Go.Proofs.Ytgjcffjicbmkhaa.PF

def gI (x : Int) : Prop := (Lit.int .i64 x).wf = true
def gU (x : Int) : Prop := (Lit.int .u64 x).wf = true
theorem wf_u64 {x : Int} (h : (Lit.int .u64 x).wf = true) : 0 ≤ x ∧ x < 18446744073709551616 := by
  simp [Lit.wf, IntKind.min, IntKind.max, IntKind.signed, IntKind.bits] at h; omega
theorem o_int : Opens Try.prog 3 (Kd.int .i64) gI := opens_int Try.underlying3 (by kernel_rfl)
theorem o_u64 : Opens Try.prog 36 (Kd.int .u64) gU := opens_int Try.underlying36 (by kernel_rfl)
theorem o_shape : Opens Try.prog 28 k28 (fun _ => True) := fun F =>
  (at_iso (fun x : S28 => (x.f0, x.f1, x.f2)) (fun x => ⟨x.1, x.2.1, x.2.2⟩) (fun _ => rfl) ((opens_struct Try.underlying28 rfl (by kernel_rfl) (fields2 rfl o_int (fields2 rfl o_int (fields1 rfl o_int)))) F)).good_imp (fun _ _ => trivial)
/-- O, F, V -/
def kW : Kd (Int × Int × Int) := Kd.pair (Kd.int .i64) (Kd.pair (Kd.int .i64) (Kd.int .u64))
theorem o_write : Opens Try.prog 38 kW (fun y => gI y.1 ∧ gI y.2.1 ∧ gU y.2.2) :=
  opens_struct Try.underlying38 rfl (by kernel_rfl) (fields2 rfl o_int (fields2 rfl o_int (fields1 rfl o_u64)))
theorem kW_open {w : World} {x : Int × Int × Int} {cs : List Value} (h : kW.K w x cs) : cs = [.int .i64 x.1, .int .i64 x.2.1, .int .u64 x.2.2] := by
  obtain ⟨c1, c2, rfl, h1, c3, c4, rfl, h2, h3⟩ := h
  obtain rfl : c1 = _ := h1
  obtain rfl : c3 = _ := h2
  obtain rfl : c4 = _ := h3
  rfl
/-- Shapes, Writes -/
def kMem : Kd (List S28 × List (Int × Int × Int)) := Kd.pair (Kd.slice 28 k28) (Kd.slice 38 kW)
def gMem (y : List S28 × List (Int × Int × Int)) : Prop := GoodL 24 (fun _ => True) y.1 ∧ GoodL 24 (fun y => gI y.1 ∧ gI y.2.1 ∧ gU y.2.2) y.2
theorem o_mem : Opens Try.prog 25 kMem gMem :=
  opens_struct Try.underlying25 rfl (by kernel_rfl) (fields2 rfl (opens_slice Try.underlying22 (by kernel_rfl) (by kernel_rfl) o_shape) (fields1 rfl (opens_slice Try.underlying23 (by kernel_rfl) (by kernel_rfl) o_write)))
/-- One write's cells. -/
theorem write_at {W : World} {A : Option Addr} {l : List (Int × Int × Int)} (h : Kd.C kW W A l.length l) (i : Nat) (x : Int × Int × Int) (hx : l[i]? = some x) : ∃ ad, A = some ad ∧ W.cell? (ad.add (i * 3)) = some (.int .i64 x.1) ∧ W.cell? ⟨(ad.add (i * 3)).block, (ad.add (i * 3)).off + 1, none⟩ = some (.int .i64 x.2.1) ∧ W.cell? ⟨(ad.add (i * 3)).block, (ad.add (i * 3)).off + 2, none⟩ = some (.int .u64 x.2.2) := by
  have hi := (List.getElem?_eq_some_iff.1 hx).1
  obtain ⟨ad, c, e, _, hK, hc0⟩ := Kd.C_get h (0, 0, 0) i (by omega) (by omega)
  have hc : ∀ j u, c[j]? = some u → W.cell? (ad.add (i * 3 + j)) = some u := hc0
  have hd : l.getD ((i : Int)).toNat (0, 0, 0) = x := by rw [Int.toNat_natCast, List.getD_eq_getElem?_getD, hx]; rfl
  rw [hd] at hK
  obtain rfl := kW_open hK
  exact ⟨ad, e, hc 0 _ rfl, by rw [← add_field _ _ 1 (by omega)]; exact hc 1 _ rfl, by rw [← add_field _ _ 2 (by omega)]; exact hc 2 _ rfl⟩
end Go.Proofs.Ytgjcffjicbmkhaa.MemO
