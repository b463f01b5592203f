-- JOINED by tailmerge.py: MemO PFx16 RowB BytO OpO RfdM PFx8 MemI LayW CopM SeeW CopW CpdW PFx17 MemW ColW OpenB ColL LawArenaCollect
import Derived.Test.YtgjcffjicbmkhaaOpen
import Derived.Test.YtgjcffjicbmkhaaPFx3
import Derived.KernelRfl
import Derived.Test.YtgjcffjicbmkhaaPFx0
import Derived.Test.YtgjcffjicbmkhaaArC
import Derived.Test.YtgjcffjicbmkhaaFillL
import Derived.Test.YtgjcffjicbmkhaaRefW
import Derived.Test.YtgjcffjicbmkhaaSamW
import Derived.Laws.Tables
import Derived.Laws.CopyOwn
import Derived.Test.YtgjcffjicbmkhaaArT
import Derived.Test.YtgjcffjicbmkhaaColR
import Derived.Test.YtgjcffjicbmkhaaPFx1
import Derived.Test.YtgjcffjicbmkhaaSumI
import Derived.Test.YtgjcffjicbmkhaaArV
import Derived.Deep.QuietTactic
import Derived.BigQuiet
import Derived.StillTailTactics
import Derived.Deep.DeepMust
import Derived.Deep.RegionHeld3
import Derived.Test.YtgjcffjicbmkhaaRows
import Derived.OpenShut
import Derived.SizedLaws
import Derived.ChangeSlices
import Derived.DataElems
import Derived.WalkKit
import Derived.ProofKit
import Derived.ShutString
import Derived.ChangeOld
import Derived.Below
import Derived.Deep.DeepHandedRow
import Derived.Lib.LaidTab

section
/- The parameters of layer 2's laws on objects, opened. -/
namespace Go.Proofs.Ytgjcffjicbmkhaa.MemO
open Go Go.RowKit Go.Proofs.YtgjcffjicbmkhaaW.PrintWords Go.Proofs.Ytgjcffjicbmkhaa.Open Go.Proofs.Ytgjcffjicbmkhaa.PF

def gI (x : Int) : Prop := (Lit.int .i64 x).wf = true
def gU (x : Int) : Prop := (Lit.int .u64 x).wf = true
theorem wf_u64 {x : Int} (h : (Lit.int .u64 x).wf = true) : 0 ≤ x ∧ x < 18446744073709551616 := by
  simp [Lit.wf, IntKind.min, IntKind.max, IntKind.signed, IntKind.bits] at h; omega
theorem o_int : Opens Try.prog 3 (Kd.int .i64) gI := opens_int Try.underlying3 (by kernel_rfl)
theorem o_u64 : Opens Try.prog 36 (Kd.int .u64) gU := opens_int Try.underlying36 (by kernel_rfl)
theorem o_shape : Opens Try.prog 28 k28 (fun _ => True) := fun F =>
  (at_iso (fun x : S28 => (x.f0, x.f1, x.f2)) (fun x => ⟨x.1, x.2.1, x.2.2⟩) (fun _ => rfl) ((opens_struct Try.underlying28 rfl (by kernel_rfl) (fields2 rfl o_int (fields2 rfl o_int (fields1 rfl o_int)))) F)).good_imp (fun _ _ => trivial)
/-- O, F, V -/
def kW : Kd (Int × Int × Int) := Kd.pair (Kd.int .i64) (Kd.pair (Kd.int .i64) (Kd.int .u64))
theorem o_write : Opens Try.prog 38 kW (fun y => gI y.1 ∧ gI y.2.1 ∧ gU y.2.2) :=
  opens_struct Try.underlying38 rfl (by kernel_rfl) (fields2 rfl o_int (fields2 rfl o_int (fields1 rfl o_u64)))
theorem kW_open {w : World} {x : Int × Int × Int} {cs : List Value} (h : kW.K w x cs) : cs = [.int .i64 x.1, .int .i64 x.2.1, .int .u64 x.2.2] := by
  obtain ⟨c1, c2, rfl, h1, c3, c4, rfl, h2, h3⟩ := h
  obtain rfl : c1 = _ := h1
  obtain rfl : c3 = _ := h2
  obtain rfl : c4 = _ := h3
  rfl
/-- Shapes, Writes -/
def kMem : Kd (List S28 × List (Int × Int × Int)) := Kd.pair (Kd.slice 28 k28) (Kd.slice 38 kW)
def gMem (y : List S28 × List (Int × Int × Int)) : Prop := GoodL 24 (fun _ => True) y.1 ∧ GoodL 24 (fun y => gI y.1 ∧ gI y.2.1 ∧ gU y.2.2) y.2
theorem o_mem : Opens Try.prog 25 kMem gMem :=
  opens_struct Try.underlying25 rfl (by kernel_rfl) (fields2 rfl (opens_slice Try.underlying22 (by kernel_rfl) (by kernel_rfl) o_shape) (fields1 rfl (opens_slice Try.underlying23 (by kernel_rfl) (by kernel_rfl) o_write)))
/-- One write's cells. -/
theorem write_at {W : World} {A : Option Addr} {l : List (Int × Int × Int)} (h : Kd.C kW W A l.length l) (i : Nat) (x : Int × Int × Int) (hx : l[i]? = some x) : ∃ ad, A = some ad ∧ W.cell? (ad.add (i * 3)) = some (.int .i64 x.1) ∧ W.cell? ⟨(ad.add (i * 3)).block, (ad.add (i * 3)).off + 1, none⟩ = some (.int .i64 x.2.1) ∧ W.cell? ⟨(ad.add (i * 3)).block, (ad.add (i * 3)).off + 2, none⟩ = some (.int .u64 x.2.2) := by
  have hi := (List.getElem?_eq_some_iff.1 hx).1
  obtain ⟨ad, c, e, _, hK, hc0⟩ := Kd.C_get h (0, 0, 0) i (by omega) (by omega)
  have hc : ∀ j u, c[j]? = some u → W.cell? (ad.add (i * 3 + j)) = some u := hc0
  have hd : l.getD ((i : Int)).toNat (0, 0, 0) = x := by rw [Int.toNat_natCast, List.getD_eq_getElem?_getD, hx]; rfl
  rw [hd] at hK
  obtain rfl := kW_open hK
  exact ⟨ad, e, hc 0 _ rfl, by rw [← add_field _ _ 1 (by omega)]; exact hc 1 _ rfl, by rw [← add_field _ _ 2 (by omega)]; exact hc 2 _ rfl⟩
end Go.Proofs.Ytgjcffjicbmkhaa.MemO
end

section
-- PRINTED by print.py (a twelfth state) out of the translation. Not trusted: Lean checks it.
namespace Go.Proofs.Ytgjcffjicbmkhaa.PF
open Go.RowKit Go.Proofs.YtgjcffjicbmkhaaW.PrintWords Go.Proofs.YtgjcffjicbmkhaaW.PrintLast Go.Proofs.YtgjcffjicbmkhaaW.PrintMore
attribute [local go_sem] max2_int min2_int max_two min_two max_three min_three max_four min_four   -- for this text's walks alone
set_option linter.unusedVariables false
set_option linter.unusedSimpArgs false

/-! ### larderlaw2_sameBytes: function 45 -/
def larderlaw2_sameBytes.f (l0 : List Int) (l1 : List Int) : Option (Bool) := some ((strOfNums l0).toList == (strOfNums l1).toList)
set_option maxHeartbeats 8000000 in
set_option maxRecDepth 100000 in
theorem larderlaw2_sameBytes.calls (A0 : Option Addr) (c0 : Nat) (l0 : List Int) (A1 : Option Addr) (c1 : Nat) (l1 : List Int) (r : Bool) (w : World) (hr0 : Kd.C (Kd.int .u8) w A0 l0.length l0) (hc0 : l0.length ≤ c0) (hr1 : Kd.C (Kd.int .u8) w A1 l1.length l1) (hc1 : l1.length ≤ c1) (h : larderlaw2_sameBytes.f l0 l1 = some r) :
    Calls Try.prog 45 #[.slice A0 l0.length c0, .slice A1 l1.length c1] w fun e w' => e = .returned (.bool r) ∧ Drawn0 w w' := by
  have HR0 := Aside0.mk hr0
  have HC0 := Aside0.mk hc0
  clear hr0 hc0
  have HR1 := Aside0.mk hr1
  have HC1 := Aside0.mk hc1
  clear hr1 hc1
  have H : (some ((strOfNums l0).toList == (strOfNums l1).toList)) = some r := h
  clear h
  obtain rfl := Option.some.inj H
  have hcv3 := Kd.C_string (P := Try.prog) (A := A0) (c := c0) Try.underlying67 Try.underlying5 Try.underlying9 HR0.out
  have hcv4 := Kd.C_string (P := Try.prog) (A := A1) (c := c1) Try.underlying67 Try.underlying5 Try.underlying9 HR1.out
  go_enter Try.func45, Try.ntmps45
  go_wp2
  go_ret
  exact ⟨by first | rfl | (simp; done) | (simp [*]; done), by repeat (first | exact Drawn0.refl _ | apply Drawn0.step)⟩

end Go.Proofs.Ytgjcffjicbmkhaa.PF
end

section
/- larderlaw2.rowBytes walked: an object whose bytes are those of a row. -/
namespace Go.Proofs.Ytgjcffjicbmkhaa.RowB
open Go Go.RowKit Go.Proofs.YtgjcffjicbmkhaaW.PrintWords Go.Proofs.YtgjcffjicbmkhaaW.PrintLast Go.Proofs.YtgjcffjicbmkhaaW.PrintMore Go.Proofs.Ytgjcffjicbmkhaa.PF Go.Proofs.Ytgjcffjicbmkhaa.RowU Go.Proofs.Ytgjcffjicbmkhaa.ArS Go.Proofs.Ytgjcffjicbmkhaa.ArM Go.Proofs.Ytgjcffjicbmkhaa.ArW Go.Proofs.Ytgjcffjicbmkhaa.ArX Go.Proofs.Ytgjcffjicbmkhaa.ArY Go.Proofs.Ytgjcffjicbmkhaa.ArZ Go.Proofs.Ytgjcffjicbmkhaa.GenM Go.Proofs.Ytgjcffjicbmkhaa.ArV Go.Proofs.Ytgjcffjicbmkhaa.ArB Go.Proofs.Ytgjcffjicbmkhaa.ArC
set_option linter.unusedVariables false
set_option maxRecDepth 100000

/-- n bytes from one on, as whole numbers. -/
def intsOf (f : Nat → Nat) (from_ n : Nat) : List Int := (List.range n).map fun j => (f (from_ + j) : Int)
theorem intsOf_len (f : Nat → Nat) (from_ n : Nat) : (intsOf f from_ n).length = n := by simp [intsOf]
theorem reads_of {W : World} {g cap m : Nat} {f : Nat → Nat} (h : GenAt 5 W g cap (bytesV f m m)) (off n : Nat) (hn : off + n ≤ m) (hm : m ≤ 100000000) (A : Option Addr) (hA : 0 < n → A = some ⟨g, off, none⟩) : Kd.C (Kd.int .u8) W A (intsOf f off n).length (intsOf f off n) := by
  rw [intsOf_len]
  refine ⟨intsOf_len f off n, by omega, fun h0 => ⟨_, hA h0, fun j p hp => ⟨[.int .u8 p], rfl, rfl, fun i u hu => ?_⟩⟩⟩
  have hjn : j < n := by have := (List.getElem?_eq_some_iff.1 hp).1; rw [intsOf_len] at this; exact this
  have hp2 : p = (f (off + j) : Int) := by
    unfold intsOf at hp
    rw [List.getElem?_map, List.getElem?_range hjn] at hp
    exact (Option.some.inj hp).symm
  cases i with
  | zero =>
    simp at hu
    subst hu
    have := h.get (off + j) _ (bytesV_get f m m (off + j) (by omega))
    rw [if_pos (by omega)] at this
    rw [hp2, Addr.add_lit, show (Kd.int IntKind.u8).sz = 1 from rfl]
    simpa using this
  | succ i => simp at hu
theorem same_calls (l : List Int) (A0 A1 : Option Addr) (c0 c1 n : Nat) (hl : l.length = n) (w : World) (h0 : Kd.C (Kd.int .u8) w A0 l.length l) (h1 : Kd.C (Kd.int .u8) w A1 l.length l) (hc0 : n ≤ c0) (hc1 : n ≤ c1) :
    Calls Try.prog 45 #[.slice A0 n c0, .slice A1 n c1] w fun e w' => e = .returned (.bool true) ∧ Below w.heap.size w w' := by
  subst hl
  exact (larderlaw2_sameBytes.calls A0 c0 l A1 c1 l true w h0 hc0 h1 hc1 (by unfold larderlaw2_sameBytes.f; simp)).mono fun e w' ⟨he, hd⟩ => ⟨he, hd.below⟩
/-- One step of joining bytes. -/
theorem join_step (x i : Nat) (hx : x < 18446744073709551616) (hi : i < 8) : bits BinOp.or IntKind.u64 (IntKind.u64.wrap (((x / 2 ^ (8 * (i + 1)) : Nat) : Int) * 256)) ((NumB.byteAt x (8 * i) : Nat) : Int) = ((x / 2 ^ (8 * i) : Nat) : Int) := by
  have hp : 2 ^ (8 * (i + 1)) = 256 * 2 ^ (8 * i) := by rw [show 8 * (i + 1) = 8 + 8 * i by omega, Nat.pow_add]
  have hb := NumB.byte_lt x (8 * i)
  have h1 : x / 2 ^ (8 * (i + 1)) = x / 2 ^ (8 * i) / 256 := by rw [hp, Nat.mul_comm, ← Nat.div_div_eq_div_mul]
  have h2 : x / 2 ^ (8 * i) < 18446744073709551616 := Nat.lt_of_le_of_lt (Nat.div_le_self _ _) hx
  unfold NumB.byteAt at *
  rw [h1]
  generalize x / 2 ^ (8 * i) = y at *
  rw [show IntKind.u64.wrap (((y / 256 : Nat) : Int) * 256) = ((y / 256 * 256 : Nat) : Int) by rw [IntKind.wrap_u64]; omega]
  rw [NumA.or_u64 8 ((y / 256 * 256 : Nat) : Int) ((y % 256 : Nat) : Int) (by omega) (by rw [show (2 : Int) ^ 8 = 256 from rfl]; omega) (by omega) (by omega) (by rw [show (2 : Int) ^ 8 = 256 from rfl]; omega) (by omega)]
  omega
/-- What rowBytes is handed. -/
structure RowSt (W0 wr : World) (g gw gf sz gr m : Nat) (l : List Ob) (o : Ob) : Prop where
  ar : ArAt wr g gw gf sz l
  row : GenAt 5 wr gr m (bytesV (Ob.byte o) m m)
  below : Below W0.heap.size W0 wr
theorem RowSt.move {W0 wr w' : World} {g gw gf sz gr m : Nat} {l : List Ob} {o : Ob} (h : RowSt W0 wr g gw gf sz gr m l o) (hb : Below wr.heap.size wr w') : RowSt W0 w' g gw gf sz gr m l o :=
  ⟨h.ar.below hb, h.row.upd (S := none_) (Upd.of_below hb) (fun h => h), below_next h.below hb⟩
set_option maxHeartbeats 8000000 in
theorem rowBytes.calls {W : World} {g gw gf sz gr : Nat} {l : List Ob} {k : Nat} {o : Ob} (p r s m cut : Nat) (hS : RowSt W W g gw gf sz gr m l o) (h : l[k]? = some o) (hg : o.gone = none) (hp : p = place l k) (h1 : o.refs = r) (h2 : o.fields.length = r + s) (hs48 : s ≤ 100) (hm : m = 8 * s) (hcut : cut ≤ m) :
    Calls Try.prog 27 #[.pointer (some ⟨g, 0, none⟩), .int .i64 (p : Int), .int .i64 (r : Int), .slice (some ⟨gr, 0, none⟩) m m, .int .i64 (cut : Int)] W fun e w' => e = .returned (.bool true) ∧ Below W.heap.size W w' := by
  have HBy := Aside0.mk (fun (W2 : World) (hA : ArAt W2 g gw gf sz l) (f n : Nat) (hn : f + n ≤ 8 * s) => bytes.yes hA h hg p hp r s h1 h2 f n hn)
  have HGet := Aside0.mk (fun (W2 : World) (hA : ArAt W2 g gw gf sz l) (i : Nat) (hi : i < o.fields.length) => get_yes hA h hg i (o.fields.getD i 0) (by rw [List.getD_eq_getElem?_getD, List.getElem?_eq_getElem hi]; rfl) p hp)
  obtain ⟨hok, _, _, hrb⟩ := raws_lt hS.ar h
  have hrb : r ≤ 1048576 := by omega
  have HOK := Aside0.mk (And.intro hok (And.intro h1 (And.intro h2 hm)))
  have HS := Aside0.mk hS
  have hmb : m ≤ 800 := by omega
  obtain ⟨z, hz⟩ : ∃ z, z = m - cut := ⟨_, rfl⟩
  have HZ := Aside0.mk hz
  have hcutm : (cut : Int) ≤ m := by omega
  have B1 : Aside0 (∀ W2, ArAt W2 g gw gf sz l → Calls Try.prog 44 #[.pointer (some ⟨g, 0, none⟩), .int .i64 (p : Int), .int .i64 0, .int .i64 (m : Int)] W2 fun e' w' => ∃ gb, e' = .returned (.tuple #[.slice (some ⟨gb, 0, none⟩) m m, .int .i64 0]) ∧ ArC.Told W2 w' o 0 m gb) := ⟨fun W2 hA => HBy.out W2 hA 0 m (by omega)⟩
  have B2 : Aside0 (∀ W2, ArAt W2 g gw gf sz l → Calls Try.prog 44 #[.pointer (some ⟨g, 0, none⟩), .int .i64 (p : Int), .int .i64 0, .int .i64 (cut : Int)] W2 fun e' w' => ∃ gb, e' = .returned (.tuple #[.slice (some ⟨gb, 0, none⟩) cut cut, .int .i64 0]) ∧ ArC.Told W2 w' o 0 cut gb) := ⟨fun W2 hA => HBy.out W2 hA 0 cut (by omega)⟩
  have B3 : Aside0 (∀ W2, ArAt W2 g gw gf sz l → Calls Try.prog 44 #[.pointer (some ⟨g, 0, none⟩), .int .i64 (p : Int), .int .i64 (cut : Int), .int .i64 (z : Int)] W2 fun e' w' => ∃ gb, e' = .returned (.tuple #[.slice (some ⟨gb, 0, none⟩) z z, .int .i64 0]) ∧ ArC.Told W2 w' o cut z gb) := ⟨fun W2 hA => HBy.out W2 hA cut z (by omega)⟩
  have HE := Aside0.mk (NumB.dif_i (m : Int) cut z (by omega) (by omega))
  clear HBy h hg hp h1 h2 hS hok hm hz
  go_enter Try.func27, Try.ntmps27
  go_wp2_with fail
  refine (B1.out _ HS.out.ar).mono ?_
  rintro e w2 ⟨g1, rfl, t1⟩
  have T1 := Aside0.mk t1
  have HS2 := Aside0.mk (HS.out.move t1.below)
  clear t1 B1
  go_wp2_with fail
  refine (B2.out _ HS2.out.ar).mono ?_
  rintro e w3 ⟨g2, rfl, t2⟩
  have T2 := Aside0.mk t2
  have HS3 := Aside0.mk (HS2.out.move t2.below)
  have T1b := Aside0.mk (T1.out.at_.upd (S := none_) (Upd.of_below t2.below) (fun h => h))
  clear t2 B2
  obtain ⟨e1, f1⟩ := HE.out
  go_wp2_with fail
  refine (B3.out _ HS3.out.ar).mono ?_
  rintro e w4 ⟨g3, rfl, t3⟩
  have T3 := Aside0.mk t3
  have HS4 := Aside0.mk (HS3.out.move t3.below)
  have T1c := Aside0.mk (T1b.out.upd (S := none_) (Upd.of_below t3.below) (fun h => h))
  have T2c := Aside0.mk (T2.out.at_.upd (S := none_) (Upd.of_below t3.below) (fun h => h))
  clear t3 B3
  go_wp2_with fail
  refine (num.calls _ _).mono ?_
  rintro e w5 ⟨rfl, rfl⟩
  go_wp2_with fail
  refine (num.calls _ _).mono ?_
  rintro e w6 ⟨rfl, rfl⟩
  go_wp2_with fail
  refine (num.calls _ _).mono ?_
  rintro e w7 ⟨rfl, rfl⟩
  go_wp2_with fail
  have hf1 : (fun i => Ob.byte o (0 + i)) = Ob.byte o := funext fun i => by rw [Nat.zero_add]
  have T1d := T1c.out
  rw [hf1] at T1d
  have T2d := T2c.out
  rw [hf1] at T2d
  have hmb' : m ≤ 100000000 := by clear e1 f1; omega
  have S1 := Aside0.mk (fun w => same_calls (intsOf (Ob.byte o) 0 m) (some ⟨g1, 0, none⟩) (some ⟨gr, 0, none⟩) m m m (intsOf_len _ _ _) w)
  have R1 := Aside0.mk (And.intro (reads_of T1d 0 m (by clear e1 f1; omega) hmb' _ (fun _ => rfl)) (reads_of HS4.out.row 0 m (by clear e1 f1; omega) hmb' _ (fun _ => rfl)))
  have S2 := Aside0.mk (fun w => same_calls (intsOf (Ob.byte o) 0 cut) (some ⟨g2, 0, none⟩) (some ⟨gr, 0, none⟩) cut m cut (intsOf_len _ _ _) w)
  have R2 := Aside0.mk (And.intro (reads_of T2d 0 cut (by clear e1 f1; omega) (by clear e1 f1; omega) _ (fun _ => rfl)) (reads_of HS4.out.row 0 cut (by clear e1 f1; omega) hmb' _ (fun _ => rfl)))
  have hi3 : intsOf (fun i => Ob.byte o (cut + i)) 0 z = intsOf (Ob.byte o) cut z := by unfold intsOf; simp
  have r3 := reads_of T3.out.at_ 0 z (by clear e1 f1; omega) (by have := HZ.out; clear e1 f1; omega) (some ⟨g3, 0, none⟩) (fun _ => rfl)
  rw [hi3] at r3
  have S3 := Aside0.mk (fun A w => same_calls (intsOf (Ob.byte o) cut z) (some ⟨g3, 0, none⟩) A z z z (intsOf_len _ _ _) w)
  have R3 := Aside0.mk (And.intro r3 (fun A hA => reads_of HS4.out.row cut z (by have := HZ.out; clear e1 f1; omega) hmb' A hA))
  have HZ0 : Aside0 (m = cut → ¬ 0 < z) := ⟨fun h => by have := HZ.out; clear e1 f1; omega⟩
  clear T1d T2d hi3 r3 hf1 T1 T1b T1c T2 T2c T3 HS HS2 HS3
  go_wp2_with fail
  refine (S1.out _ R1.out.1 R1.out.2 (Nat.le_refl _) (Nat.le_refl _)).mono ?_
  rintro e w8 ⟨rfl, hb⟩
  have HS5 := Aside0.mk (HS4.out.move hb)
  have R2b := Aside0.mk (And.intro (Kd.C_below R2.out.1 hb) (Kd.C_below R2.out.2 hb))
  have R3b := Aside0.mk (And.intro (Kd.C_below R3.out.1 hb) (fun A hA => Kd.C_below (R3.out.2 A hA) hb))
  clear hb S1 R1 R2 R3
  go_wp2_with fail
  refine (S2.out _ R2b.out.1 R2b.out.2 (Nat.le_refl _) hcut).mono ?_
  rintro e w9 ⟨rfl, hb⟩
  have HS6 := Aside0.mk (HS5.out.move hb)
  have R3c := Aside0.mk (And.intro (Kd.C_below R3b.out.1 hb) (fun A hA => Kd.C_below (R3b.out.2 A hA) hb))
  clear hb S2 R2b R3b
  by_cases hcm : m = cut
  · have hz0 : z = 0 := by have := HZ.out; clear e1 f1; omega
    subst hz0
    subst hcm
    go_wp2_with fail
    refine (S3.out _ _ R3c.out.1 (R3c.out.2 _ (fun h0 => absurd h0 (Nat.lt_irrefl 0))) (Nat.le_refl _) (Nat.le_refl _)).mono ?_
    rintro e w10 ⟨rfl, hb⟩
    have HS7 := Aside0.mk (HS6.out.move hb)
    clear hb S3 R3c e1 f1
    go_wp2_with fail
    go_loopw [17] (fun i wr => ∃ k2 : Nat, k2 ≤ s ∧ i = .int .i64 k2 ∧ Aside0 (RowSt W wr g gw gf sz gr m l o)) (fun i _ => s - (intOf i).toNat)
    case atStart => exact ⟨0, Nat.zero_le _, rfl, HS7⟩
    case round =>
      obtain ⟨q, hq, rfl, HI⟩ := hrel
      clear HS7
      rename World => wr
      obtain ⟨y, hy⟩ : ∃ y, y = 8 * q := ⟨_, rfl⟩
      have HY := Aside0.mk hy
      have HEY := Aside0.mk (NumB.mul_i 8 (q : Int) y (by omega) (by omega))
      by_cases hqs : q < s
      · have hym : y < m := by have := HOK.out.2.2.2; omega
        have hym' : (y : Int) < m := by omega
        have HG := Aside0.mk (fun W2 hA => HGet.out W2 hA (r + q) (by rw [HOK.out.2.2.1]; omega))
        obtain ⟨x, hx⟩ : ∃ x, x = o.fields.getD (r + q) 0 := ⟨_, rfl⟩
        have HX := Aside0.mk (And.intro hx (show x < 18446744073709551616 by rw [hx]; exact getD_lt HOK.out.1 _))
        rw [← hx] at HG
        obtain ⟨rq, hrq⟩ : ∃ rq, rq = r + q := ⟨_, rfl⟩
        rw [← hrq] at HG
        have HRQ := Aside0.mk hrq
        have HER := Aside0.mk (NumB.sum_i (r : Int) (q : Int) rq (by omega) (by omega))
        have HQm : Aside0 (y + 7 < m ∧ ∀ i, i < 8 → Ob.byte o (y + i) = NumB.byteAt x (8 * i)) := ⟨by have := HOK.out.2.2.2; omega, fun i hi => by
          unfold Ob.byte
          rw [HX.out.1, HOK.out.2.1, hy, show (8 * q + i) / 8 = q by omega, show (8 * q + i) % 8 = i by omega]⟩
        clear hx hy hrq
        obtain ⟨e1, f1⟩ := HEY.out
        obtain ⟨e2, f2⟩ := HER.out
        go_wp2_with fail
        refine (HG.out _ HI.out.ar).mono ?_
        rintro e w11 ⟨rfl, hb⟩
        have HI2 := Aside0.mk (HI.out.move hb)
        clear hb HG e2 f2
        go_wp2_with fail
        go_loopw [20, 21] (fun v j wr => ∃ i : Nat, i ≤ 8 ∧ v = .int .u64 ((x / 2 ^ (8 * i) : Nat) : Int) ∧ j = .int .i64 ((i : Int) - 1) ∧ Aside0 (RowSt W wr g gw gf sz gr m l o)) (fun _ j _ => ((intOf j) + 1).toNat)
        case atStart => exact ⟨8, Nat.le_refl _, by rw [Nat.div_eq_of_lt (by have := HX.out.2; exact this)]; rfl, rfl, HI2⟩
        case round =>
          obtain ⟨i, hi, rfl, rfl, HI3⟩ := hrel
          clear HI2
          rename World => wr3
          by_cases hi0 : i = 0
          · subst hi0
            go_wp2_with fail
            refine (num.calls _ _).mono ?_
            rintro e w12 ⟨rfl, rfl⟩
            have hxx : x / 2 ^ (8 * 0) = x := by simp
            rw [hxx]
            have hbe : ((x : Int) == (x : Int)) = true := by simp
            go_wp2_with fail
            go_roundw
            case rel => exact ⟨q + 1, by omega, by go_num, HI3⟩
            case measure => simp [intOf]; omega
          · obtain ⟨i', rfl⟩ : ∃ i', i = i' + 1 := ⟨i - 1, by omega⟩
            have hje : ((i' + 1 : Nat) : Int) - 1 = (i' : Int) := by omega
            rw [hje]
            obtain ⟨yi, hyi⟩ : ∃ yi, yi = y + i' := ⟨_, rfl⟩
            have hym3 : yi < m := by have := HQm.out.1; clear e1 f1; omega
            have hym4 : (yi : Int) < m := by clear e1 f1; omega
            have hi8 : i' < 8 := by clear e1 f1; omega
            have hcb := HI3.out.row.get yi _ (bytesV_get (Ob.byte o) m m yi hym3)
            rw [if_pos hym3, hyi, HQm.out.2 i' hi8, ← hyi] at hcb
            have hjs := join_step x i' HX.out.2 hi8
            have hbl := NumB.byte_lt x (8 * i')
            have hcv : IntKind.u64.wrap ((NumB.byteAt x (8 * i') : Nat) : Int) = ((NumB.byteAt x (8 * i') : Nat) : Int) := by rw [IntKind.wrap_u64]; omega
            obtain ⟨e3, f3⟩ := NumB.sum_i (y : Int) (i' : Int) yi (by clear e1 f1; omega) (by clear e1 f1; omega)
            generalize x / 2 ^ (8 * (i' + 1)) = w1 at *
            generalize NumB.byteAt x (8 * i') = b1 at *
            generalize hx0 : x / 2 ^ (8 * i') = w0 at *
            clear hyi hbl
            go_wp2_with fail
            clear e1 f1 e3 f3
            go_roundw
            case rel => exact ⟨i', by omega, by rw [hx0], by go_num, HI3⟩
            case measure => simp [intOf]
      · have hym' : ¬ (y : Int) < m := by have := HOK.out.2.2.2; omega
        clear hy
        obtain ⟨e1, f1⟩ := HEY.out
        go_wp2_with fail
        go_ret
        exact ⟨rfl, HI.out.below⟩
  · have hmz : m - cut = z := HZ.out.symm
    go_wp2_with fail
    refine (S3.out _ _ R3c.out.1 (R3c.out.2 _ (fun _ => rfl)) (Nat.le_refl _) (Nat.le_refl _)).mono ?_
    rintro e w10 ⟨rfl, hb⟩
    have HS7 := Aside0.mk (HS6.out.move hb)
    clear hb S3 R3c e1 f1 hmz
    go_wp2_with fail
    go_loopw [17] (fun i wr => ∃ k2 : Nat, k2 ≤ s ∧ i = .int .i64 k2 ∧ Aside0 (RowSt W wr g gw gf sz gr m l o)) (fun i _ => s - (intOf i).toNat)
    case atStart => exact ⟨0, Nat.zero_le _, rfl, HS7⟩
    case round =>
      obtain ⟨q, hq, rfl, HI⟩ := hrel
      clear HS7
      rename World => wr
      obtain ⟨y, hy⟩ : ∃ y, y = 8 * q := ⟨_, rfl⟩
      have HY := Aside0.mk hy
      have HEY := Aside0.mk (NumB.mul_i 8 (q : Int) y (by omega) (by omega))
      by_cases hqs : q < s
      · have hym : y < m := by have := HOK.out.2.2.2; omega
        have hym' : (y : Int) < m := by omega
        have HG := Aside0.mk (fun W2 hA => HGet.out W2 hA (r + q) (by rw [HOK.out.2.2.1]; omega))
        obtain ⟨x, hx⟩ : ∃ x, x = o.fields.getD (r + q) 0 := ⟨_, rfl⟩
        have HX := Aside0.mk (And.intro hx (show x < 18446744073709551616 by rw [hx]; exact getD_lt HOK.out.1 _))
        rw [← hx] at HG
        obtain ⟨rq, hrq⟩ : ∃ rq, rq = r + q := ⟨_, rfl⟩
        rw [← hrq] at HG
        have HRQ := Aside0.mk hrq
        have HER := Aside0.mk (NumB.sum_i (r : Int) (q : Int) rq (by omega) (by omega))
        have HQm : Aside0 (y + 7 < m ∧ ∀ i, i < 8 → Ob.byte o (y + i) = NumB.byteAt x (8 * i)) := ⟨by have := HOK.out.2.2.2; omega, fun i hi => by
          unfold Ob.byte
          rw [HX.out.1, HOK.out.2.1, hy, show (8 * q + i) / 8 = q by omega, show (8 * q + i) % 8 = i by omega]⟩
        clear hx hy hrq
        obtain ⟨e1, f1⟩ := HEY.out
        obtain ⟨e2, f2⟩ := HER.out
        go_wp2_with fail
        refine (HG.out _ HI.out.ar).mono ?_
        rintro e w11 ⟨rfl, hb⟩
        have HI2 := Aside0.mk (HI.out.move hb)
        clear hb HG e2 f2
        go_wp2_with fail
        go_loopw [20, 21] (fun v j wr => ∃ i : Nat, i ≤ 8 ∧ v = .int .u64 ((x / 2 ^ (8 * i) : Nat) : Int) ∧ j = .int .i64 ((i : Int) - 1) ∧ Aside0 (RowSt W wr g gw gf sz gr m l o)) (fun _ j _ => ((intOf j) + 1).toNat)
        case atStart => exact ⟨8, Nat.le_refl _, by rw [Nat.div_eq_of_lt (by have := HX.out.2; exact this)]; rfl, rfl, HI2⟩
        case round =>
          obtain ⟨i, hi, rfl, rfl, HI3⟩ := hrel
          clear HI2
          rename World => wr3
          by_cases hi0 : i = 0
          · subst hi0
            go_wp2_with fail
            refine (num.calls _ _).mono ?_
            rintro e w12 ⟨rfl, rfl⟩
            have hxx : x / 2 ^ (8 * 0) = x := by simp
            rw [hxx]
            have hbe : ((x : Int) == (x : Int)) = true := by simp
            go_wp2_with fail
            go_roundw
            case rel => exact ⟨q + 1, by omega, by go_num, HI3⟩
            case measure => simp [intOf]; omega
          · obtain ⟨i', rfl⟩ : ∃ i', i = i' + 1 := ⟨i - 1, by omega⟩
            have hje : ((i' + 1 : Nat) : Int) - 1 = (i' : Int) := by omega
            rw [hje]
            obtain ⟨yi, hyi⟩ : ∃ yi, yi = y + i' := ⟨_, rfl⟩
            have hym3 : yi < m := by have := HQm.out.1; clear e1 f1; omega
            have hym4 : (yi : Int) < m := by clear e1 f1; omega
            have hi8 : i' < 8 := by clear e1 f1; omega
            have hcb := HI3.out.row.get yi _ (bytesV_get (Ob.byte o) m m yi hym3)
            rw [if_pos hym3, hyi, HQm.out.2 i' hi8, ← hyi] at hcb
            have hjs := join_step x i' HX.out.2 hi8
            have hbl := NumB.byte_lt x (8 * i')
            have hcv : IntKind.u64.wrap ((NumB.byteAt x (8 * i') : Nat) : Int) = ((NumB.byteAt x (8 * i') : Nat) : Int) := by rw [IntKind.wrap_u64]; omega
            obtain ⟨e3, f3⟩ := NumB.sum_i (y : Int) (i' : Int) yi (by clear e1 f1; omega) (by clear e1 f1; omega)
            generalize x / 2 ^ (8 * (i' + 1)) = w1 at *
            generalize NumB.byteAt x (8 * i') = b1 at *
            generalize hx0 : x / 2 ^ (8 * i') = w0 at *
            clear hyi hbl
            go_wp2_with fail
            clear e1 f1 e3 f3
            go_roundw
            case rel => exact ⟨i', by omega, by rw [hx0], by go_num, HI3⟩
            case measure => simp [intOf]
      · have hym' : ¬ (y : Int) < m := by have := HOK.out.2.2.2; omega
        clear hy
        obtain ⟨e1, f1⟩ := HEY.out
        go_wp2_with fail
        go_ret
        exact ⟨rfl, HI.out.below⟩
end Go.Proofs.Ytgjcffjicbmkhaa.RowB
end

section
/- ArenaBytes' parameter, opened; what its walk keeps. -/
namespace Go.Proofs.Ytgjcffjicbmkhaa.BytO
open Go Go.RowKit Go.Proofs.YtgjcffjicbmkhaaW.PrintWords Go.Proofs.YtgjcffjicbmkhaaW.PrintLast Go.Proofs.YtgjcffjicbmkhaaW.PrintMore Go.Proofs.Ytgjcffjicbmkhaa.Open Go.Proofs.Ytgjcffjicbmkhaa.PF Go.Proofs.Ytgjcffjicbmkhaa.MemO Go.Proofs.Ytgjcffjicbmkhaa.RowU Go.Proofs.Ytgjcffjicbmkhaa.ArS Go.Proofs.Ytgjcffjicbmkhaa.ArM Go.Proofs.Ytgjcffjicbmkhaa.ArW Go.Proofs.Ytgjcffjicbmkhaa.ArX Go.Proofs.Ytgjcffjicbmkhaa.ArY Go.Proofs.Ytgjcffjicbmkhaa.ArZ Go.Proofs.Ytgjcffjicbmkhaa.GenM Go.Proofs.Ytgjcffjicbmkhaa.ArV Go.Proofs.Ytgjcffjicbmkhaa.ArB Go.Proofs.Ytgjcffjicbmkhaa.ArC Go.Proofs.Ytgjcffjicbmkhaa.RowB Go.Proofs.Ytgjcffjicbmkhaa.TakS Go.Proofs.Ytgjcffjicbmkhaa.FillL
set_option linter.unusedVariables false
set_option maxRecDepth 100000

def gBytes (l : List Int) : Prop := GoodL 1 (fun x => (Lit.int .u8 x).wf = true) l
theorem o_u8 : Opens Try.prog 5 (Kd.int .u8) (fun x => (Lit.int .u8 x).wf = true) := opens_int Try.underlying5 (by kernel_rfl)
theorem o_bytes : Opens Try.prog 67 (Kd.slice 5 (Kd.int .u8)) gBytes := opens_slice Try.underlying67 (by kernel_rfl) (by kernel_rfl) o_u8
theorem wf_u8 {x : Int} (h : (Lit.int .u8 x).wf = true) : 0 ≤ x ∧ x < 256 := by
  simp [Lit.wf, IntKind.min, IntKind.max, IntKind.signed, IntKind.bits] at h; omega
/-- At, D -/
def kP : Kd (Int × List Int) := Kd.pair (Kd.int .i64) (Kd.slice 5 (Kd.int .u8))
theorem o_piece : Opens Try.prog 69 kP (fun y => gI y.1 ∧ gBytes y.2) :=
  opens_struct Try.underlying69 rfl (by kernel_rfl) (fields2 rfl o_int (fields1 rfl o_bytes))
/-- Refs, Raws, Pieces, Cut -/
def kRow : Kd (Int × Int × List (Int × List Int) × Int) := Kd.pair (Kd.int .i64) (Kd.pair (Kd.int .i64) (Kd.pair (Kd.slice 69 kP) (Kd.int .i64)))
def gRow (y : Int × Int × List (Int × List Int) × Int) : Prop := gI y.1 ∧ gI y.2.1 ∧ GoodL 32 (fun y => gI y.1 ∧ gBytes y.2) y.2.2.1 ∧ gI y.2.2.2
theorem o_row : Opens Try.prog 66 kRow gRow :=
  opens_struct Try.underlying66 rfl (by kernel_rfl) (fields2 rfl o_int (fields2 rfl o_int (fields2 rfl (opens_slice Try.underlying64 (by kernel_rfl) (by kernel_rfl) o_piece) (fields1 rfl o_int))))
theorem kP_open {w : World} {x : Int × List Int} {cs : List Value} (h : kP.K w x cs) : ∃ A c, cs = [.int .i64 x.1, .slice A x.2.length c] ∧ x.2.length ≤ c ∧ Kd.C (Kd.int .u8) w A x.2.length x.2 := by
  obtain ⟨c1, c2, rfl, h1, A, c, rfl, h2, h3⟩ := h
  obtain rfl : c1 = _ := h1
  exact ⟨A, c, rfl, h2, h3⟩
/-- One piece's cells. -/
theorem piece_at {W : World} {A : Option Addr} {l : List (Int × List Int)} (h : Kd.C kP W A l.length l) (i : Nat) (x : Int × List Int) (hx : l[i]? = some x) : ∃ ad B c, A = some ad ∧ W.cell? (ad.add (i * 2)) = some (.int .i64 x.1) ∧ W.cell? ⟨(ad.add (i * 2)).block, (ad.add (i * 2)).off + 1, none⟩ = some (.slice B x.2.length c) ∧ x.2.length ≤ c ∧ Kd.C (Kd.int .u8) W B x.2.length x.2 := by
  have hi := (List.getElem?_eq_some_iff.1 hx).1
  obtain ⟨ad, c, e, _, hK, hc0⟩ := Kd.C_get h (0, []) i (by omega) (by omega)
  have hc : ∀ j u, c[j]? = some u → W.cell? (ad.add (i * 2 + j)) = some u := hc0
  have hd : l.getD ((i : Int)).toNat (0, []) = x := by rw [Int.toNat_natCast, List.getD_eq_getElem?_getD, hx]; rfl
  rw [hd] at hK
  obtain ⟨B, c', rfl, h2, h3⟩ := kP_open hK
  exact ⟨ad, B, c', e, hc 0 _ rfl, by rw [← add_field _ _ 1 (by omega)]; exact hc 1 _ rfl, h2, h3⟩
/-- Bytes as naturals. -/
theorem byte_nat (l : List Int) (h : ∀ x ∈ l, 0 ≤ x ∧ x < 256) : ∃ bs : List Nat, l = bs.map (fun x : Nat => (x : Int)) ∧ ∀ c ∈ bs, c < 256 := by
  induction l with
  | nil => exact ⟨[], rfl, fun c hc => by simp at hc⟩
  | cons x l ih =>
    obtain ⟨bs, hb, hc⟩ := ih (fun y hy => h y (List.mem_cons_of_mem _ hy))
    obtain ⟨h0, h1⟩ := h x (List.mem_cons_self ..)
    obtain ⟨n, rfl⟩ := Int.eq_ofNat_of_zero_le h0
    refine ⟨n :: bs, by rw [hb]; rfl, fun c hc' => ?_⟩
    rcases List.mem_cons.1 hc' with rfl | h2
    · omega
    · exact hc c h2
theorem byte_cell {W : World} {A : Option Addr} {bs : List Nat} (h : Kd.C (Kd.int .u8) W A (bs.map (fun x : Nat => (x : Int))).length (bs.map (fun x : Nat => (x : Int)))) (i x : Nat) (hx : bs[i]? = some x) : ∃ ad, A = some ad ∧ W.cell? (ad.add i) = some (.int .u8 (x : Int)) := by
  have hi := (List.getElem?_eq_some_iff.1 hx).1
  obtain ⟨ad, c, e, _, hK, hc0⟩ := Kd.C_get h 0 i (by omega) (by rw [List.length_map]; omega)
  have hd : (bs.map (fun x : Nat => (x : Int))).getD ((i : Int)).toNat 0 = (x : Int) := by rw [Int.toNat_natCast, List.getD_eq_getElem?_getD, List.getElem?_map, hx]; rfl
  rw [hd] at hK
  have hc : ∀ j u, c[j]? = some u → W.cell? (ad.add (i * 1 + j)) = some u := hc0
  have hK' : c = [.int .u8 (x : Int)] := hK
  subst hK'
  have := hc 0 _ rfl
  rw [Nat.mul_one, Nat.add_zero] at this
  exact ⟨ad, e, this⟩
/-- copy of bytes onto a block of bytes. -/
theorem oper_copyB {o : Oper} {a : Act} {K : Act → World → Prop} {Q : Exit → Act → World → Prop} (w : World) (d s : Operand)
    (hop : o.op = Op.call { callee := Callee.builtin Builtin.copy, args := #[d, s], argTypes := #[67, 67] })
    (dp : Option Addr) (g off dLen dCap : Nat) (hd : a.eval d = .slice dp dLen dCap) (sp : Option Addr) (sLen sCap : Nat) (hs : a.eval s = .slice sp sLen sCap)
    (cap : Nat) (l : List Value) (hw : GenAt 5 w g cap l) (l2 : List Value) (hl2 : l2.length = sLen) (hle : sLen ≤ dLen) (hfit : off + dLen ≤ l.length) (hc : ∀ j y, l2[j]? = some y → ∃ ad, sp = some ad ∧ w.cell? (ad.add j) = some y) (h1 : ∀ y ∈ l2, y.oneCell' = true) (hdp : 0 < sLen → dp = some ⟨g, off, none⟩)
    (hK : ∀ w', GenAt 5 w' g cap (l.take off ++ l2 ++ l.drop (off + sLen)) → Upd (fun k => k = g) w w' → K (a.put o.dst (.int .i64 (sLen : Int))) w') :
    Oper.wp Try.prog o a w K Q := by
  have hsz : (Try.prog.info? 5).map (·.size) = some 1 := by kernel_rfl
  by_cases h0 : sLen = 0
  · subst h0
    obtain rfl : l2 = [] := List.eq_nil_of_length_eq_zero hl2
    have hrun := run_copy_none (P := Try.prog) w 67 67 o.type 5 dp sp dLen dCap 0 sCap Try.underlying67 hsz (Nat.zero_min _)
    unfold Oper.wp
    simp [execOp, hop, resolve, invoke, builtin, hd, hs, hrun, Result.andThen]
    refine hK w ?_ (Upd.refl _ w)
    simpa using hw
  · obtain rfl := hdp (by omega)
    obtain ⟨y0, hy0⟩ : ∃ y, l2[0]? = some y := ⟨_, List.getElem?_eq_getElem (by omega)⟩
    obtain ⟨ad, rfl, _⟩ := hc 0 y0 hy0
    obtain ⟨cur, k1, k2, k3, k4, k5⟩ := hw
    have hrun := run_copy_row (P := Try.prog) w 67 67 o.type 5 g off dLen dCap ad sLen sCap cur.toArray 5 l2 Try.underlying67 hsz k1 (by rw [hl2]; exact (Nat.min_eq_left hle).symm) (by
      intro j u hu
      obtain ⟨ad', h1, h2⟩ := hc j u hu
      obtain rfl := Option.some.inj h1
      exact h2) (by simp; omega) h1
    unfold Oper.wp
    simp [execOp, hop, resolve, invoke, builtin, hd, hs, hrun, Result.andThen, goInt, hl2]
    refine hK (w.setRow g (cur.take off ++ (l2 ++ cur.drop (off + sLen))).toArray) ?wa ?up
    case wa =>
      refine ⟨cur.take off ++ (l2 ++ cur.drop (off + sLen)), ?_, ?_, ?_, k4, ?_⟩
      · exact setRow_heap w g _ _ _ _ k1
      · simp; omega
      · simp; omega
      · have e1 : (cur.take off) = (l.take off) := by
          rw [← k5, List.take_take, Nat.min_eq_left (by omega)]
        have e2 : (cur.drop (off + sLen)).take (l.length - (off + sLen)) = (l.drop (off + sLen)) := by
          conv => rhs; rw [← k5, List.drop_take]
        have ll : (l.take off ++ l2 ++ l.drop (off + sLen)).length = off + (sLen + (l.length - (off + sLen))) := by simp; omega
        rw [ll, List.append_assoc, ← e1, ← e2]
        rw [List.take_append, List.take_append]
        congr 1
        · exact List.take_of_length_le (by simp; omega)
        · congr 1
          · exact List.take_of_length_le (by simp; omega)
          · congr 1
            simp
            omega
    case up => exact ⟨rfl, rfl, rfl, by simp [World.setRow], fun k hk hn => setRow_other w g k _ hn⟩
/-- A fresh object's bytes are 0. -/
theorem byte_new (k r s j : Nat) : Ob.byte (newOb k r s) j = 0 := by
  unfold Ob.byte
  have : (newOb k r s).fields.getD ((newOb k r s).refs + j / 8) 0 = 0 := by
    rw [List.getD_eq_getElem?_getD]
    show (List.replicate (r + s) 0)[_]?.getD 0 = 0
    rw [List.getElem?_replicate]
    split <;> rfl
  rw [this]
  simp [NumB.byteAt]
/-- What the bytes are behind a piece. -/
theorem byte_putBs (bs : List Nat) (hbs : ∀ c ∈ bs, c < 256) : ∀ {o : Ob} (f : Nat), o.ok → (∀ j, f ≤ j → j < f + bs.length → o.refs + j / 8 < o.fields.length) → ∀ i, Ob.byte (putBs o f bs) i = if f ≤ i ∧ i < f + bs.length then bs.getD (i - f) 0 else Ob.byte o i := by
  induction bs with
  | nil => intro o f _ _ i; rw [if_neg (fun h => by have h1 := h.1; have h2 := h.2; rw [List.length_nil] at h2; omega)]; rfl
  | cons c l ih =>
    intro o f ho hj i
    have hc := hbs c (List.mem_cons_self ..)
    have ho2 := putB_ok ho f c hc
    obtain ⟨s1, s2, s3, s4⟩ := putB_same o f c
    have hj0 := hj f (Nat.le_refl _) (by simp)
    show Ob.byte (putBs (Ob.putB o f c) (f + 1) l) i = _
    rw [ih (fun x hx => hbs x (List.mem_cons_of_mem _ hx)) (f + 1) ho2 (fun j h1 h2 => by rw [s2, s3]; exact hj j (by omega) (by simp; omega)) i]
    rw [byte_putB ho f c i hj0 hc]
    by_cases h1 : i = f
    · subst h1
      rw [if_neg (by omega), if_pos rfl, if_pos (by simp)]
      simp
    · rw [if_neg h1]
      by_cases h2 : f + 1 ≤ i ∧ i < f + 1 + l.length
      · rw [if_pos h2, if_pos (by simp; omega), show i - f = (i - (f + 1)) + 1 by omega]
        simp
      · rw [if_neg h2, if_neg (by simp; omega)]
theorem bytes_splice {o : Ob} (bs : List Nat) (hbs : ∀ c ∈ bs, c < 256) (f m : Nat) (ho : o.ok) (hfm : f + bs.length ≤ m) (hj : ∀ j, j < m → o.refs + j / 8 < o.fields.length) :
    (bytesV (Ob.byte o) m m).take f ++ bs.map (fun x : Nat => Value.int .u8 (x : Int)) ++ (bytesV (Ob.byte o) m m).drop (f + bs.length) = bytesV (Ob.byte (putBs o f bs)) m m := by
  have hb := byte_putBs bs hbs f ho (fun j _ h2 => hj j (by omega))
  apply List.ext_getElem?
  intro j
  by_cases hjm : j < m
  · rw [bytesV_get _ m m j hjm, if_pos hjm, hb j]
    by_cases h1 : j < f
    · rw [if_neg (by omega), List.append_assoc, List.getElem?_append_left (by rw [List.length_take, bytesV_len]; omega), List.getElem?_take, if_pos h1, bytesV_get _ m m j hjm, if_pos hjm]
    · by_cases h2 : j < f + bs.length
      · rw [if_pos ⟨by omega, h2⟩, List.append_assoc, List.getElem?_append_right (by rw [List.length_take, bytesV_len]; omega), List.length_take, bytesV_len, Nat.min_eq_left (by omega), List.getElem?_append_left (by rw [List.length_map]; omega), List.getElem?_map, List.getElem?_eq_getElem (by omega)]
        simp only [Option.map_some, List.getD_eq_getElem?_getD]
        rw [List.getElem?_eq_getElem (by omega)]
        rfl
      · rw [if_neg (by omega), List.getElem?_append_right (by simp [bytesV_len]; omega), List.getElem?_drop]
        have e : f + bs.length + (j - ((bytesV (Ob.byte o) m m).take f ++ bs.map (fun x : Nat => Value.int .u8 (x : Int))).length) = j := by simp [bytesV_len]; omega
        rw [e, bytesV_get _ m m j hjm, if_pos hjm]
  · rw [List.getElem?_eq_none (by simp [bytesV_len]; omega), List.getElem?_eq_none (by rw [bytesV_len]; omega)]
/-- The refs stay. -/
theorem field_putBs (bs : List Nat) : ∀ {o : Ob} (f i : Nat), i < o.refs → (putBs o f bs).fields[i]? = o.fields[i]? := by
  induction bs with
  | nil => intro o f i _; rfl
  | cons c l ih =>
    intro o f i hi
    show (putBs (Ob.putB o f c) (f + 1) l).fields[i]? = _
    rw [ih (f + 1) i (show i < (Ob.putB o f c).refs from hi)]
    show (o.fields.set (o.refs + f / 8) _)[i]? = _
    rw [List.getElem?_set_ne (by omega)]
end Go.Proofs.Ytgjcffjicbmkhaa.BytO
end

section
/- The parameters of layer 2's laws on scripts, opened: arrays of three numbers, steps. -/
namespace Go.Proofs.Ytgjcffjicbmkhaa.OpO
open Go Go.RowKit Go.Proofs.YtgjcffjicbmkhaaW.PrintWords Go.Proofs.Ytgjcffjicbmkhaa.Open Go.Proofs.Ytgjcffjicbmkhaa.MemO Go.Proofs.Ytgjcffjicbmkhaa.BytO
set_option linter.unusedVariables false
set_option maxRecDepth 100000

/-- Three whole numbers in an array. -/
def kThree : Kd (Int × Int × Int) := Kd.pair (Kd.int .i64) (Kd.pair (Kd.int .i64) (Kd.int .i64))
theorem o_ints3 {P : Program} {t e : TypeId} (hu : P.underlying t = some (.array 3 e)) (he : P.underlying e = some (.int .i64)) (hc : P.cellsOf t = 3) (hce : P.cellsOf e = 1) : Opens P t kThree (fun _ => True) := fun F => {
  sz := hc.symm
  op := by
    intro H enc W base spare held fuel cs x hf h hw
    obtain ⟨xs, m, rfl, rfl, hcl, hxl, hx⟩ := DataW.trod_array hu h
    rw [hc] at hcl
    match cs, hcl with
    | [c0, c1, c2], _ =>
      match xs, hxl with
      | [x0, x1, x2], _ =>
        have h0 := hx 0 (by omega)
        have h1 := hx 1 (by omega)
        have h2 := hx 2 (by omega)
        rw [hce] at h0 h1 h2
        obtain ⟨n0, e0, _⟩ := DataW.trod_int he (show DataW.trod enc P W base spare held m e [c0] = some x0 from h0)
        obtain ⟨n1, e1, _⟩ := DataW.trod_int he (show DataW.trod enc P W base spare held m e [c1] = some x1 from h1)
        obtain ⟨n2, e2, _⟩ := DataW.trod_int he (show DataW.trod enc P W base spare held m e [c2] = some x2 from h2)
        simp only [List.cons.injEq, and_true] at e0 e1 e2
        subst e0 e1 e2
        exact ⟨(n0, n1, n2), ⟨[.int .i64 n0], [.int .i64 n1, .int .i64 n2], rfl, rfl, ⟨[.int .i64 n1], [.int .i64 n2], rfl, rfl, rfl⟩⟩, trivial⟩ }
/-- Kind, Blk, Src, A, B, C, V, D -/
def kOp : Kd (Int × Int × Int × Int × Int × Int × Int × List Int) := Kd.pair (Kd.int .i64) (Kd.pair (Kd.int .i64) (Kd.pair (Kd.int .i64) (Kd.pair (Kd.int .i64) (Kd.pair (Kd.int .i64) (Kd.pair (Kd.int .i64) (Kd.pair (Kd.int .u64) (Kd.slice 5 (Kd.int .u8))))))))
def gOp (y : Int × Int × Int × Int × Int × Int × Int × List Int) : Prop := gI y.1 ∧ gI y.2.1 ∧ gI y.2.2.1 ∧ gI y.2.2.2.1 ∧ gI y.2.2.2.2.1 ∧ gI y.2.2.2.2.2.1 ∧ gU y.2.2.2.2.2.2.1 ∧ gBytes y.2.2.2.2.2.2.2
theorem o_op : Opens Try.prog 80 kOp gOp :=
  opens_struct Try.underlying80 rfl (by kernel_rfl) (fields2 rfl o_int (fields2 rfl o_int (fields2 rfl o_int (fields2 rfl o_int (fields2 rfl o_int (fields2 rfl o_int (fields2 rfl o_u64 (fields1 rfl o_bytes))))))))
/-- Sizes, Script -/
def kThr : Kd ((Int × Int × Int) × List (Int × Int × Int × Int × Int × Int × Int × List Int)) := Kd.pair kThree (Kd.slice 80 kOp)
def gThr (y : (Int × Int × Int) × List (Int × Int × Int × Int × Int × Int × Int × List Int)) : Prop := True ∧ GoodL 80 gOp y.2
theorem o_thr : Opens Try.prog 76 kThr gThr :=
  opens_struct Try.underlying76 rfl (by kernel_rfl) (fields2 rfl (o_ints3 Try.underlying73 Try.underlying3 (by kernel_rfl) (by kernel_rfl)) (fields1 rfl (opens_slice Try.underlying74 (by kernel_rfl) (by kernel_rfl) o_op)))
/-- A script alone. -/
theorem o_script : Opens Try.prog 74 (Kd.slice 80 kOp) (GoodL 80 gOp) := opens_slice Try.underlying74 (by kernel_rfl) (by kernel_rfl) o_op
end Go.Proofs.Ytgjcffjicbmkhaa.OpO
end

section
/- What stands in memory while ArenaRefused runs. -/
namespace Go.Proofs.Ytgjcffjicbmkhaa.RfdM
open Go Go.RowKit Go.Proofs.Ytgjcffjicbmkhaa.Open Go.Proofs.Ytgjcffjicbmkhaa.MemO Go.Proofs.Ytgjcffjicbmkhaa.BytO Go.Proofs.YtgjcffjicbmkhaaW.PrintWords Go.Proofs.YtgjcffjicbmkhaaW.PrintLast Go.Proofs.YtgjcffjicbmkhaaW.PrintMore Go.Proofs.Ytgjcffjicbmkhaa.PF Go.Proofs.Ytgjcffjicbmkhaa.RowU Go.Proofs.Ytgjcffjicbmkhaa.ArS Go.Proofs.Ytgjcffjicbmkhaa.ArM Go.Proofs.Ytgjcffjicbmkhaa.ArW Go.Proofs.Ytgjcffjicbmkhaa.ArX Go.Proofs.Ytgjcffjicbmkhaa.ArY Go.Proofs.Ytgjcffjicbmkhaa.ArT Go.Proofs.Ytgjcffjicbmkhaa.ArV Go.Proofs.Ytgjcffjicbmkhaa.ArB Go.Proofs.Ytgjcffjicbmkhaa.ArC Go.Proofs.Ytgjcffjicbmkhaa.ArP Go.Proofs.Ytgjcffjicbmkhaa.ArQ Go.Proofs.Ytgjcffjicbmkhaa.BegW Go.Proofs.Ytgjcffjicbmkhaa.RefW Go.Proofs.Ytgjcffjicbmkhaa.OpO
set_option linter.unusedVariables false
set_option maxRecDepth 100000

/-- The pointer to block j, of which the first k are made. -/
def pv (d : Nat → ArD) (k j : Nat) : Value := if j < k then .pointer (some ⟨(d j).g, 0, none⟩) else .pointer none
def kOn (k : Nat) : Nat → Bool := fun j => decide (j < k)
theorem within400 (x : Int) (w : World) : Calls Try.prog 12 #[.int .i64 x, .int .i64 400] w fun e w' => ∃ r : Nat, r < 400 ∧ e = .returned (.int .i64 (r : Int)) ∧ Below w.heap.size w w' := by
  obtain ⟨r, hr, _, h⟩ := within_calls x 400 (by omega) (by omega)
  exact (h w).mono fun e w' ⟨he, hb⟩ => ⟨r, hr, he, hb⟩
theorem new_any (w : World) (r : Nat) (hr : r < 400) : Calls Try.prog 22 #[.int .i64 (1 + (r : Int))] w fun e w' => ∃ g gw gf, e = .returned (.tuple #[.pointer (some ⟨g, 0, none⟩), .int .i64 0]) ∧ ArAt w' g gw gf (1 + r) [] ∧ w.heap.size ≤ g ∧ w.heap.size ≤ gw ∧ w.heap.size ≤ gf ∧ Below w.heap.size w w' := by
  have := new.calls w (1 + r) (by omega) (by omega)
  rw [show ((1 + r : Nat) : Int) = 1 + (r : Int) by omega] at this
  exact this
/-- The sizes asked for. -/
def szAt (s0 s1 s2 : Int) (k : Nat) : Int := if k = 0 then s0 else if k = 1 then s1 else s2
/-- Amidst the making. -/
structure Mk (W wr : World) (s0 s1 s2 : Int) (A : Option Addr) (n c bt bp : Nat) (d : Nat → ArD) (k : Nat) : Prop where
  st : Three wr d (kOn k)
  bt_ : wr.heap[bt]? = some (.cells #[.int .i64 s0, .int .i64 s1, .int .i64 s2, .slice A n c] 76 (0, 0))
  bp_ : wr.heap[bp]? = some (.cells #[pv d k 0, pv d k 1, pv d k 2] 78 (0, 0))
  ge : ∀ j, j < k → ∀ b, (d j).blk b → bp < b
  gp : bt < bp
  gt : W.heap.size ≤ bt
  below : Below W.heap.size W wr
theorem Mk.cell {W wr : World} {s0 s1 s2 : Int} {A : Option Addr} {n c bt bp : Nat} {d : Nat → ArD} {k : Nat} (h : Mk W wr s0 s1 s2 A n c bt bp d k) (j : Nat) (hj : j < 3) : wr.cell? ⟨bt, j, none⟩ = some (.int .i64 (szAt s0 s1 s2 j)) := by
  rcases j with _ | _ | _ | j
  · exact (blk_cell h.bt_ 0).trans rfl
  · exact (blk_cell h.bt_ 1).trans rfl
  · exact (blk_cell h.bt_ 2).trans rfl
  · omega
theorem Mk.pcell {W wr : World} {s0 s1 s2 : Int} {A : Option Addr} {n c bt bp : Nat} {d : Nat → ArD} {k : Nat} (h : Mk W wr s0 s1 s2 A n c bt bp d k) (j : Nat) (hj : j < 3) : wr.cell? ⟨bp, j, none⟩ = some (pv d k j) := by
  rcases j with _ | _ | _ | j
  · exact (blk_cell h.bp_ 0).trans rfl
  · exact (blk_cell h.bp_ 1).trans rfl
  · exact (blk_cell h.bp_ 2).trans rfl
  · omega
theorem Mk.move {W wr w' : World} {s0 s1 s2 : Int} {A : Option Addr} {n c bt bp : Nat} {d : Nat → ArD} {k : Nat} (h : Mk W wr s0 s1 s2 A n c bt bp d k) (hb : Below wr.heap.size wr w') : Mk W w' s0 s1 s2 A n c bt bp d k :=
  ⟨h.st.below hb, blk_below h.bt_ hb, blk_below h.bp_ hb, h.ge, h.gp, h.gt, below_next h.below hb⟩
theorem _root_.Go.Proofs.Ytgjcffjicbmkhaa.ArQ.Three.apart {W W' : World} {d : Nat → ArD} {on : Nat → Bool} (h : Three W d on) {S : Nat → Prop} (hu : Upd S W W') (hs : ∀ i, i < 3 → on i = true → ∀ b, (d i).blk b → ¬ S b) : Three W' d on :=
  ⟨fun i hi ho => ArD.upd (h.at_ i hi ho) hu (hs i hi ho), h.sep⟩
theorem pv_next (d : Nat → ArD) (k j g gw gf n : Nat) (hj : j < 3) : pv (putD d k ⟨g, gw, gf, n, []⟩) (k + 1) j = if j = k then .pointer (some ⟨g, 0, none⟩) else pv d k j := by
  unfold pv putD
  by_cases h : j = k
  · subst h; simp
  · rw [if_neg h, if_neg h]
    by_cases h2 : j < k
    · rw [if_pos h2, if_pos (by omega)]
    · rw [if_neg h2, if_neg (by omega)]
theorem Mk.make {W wr w' : World} {s0 s1 s2 : Int} {A : Option Addr} {m c bt bp : Nat} {d : Nat → ArD} {k : Nat} (h : Mk W wr s0 s1 s2 A m c bt bp d k) (hk : k < 3) {g gw gf n : Nat} (hA : ArAt w' g gw gf n []) (h0 : wr.heap.size ≤ g) (h1 : wr.heap.size ≤ gw) (h2 : wr.heap.size ≤ gf) (hb : Below wr.heap.size wr w') :
    Mk W (w'.setCell ⟨bp, k, none⟩ (.pointer (some ⟨g, 0, none⟩))) s0 s1 s2 A m c bt bp (putD d k ⟨g, gw, gf, n, []⟩) (k + 1) := by
  have hlt := cell_lt h.bp_
  have hon : (fun j => if j = k then true else kOn k j) = kOn (k + 1) := by
    funext j
    unfold kOn
    by_cases hj : j = k
    · subst hj; simp
    · rw [if_neg hj]
      by_cases h2 : j < k
      · simp [h2]; omega
      · simp [h2]; omega
  have hge : ∀ j, j < k + 1 → ∀ b, (putD d k ⟨g, gw, gf, n, []⟩ j).blk b → bp < b := by
    intro j hj b hb
    by_cases hjk : j = k
    · subst hjk
      rw [putD_self] at hb
      rcases hb with rfl | rfl | rfl
      · exact Nat.lt_of_lt_of_le hlt h0
      · exact Nat.lt_of_lt_of_le hlt h1
      · exact Nat.lt_of_lt_of_le hlt h2
    · rw [putD_other _ _ _ _ hjk] at hb
      exact h.ge j (by omega) b hb
  have hT := h.st.fresh hk hA h0 h1 h2 hb
  rw [hon] at hT
  refine ⟨hT.apart (S := fun b => b = bp) (Upd.put (S := fun b => b = bp) (Upd.refl _ w') (.inl rfl) k _) (fun i hi ho b hb2 he => ?_), ?_, ?_, hge, h.gp, h.gt, below_put (below_next h.below hb) (Nat.le_trans h.gt (Nat.le_of_lt h.gp)) _ _⟩
  · subst he
    have := hge i (by unfold kOn at ho; simpa using ho) b hb2
    omega
  · have := blk_below h.bt_ hb
    exact (Below.heap_setCell w' ⟨bp, k, none⟩ _ bt (by show bt ≠ bp; have := h.gp; omega)).trans this
  · have := blk_set (blk_below h.bp_ hb) k (.pointer (some ⟨g, 0, none⟩))
    rw [this, pv_next _ _ _ _ _ _ _ (by omega), pv_next _ _ _ _ _ _ _ (by omega), pv_next _ _ _ _ _ _ _ (by omega)]
    rcases k with _ | _ | _ | k
    · rfl
    · rfl
    · rfl
    · omega
theorem add_add (a : Addr) (m j : Nat) : (a.add m).add j = a.add (m + j) := by
  by_cases hm : m = 0
  · subst hm; simp [Addr.add]
  · by_cases hj : j = 0
    · subst hj; simp [Addr.add, hm]
    · simp [Addr.add, hm, hj, Nat.add_assoc]
theorem run_loadVar_at {P : Program} (w : World) (A : Addr) (ty : TypeId) (cs : List Value) (d : TypeDesc) (hc : ∀ j v, cs[j]? = some v → w.cell? (A.add j) = some v)
    (hu : P.underlying ty = some d) (hd : (match d with | .struct _ | .array _ _ => true | _ => false) = true) (hi : (P.info? ty).map (·.size) = some cs.length) :
    (loadVar ty A).run P w = .ok (.agg cs.toArray) w := by
  have hl : (loadCells A cs.length).run P w = .ok cs.toArray w := run_loadCells_list (P := P) w A cs hc
  cases hq : P.info? ty with
  | none => simp [hq] at hi
  | some i =>
    have hs : i.size = cs.length := by simpa [hq] using hi
    have hagg : (isAgg ty).run P w = .ok true w := by
      unfold isAgg
      rw [Sem.run_bind, run_underlying hu w]
      cases d <;> simp_all
    simp [loadVar, Sem.run_bind, hagg, sizeOf, typeInfo, hq, hs, hl]
theorem wpList_load_at {P : Program} {ops : Array Oper} {rest : List Oper} {o : Oper} {a : Act} {w : World} {Q : Exit → Act → World → Prop} (hgd : o.guard = none) (ty : TypeId) (x : Operand) (ho : o.op = .load ty x)
    (A : Addr) (hx : a.eval x = .pointer (some A)) (cs : List Value) (d : TypeDesc) (hc : ∀ j v, cs[j]? = some v → w.cell? (A.add j) = some v)
    (hu : P.underlying ty = some d) (hd : (match d with | .struct _ | .array _ _ => true | _ => false) = true) (hi : (P.info? ty).map (·.size) = some cs.length)
    (h : wpList P ops Q rest (a.put o.dst (.agg cs.toArray)) w) : wpList P ops Q (o :: rest) a w :=
  wpList_plain hgd fun K hK => by
    unfold Oper.wp execOp
    simp only [ho, hx, Instr.loadAt, Instr.sureAddr, Sem.run_bind, Sem.run_pure, Result.andThen_ok, run_loadVar_at w A ty cs d hc hu hd hi]
    exact hK _ _ h
/-- Between two steps of the script. -/
structure Lp (W wr : World) (bp : Nat) (d : Nat → ArD) : Prop where
  st : Three wr d allOn
  bp_ : wr.heap[bp]? = some (.cells #[.pointer (some ⟨(d 0).g, 0, none⟩), .pointer (some ⟨(d 1).g, 0, none⟩), .pointer (some ⟨(d 2).g, 0, none⟩)] 78 (0, 0))
  ge : ∀ j, j < 3 → ∀ b, (d j).blk b → bp < b
  gp : W.heap.size ≤ bp
  below : Below W.heap.size W wr
theorem Mk.lp {W wr : World} {s0 s1 s2 : Int} {A : Option Addr} {n c bt bp : Nat} {d : Nat → ArD} (h : Mk W wr s0 s1 s2 A n c bt bp d 3) : Lp W wr bp d :=
  ⟨⟨fun i hi _ => h.st.at_ i hi (by unfold kOn; simpa using hi), fun i j hi hj hij _ _ => h.st.sep i j hi hj hij (by unfold kOn; simpa using hi) (by unfold kOn; simpa using hj)⟩, h.bp_, h.ge, Nat.le_trans h.gt (Nat.le_of_lt h.gp), h.below⟩
theorem Lp.move {W wr w' : World} {bp : Nat} {d : Nat → ArD} (h : Lp W wr bp d) (hb : Below wr.heap.size wr w') : Lp W w' bp d :=
  ⟨h.st.below hb, blk_below h.bp_ hb, h.ge, h.gp, below_next h.below hb⟩
theorem Lp.cell {W wr : World} {bp : Nat} {d : Nat → ArD} (h : Lp W wr bp d) (j : Nat) (hj : j < 3) : wr.cell? ⟨bp, j, none⟩ = some (.pointer (some ⟨(d j).g, 0, none⟩)) := by
  rcases j with _ | _ | _ | j
  · exact (blk_cell h.bp_ 0).trans rfl
  · exact (blk_cell h.bp_ 1).trans rfl
  · exact (blk_cell h.bp_ 2).trans rfl
  · omega
def opCells (K Bk Sr A B C V : Int) (Ad : Option Addr) (n c : Nat) : List Value := [.int .i64 K, .int .i64 Bk, .int .i64 Sr, .int .i64 A, .int .i64 B, .int .i64 C, .int .u64 V, .slice Ad n c]
theorem op_cells {w : World} {A : Option Addr} {n : Nat} {ls : List (Int × Int × Int × Int × Int × Int × Int × List Int)} (h : kOp.C w A n ls) (i : Nat) (hi : i < ls.length) :
    ∃ ad K Bk Sr x y z V D Ad c, A = some ad ∧ ls[i]? = some (K, Bk, Sr, x, y, z, V, D) ∧ D.length ≤ c ∧ (Kd.int .u8).C w Ad D.length D ∧ ∀ j u, (opCells K Bk Sr x y z V Ad D.length c)[j]? = some u → w.cell? ((ad.add (i * 8)).add j) = some u := by
  have hn : ls.length = n := h.1
  obtain ⟨⟨K, Bk, Sr, x, y, z, V, D⟩, hy⟩ : ∃ t, ls[i]? = some t := ⟨_, List.getElem?_eq_getElem hi⟩
  obtain ⟨ad, c, hh, hc, hK, hcells⟩ := Kd.C_get h (K, Bk, Sr, x, y, z, V, D) (i : Int) (by omega) (by omega)
  rw [Int.toNat_natCast] at hK hcells
  have he : ls.getD i (K, Bk, Sr, x, y, z, V, D) = (K, Bk, Sr, x, y, z, V, D) := by rw [List.getD_eq_getElem?_getD, hy]; rfl
  rw [he] at hK
  obtain ⟨b0, b1, rfl, h0, c0, c1, rfl, h1, d0, d1, rfl, h2, e0, e1, rfl, h3, f0, f1, rfl, h4, g0, g1, rfl, h5, i0, i1, rfl, h6, ⟨Ad, cc, rfl, hl, hC⟩⟩ := hK
  have a0 : b0 = [_] := h0
  have a1 : c0 = [_] := h1
  have a2 : d0 = [_] := h2
  have a3 : e0 = [_] := h3
  have a4 : f0 = [_] := h4
  have a5 : g0 = [_] := h5
  have a6 : i0 = [_] := h6
  subst a0 a1 a2 a3 a4 a5 a6
  refine ⟨ad, K, Bk, Sr, x, y, z, V, D, Ad, cc, hh, hy, hl, hC, fun j u hj => ?_⟩
  rw [add_add]
  exact hcells j u hj
/-- A step, with its bytes as naturals. -/
theorem op_open {W : World} {A : Option Addr} {n : Nat} {ls : List (Int × Int × Int × Int × Int × Int × Int × List Int)} (h : kOp.C W A n ls) (hg : ∀ y ∈ ls, gOp y) (i : Nat) (hi : i < ls.length) :
    ∃ (ad : Addr) (K Bk Sr x y z : Int) (V : Nat) (bs : List Nat) (Ad : Option Addr) (c : Nat), A = some ad ∧ V < 18446744073709551616 ∧ (∀ b ∈ bs, b < 256) ∧ bs.length ≤ 9000000000000000 ∧ (∀ (i x : Nat), bs[i]? = some x → ∃ ad, Ad = some ad ∧ W.cell? (ad.add i) = some (.int .u8 (x : Int))) ∧ ∀ j u, (opCells K Bk Sr x y z V Ad bs.length c)[j]? = some u → W.cell? ((ad.add (i * 8)).add j) = some u := by
  obtain ⟨ad, K, Bk, Sr, x, y, z, V, D, Ad, c, hA, hy, hl, hC, hc⟩ := op_cells h i hi
  obtain ⟨_, _, _, _, _, _, gV, gD⟩ := hg _ (List.mem_of_getElem? hy)
  obtain ⟨v0, v1⟩ := wf_u64 gV
  obtain ⟨bs, hbs, hb⟩ := byte_nat D (fun q hq => wf_u8 (gD.2 q hq))
  have gl := gD.1
  simp only at v0 v1 gl
  obtain ⟨Vn, rfl⟩ := Int.eq_ofNat_of_zero_le v0
  subst hbs
  refine ⟨ad, K, Bk, Sr, x, y, z, Vn, bs, Ad, c, hA, by omega, hb, by rw [List.length_map] at gl; omega, fun j q hq => byte_cell hC j q hq, fun j u hu => hc j u ?_⟩
  rw [List.length_map]
  exact hu
/-- The image k, of which the first n are made. -/
def iv (d : Nat → ArD) (g c : Nat → Nat) (n j : Nat) : Value := if j < n then .slice (some ⟨g j, 0, none⟩) (used (d j).l) (c j) else .slice none 0 0
structure Im (W wq : World) (bp ga bw : Nat) (op : Array Value) (d : Nat → ArD) (g c : Nat → Nat) (n : Nat) : Prop where
  lp : Lp W wq bp d
  op_ : wq.heap[ga]? = some (.cells op 80 (0, 0))
  bw_ : wq.heap[bw]? = some (.cells #[iv d g c n 0, iv d g c n 1, iv d g c n 2] 81 (0, 0))
  img : ∀ j, j < n → j < 3 → WordsAt wq (g j) (c j) (words (d j).l) ∧ bw < g j
  lt : ∀ j, j < 3 → ∀ b, (d j).blk b → b < ga
  gab : ga < bw
  bpa : bp < ga
  inc : ∀ i j, i < j → j < n → j < 3 → g i < g j
theorem Im.cell {W wq : World} {bp ga bw : Nat} {op : Array Value} {d : Nat → ArD} {g c : Nat → Nat} {n : Nat} (h : Im W wq bp ga bw op d g c n) (j : Nat) (hj : j < 3) : wq.cell? ⟨bw, j, none⟩ = some (iv d g c n j) := by
  rcases j with _ | _ | _ | j
  · exact (blk_cell h.bw_ 0).trans rfl
  · exact (blk_cell h.bw_ 1).trans rfl
  · exact (blk_cell h.bw_ 2).trans rfl
  · omega
theorem iv_next (d : Nat → ArD) (g c : Nat → Nat) (n j gi ci : Nat) (hj : j < 3) : iv d (fun i => if i = n then gi else g i) (fun i => if i = n then ci else c i) (n + 1) j = if j = n then .slice (some ⟨gi, 0, none⟩) (used (d n).l) ci else iv d g c n j := by
  unfold iv
  by_cases h : j = n
  · subst h; simp
  · simp only [h, if_false]
    by_cases h2 : j < n
    · rw [if_pos h2, if_pos (by omega)]
    · rw [if_neg h2, if_neg (by omega)]
theorem Im.make {W wq w' : World} {bp ga bw : Nat} {op : Array Value} {d : Nat → ArD} {g c : Nat → Nat} {n : Nat} (h : Im W wq bp ga bw op d g c n) (hn : n < 3) {gi ci : Nat} (hw : WordsAt w' gi ci (words (d n).l)) (hg : wq.heap.size ≤ gi) (hb : Below wq.heap.size wq w') :
    Im W (w'.setCell ⟨bw, n, none⟩ (.slice (some ⟨gi, 0, none⟩) (used (d n).l) ci)) bp ga bw op d (fun i => if i = n then gi else g i) (fun i => if i = n then ci else c i) (n + 1) := by
  have hlt := cell_lt h.bw_
  have hge : W.heap.size ≤ bw := by have := h.lp.gp; have := h.bpa; have := h.gab; omega
  have hW : ∀ gx cx lx, WordsAt w' gx cx lx → bw < gx → WordsAt (w'.setCell ⟨bw, n, none⟩ (.slice (some ⟨gi, 0, none⟩) (used (d n).l) ci)) gx cx lx := by
    rintro gx cx lx ⟨cur, k1, k2⟩ hx
    exact ⟨cur, (Below.heap_setCell w' ⟨bw, n, none⟩ _ gx (by show gx ≠ bw; omega)).trans k1, k2⟩
  have hU : Upd (fun b => b = bw) w' (w'.setCell ⟨bw, n, none⟩ (.slice (some ⟨gi, 0, none⟩) (used (d n).l) ci)) := Upd.put (S := fun b => b = bw) (Upd.refl _ w') (.inl rfl) n _
  have L := h.lp.move hb
  refine ⟨⟨L.st.apart hU (fun i hi _ b hb2 he => ?_), blk_upd L.bp_ hU ?_, L.ge, L.gp, below_put L.below hge _ _⟩, blk_upd (blk_below h.op_ hb) hU ?_, ?_, fun j hj hj3 => ?_, h.lt, h.gab, h.bpa, fun i j hij hj hj3 => ?_⟩
  · have := h.lt i hi b hb2; have := h.gab; subst he; omega
  · intro he; have := h.bpa; have := h.gab; omega
  · intro he; have := h.gab; omega
  · have := blk_set (blk_below h.bw_ hb) n (.slice (some ⟨gi, 0, none⟩) (used (d n).l) ci)
    rw [this, iv_next _ _ _ _ _ _ _ (by omega), iv_next _ _ _ _ _ _ _ (by omega), iv_next _ _ _ _ _ _ _ (by omega)]
    rcases n with _ | _ | _ | n
    · rfl
    · rfl
    · rfl
    · omega
  · by_cases hjn : j = n
    · subst hjn
      simp only [if_true]
      exact ⟨hW _ _ _ hw (by omega), by omega⟩
    · simp only [hjn, if_false]
      obtain ⟨k1, k2⟩ := h.img j (by omega) hj3
      exact ⟨hW _ _ _ (k1.below hb) k2, k2⟩
  · by_cases hjn : j = n
    · subst hjn
      have hin : i ≠ j := by omega
      simp only [if_true, hin, if_false]
      obtain ⟨⟨cur, k1, _⟩, _⟩ := h.img i (by omega) (by omega)
      have := cell_lt k1
      omega
    · have hin : i ≠ n := by omega
      simp only [hjn, hin, if_false]
      exact h.inc i j hij (by omega) hj3
/-- While the images are compared: those from k on are as they were made. -/
structure Cp (W w : World) (bp ga bw : Nat) (op : Array Value) (d d' : Nat → ArD) (g c : Nat → Nat) (k : Nat) : Prop where
  lp : Lp W w bp d'
  op_ : w.heap[ga]? = some (.cells op 80 (0, 0))
  bw_ : w.heap[bw]? = some (.cells #[iv d g c 3 0, iv d g c 3 1, iv d g c 3 2] 81 (0, 0))
  img : ∀ j, k ≤ j → j < 3 → WordsAt w (g j) (c j) (words (d j).l)
  ne : ∀ j m, j < 3 → m < 3 → ¬ (d' m).blk (g j)
  inc : ∀ i j, i < j → j < 3 → g i < g j
  bwg : ∀ j, j < 3 → bw < g j
  gab : ga < bw
  bpa : bp < ga
theorem Cp.move {W w w' : World} {bp ga bw : Nat} {op : Array Value} {d d' : Nat → ArD} {g c : Nat → Nat} {k k' : Nat} (h : Cp W w bp ga bw op d d' g c k) (hb : Below w.heap.size w w') (hk : k ≤ k') : Cp W w' bp ga bw op d d' g c k' :=
  ⟨h.lp.move hb, blk_below h.op_ hb, blk_below h.bw_ hb, fun j hj hj3 => (h.img j (by omega) hj3).below hb, h.ne, h.inc, h.bwg, h.gab, h.bpa⟩
theorem Cp.cell {W w : World} {bp ga bw : Nat} {op : Array Value} {d d' : Nat → ArD} {g c : Nat → Nat} {k : Nat} (h : Cp W w bp ga bw op d d' g c k) (j : Nat) (hj : j < 3) : w.cell? ⟨bw, j, none⟩ = some (.slice (some ⟨g j, 0, none⟩) (used (d j).l) (c j)) := by
  rcases j with _ | _ | _ | j
  · exact (blk_cell h.bw_ 0).trans rfl
  · exact (blk_cell h.bw_ 1).trans rfl
  · exact (blk_cell h.bw_ 2).trans rfl
  · omega
/-- One word of the image k is written anew. -/
theorem Cp.put {W w : World} {bp ga bw : Nat} {op : Array Value} {d d' : Nat → ArD} {g c : Nat → Nat} {k : Nat} (h : Cp W w bp ga bw op d d' g c k) (hk : k < 3) (n : Nat) (v : Value) : Cp W (w.setCell ⟨g k, n, none⟩ v) bp ga bw op d d' g c (k + 1) := by
  have hU : Upd (fun b => b = g k) w (w.setCell ⟨g k, n, none⟩ v) := Upd.put (S := fun b => b = g k) (Upd.refl _ w) (.inl rfl) n _
  have h1 := h.bwg k hk
  have h2 := h.gab
  have h3 := h.bpa
  have h4 := h.lp.gp
  refine ⟨⟨h.lp.st.apart hU (fun i hi _ b hb2 he => ?_), blk_upd h.lp.bp_ hU (by omega), h.lp.ge, h4, below_put h.lp.below (by omega) _ _⟩, blk_upd h.op_ hU (by omega), blk_upd h.bw_ hU (by omega), fun j hj hj3 => (h.img j (by omega) hj3).other ?_ n v, h.ne, h.inc, h.bwg, h2, h3⟩
  · subst he; exact h.ne k i hk hi hb2
  · have := h.inc k j (by omega) hj3; omega
/-- The images are made, the call is through. -/
theorem Im.cp {W wq w' : World} {bp ga bw : Nat} {op : Array Value} {d d' : Nat → ArD} {g c : Nat → Nat} (h : Im W wq bp ga bw op d g c 3) {r : Bool} {i j : Nat} {K A : Int} (ha : After wq w' d d' r i j K A) : Cp W w' bp ga bw op d d' g c 0 := by
  have hge : ∀ k, k < 3 → ∀ b, (d' k).blk b → bp < b := by
    intro k hk b hb
    rcases ha.new k hk b hb with h1 | h1
    · exact h.lp.ge k hk b h1
    · have := cell_lt h.lp.bp_; omega
  have hnot : ∀ b, (b = bp ∨ b = ga ∨ b = bw ∨ ∃ j, j < 3 ∧ b = g j) → ¬ ∃ k, k < 3 ∧ (d k).blk b := by
    rintro b hb ⟨k, hk, hk2⟩
    have h1 := h.lp.ge k hk b hk2
    have h2 := h.lt k hk b hk2
    have h3 := h.gab
    have h4 := h.bpa
    rcases hb with rfl | rfl | rfl | ⟨j, hj, rfl⟩
    · omega
    · omega
    · omega
    · have := (h.img j hj hj).2; omega
  have hlt : ∀ j, j < 3 → g j < wq.heap.size := fun j hj => by
    obtain ⟨cur, h1, _⟩ := (h.img j hj hj).1
    exact cell_lt h1
  have hgp := h.lp.gp
  refine ⟨⟨ha.st, ?_, hge, h.lp.gp, h.lp.below.trans (ha.upd.below W.heap.size h.lp.below.size (fun b hb => ?_))⟩, blk_upd h.op_ ha.upd (hnot _ (.inr (.inl rfl))), blk_upd h.bw_ ha.upd (hnot _ (.inr (.inr (.inl rfl)))), fun j _ hj => ?_, fun j m hj hm hb => ?_, fun i j hij hj => h.inc i j hij hj hj, fun j hj => (h.img j hj hj).2, h.gab, h.bpa⟩
  · rw [ha.g 0 (by omega), ha.g 1 (by omega), ha.g 2 (by omega)]
    exact blk_upd h.lp.bp_ ha.upd (hnot _ (.inl rfl))
  · obtain ⟨k, hk, hk2⟩ := hb
    have := h.lp.ge k hk b hk2
    omega
  · obtain ⟨cur, h1, h2⟩ := (h.img j hj hj).1
    exact ⟨cur, blk_upd h1 ha.upd (hnot _ (.inr (.inr (.inr ⟨j, hj, rfl⟩)))), h2⟩
  · rcases ha.new m hm _ hb with h1 | h1
    · exact hnot _ (.inr (.inr (.inr ⟨j, hj, rfl⟩))) ⟨m, hm, h1⟩
    · have := hlt j hj; omega
theorem After.words_same {W w' : World} {d d' : Nat → ArD} {r : Bool} {i j : Nat} {K A : Int} (h : After W w' d d' r i j K A) {k : Nat} (hk : k < 3) (hn : ¬ (k = i ∧ r = false)) (hm : ¬ (K = 8 ∧ r = false ∧ k = j ∧ 0 < A ∧ A < (used (d k).l : Int))) : (d' k).l = (d k).l := by
  cases r with
  | true => exact h.no rfl k hk
  | false =>
    have hki : k ≠ i := fun e => hn ⟨e, rfl⟩
    refine h.yes1 rfl k hk hki ?_
    by_cases hK : K = 8
    · refine .inr fun hkj => ?_
      subst hkj
      obtain ⟨n, o, t, h1, h2, _⟩ := h.yes2 rfl hki hK
      have := place_pos (d k).l n
      have := place_lt h1
      exact hm ⟨hK, rfl, rfl, by omega, by omega⟩
    · exact .inl hK
theorem After.words_put {W w' : World} {d d' : Nat → ArD} {i j : Nat} {K A : Int} (h : After W w' d d' false i j K A) (hj : j < 3) (hji : j ≠ i) (hK : K = 8) :
    ∃ n t : Nat, A = (n : Int) ∧ n < used (d j).l ∧ t ≤ 1048576 ∧ movR (d' j).l A = ((t : Int), true, 0) ∧ words (d' j).l = (words (d j).l).set n (9223372036854775808 + t) ∧ used (d' j).l = used (d j).l := by
  obtain ⟨n, o, t, h1, rfl, h3⟩ := h.yes2 rfl hji hK
  have hkl := (List.getElem?_eq_some_iff.1 h1).1
  have hget : (d' j).l[n]? = some (Ob.went o t) := by rw [h3, List.getElem?_set_self hkl]
  have hpl : place (d' j).l n = place (d j).l n := by rw [h3]; exact place_set (o' := Ob.went o t) h1 rfl n
  refine ⟨place (d j).l n, t, rfl, place_lt h1, ?_, ?_, ?_, ?_⟩
  · obtain ⟨cw, cf, fs, hA⟩ := h.st.at_ j hj rfl
    exact (hA.ok _ (List.mem_of_getElem? hget)).g1 t rfl
  · unfold movR
    rw [← hpl, obAt_of hget]
    rfl
  · rw [h3]; exact words_gone h1 t
  · rw [h3]; exact used_set (o' := Ob.went o t) h1 rfl
end Go.Proofs.Ytgjcffjicbmkhaa.RfdM
end

section
-- PRINTED by print.py (a twelfth state) out of the translation. Not trusted: Lean checks it.
namespace Go.Proofs.Ytgjcffjicbmkhaa.PF
open Go.RowKit Go.Proofs.YtgjcffjicbmkhaaW.PrintWords Go.Proofs.YtgjcffjicbmkhaaW.PrintLast Go.Proofs.YtgjcffjicbmkhaaW.PrintMore
attribute [local go_sem] max2_int min2_int max_two min_two max_three min_three max_four min_four   -- for this text's walks alone
set_option linter.unusedVariables false
set_option linter.unusedSimpArgs false

/-! ### larderlaw2_rawOf: function 41 -/
def larderlaw2_rawOf.f (a0 : Int) (a1 : Int) : Option (Int) := some (IntKind.u64.wrap ((IntKind.u64.wrap ((IntKind.u64.wrap ((IntKind.u64.wrap (a0)) * 1000003)) + (IntKind.u64.wrap ((IntKind.u64.wrap (a1)) * 7919)))) + 5))
set_option maxHeartbeats 8000000 in
set_option maxRecDepth 100000 in
theorem larderlaw2_rawOf.calls (a0 : Int) (a1 : Int) (r : Int) (w : World) (h : larderlaw2_rawOf.f a0 a1 = some r) :
    Calls Try.prog 41 #[.int .i64 a0, .int .i64 a1] w fun e w' => e = .returned (.int .u64 r) ∧ Drawn0 w w' := by
  have H : (some (IntKind.u64.wrap ((IntKind.u64.wrap ((IntKind.u64.wrap ((IntKind.u64.wrap (a0)) * 1000003)) + (IntKind.u64.wrap ((IntKind.u64.wrap (a1)) * 7919)))) + 5))) = some r := h
  clear h
  obtain rfl := Option.some.inj H
  go_enter Try.func41, Try.ntmps41
  go_wp2
  go_ret
  exact ⟨by first | rfl | (simp; done) | (simp [*]; done), by repeat (first | exact Drawn0.refl _ | apply Drawn0.step)⟩

end Go.Proofs.Ytgjcffjicbmkhaa.PF
end

section
/- What ArenaMemory keeps from step to step. No function of the program. -/
namespace Go.Proofs.Ytgjcffjicbmkhaa.MemI
open Go Go.RowKit Go.Proofs.YtgjcffjicbmkhaaW.PrintWords Go.Proofs.YtgjcffjicbmkhaaW.PrintLast Go.Proofs.YtgjcffjicbmkhaaW.PrintMore Go.Proofs.Ytgjcffjicbmkhaa.PF Go.Proofs.Ytgjcffjicbmkhaa.RowU Go.Proofs.Ytgjcffjicbmkhaa.ArS Go.Proofs.Ytgjcffjicbmkhaa.ArM Go.Proofs.Ytgjcffjicbmkhaa.ArX Go.Proofs.Ytgjcffjicbmkhaa.ArY Go.Proofs.Ytgjcffjicbmkhaa.GenM Go.Proofs.Ytgjcffjicbmkhaa.TakS Go.Proofs.Ytgjcffjicbmkhaa.FillL
set_option linter.unusedVariables false
set_option maxRecDepth 100000

/-- A list of words of its own, as a value. -/
def ownV (h n : Nat) : Value := .slice (some ⟨h, 0, none⟩) n n
def heldV (l : List S28) (hs : List Nat) : List Value := List.zipWith (fun x h => ownV h (x.f1.toNat + x.f2.toNat)) l hs
theorem heldV_get (l : List S28) (hs : List Nat) (j : Nat) (k r s h : Nat) (h1 : l[j]? = some ⟨k, r, s⟩) (h2 : hs[j]? = some h) : (heldV l hs)[j]? = some (ownV h (r + s)) := by
  unfold heldV
  rw [List.getElem?_zipWith, h1, h2]
  simp
theorem heldV_len (l : List S28) (hs : List Nat) (h : hs.length ≤ l.length) : (heldV l hs).length = hs.length := by
  unfold heldV
  rw [List.length_zipWith]
  omega
theorem heldV_snoc (l : List S28) (hs : List Nat) (k r s h : Nat) (h1 : l[hs.length]? = some ⟨k, r, s⟩) : heldV l (hs ++ [h]) = heldV l hs ++ [ownV h (r + s)] := by
  have hl := (List.getElem?_eq_some_iff.1 h1).1
  apply List.ext_getElem?
  intro j
  unfold heldV
  rw [List.getElem?_zipWith]
  rcases Nat.lt_trichotomy j hs.length with hj | hj | hj
  · rw [List.getElem?_append_left hj, List.getElem?_append_left (by rw [List.length_zipWith]; omega), List.getElem?_zipWith]
  · subst hj
    rw [List.getElem?_append_right (Nat.le_refl _), Nat.sub_self, h1, List.getElem?_append_right (by rw [List.length_zipWith]; omega), List.length_zipWith, show hs.length - min l.length hs.length = 0 by omega]
    simp
  · rw [List.getElem?_append_right (by omega), List.getElem?_append_right (by rw [List.length_zipWith]; omega), List.length_zipWith]
    have e1 : ([h] : List Nat)[j - hs.length]? = none := List.getElem?_eq_none (by simp; omega)
    rw [e1]
    have e2 : ([ownV h (r + s)] : List Value)[j - min l.length hs.length]? = none := List.getElem?_eq_none (by simp; omega)
    rw [e2]
    cases l[j]? <;> rfl
structure Mem (Wf wr : World) (l : List S28) (g gw gf : Nat) (va vh : Value) (obs : List Ob) (hs : List Nat) : Prop where
  ar : ArAt wr g gw gf (used (obsOf l)) obs
  at_ : GV 3 wr va (placesV l l.length)
  hv : GV 34 wr vh (heldV l hs)
  hl : hs.length ≤ l.length
  ws : ∀ (j h : Nat) (o : Ob), hs[j]? = some h → obs[j]? = some o → WordsAt wr h o.fields.length o.fields
  nd : ∀ i j h : Nat, hs[i]? = some h → hs[j]? = some h → i = j
  nw : ∀ h : Nat, h ∈ hs → h ≠ gw ∧ h ≠ gf ∧ Wf.heap.size ≤ h
  sh : ∀ (j k r s : Nat), l[j]? = some (⟨k, r, s⟩ : S28) → ∃ o : Ob, obs[j]? = some o ∧ o.kind = k ∧ o.refs = r ∧ o.fields.length = r + s ∧ o.gone = none
  pl : ∀ j : Nat, place obs j = place (obsOf l) j
  below : Below Wf.heap.size Wf wr
  g0 : Wf.heap.size ≤ g
  gw0 : Wf.heap.size ≤ gw
  gf0 : Wf.heap.size ≤ gf
  va0 : ∀ k, va.ownBlock = some k → Wf.heap.size ≤ k
  vh0 : ∀ k, vh.ownBlock = some k → Wf.heap.size ≤ k
  ln : obs.length = l.length
theorem gv_type {T : TypeId} {W : World} {v : Value} {lst : List Value} (h : GV T W v lst) (k : Nat) (hk : v.ownBlock = some k) : ∃ cs, W.heap[k]? = some (.cells cs T (0, 0)) := by
  rcases h with ⟨rfl, _⟩ | ⟨b, cap, hv, hb⟩
  · cases hk
  · rw [hv] at hk
    obtain rfl := Option.some.inj hk
    obtain ⟨cur, h1, _⟩ := hb
    exact ⟨_, h1⟩
theorem ne_type {W : World} {g1 g2 : Nat} {c1 c2 : Array Value} {T1 T2 : TypeId} {f1 f2 : Nat × Nat} (h1 : W.heap[g1]? = some (.cells c1 T1 f1)) (h2 : W.heap[g2]? = some (.cells c2 T2 f2)) (h : T1 ≠ T2) : g1 ≠ g2 := by
  rintro rfl
  have := h1.symm.trans h2
  simp at this
  exact h this.2.1
theorem ar_hd {W : World} {g gw gf sz : Nat} {l : List Ob} (h : ArAt W g gw gf sz l) : ∃ cs, W.heap[g]? = some (.cells cs 112 (0, 0)) := by
  obtain ⟨cw, cf, fs, h⟩ := h
  exact ⟨_, h.hd⟩
theorem wd_type {W : World} {g cap : Nat} {l : List Nat} (h : WordsAt W g cap l) : ∃ cs, W.heap[g]? = some (.cells cs 36 (0, 0)) := by
  obtain ⟨cur, h1, _⟩ := h
  exact ⟨_, h1⟩
theorem Mem.move {Wf wr w' : World} {l : List S28} {g gw gf : Nat} {va vh : Value} {obs : List Ob} {hs : List Nat} (h : Mem Wf wr l g gw gf va vh obs hs) (hb : Below wr.heap.size wr w') : Mem Wf w' l g gw gf va vh obs hs :=
  ⟨h.ar.below hb, h.at_.upd (S := none_) (Upd.of_below hb) (fun _ _ h => h), h.hv.upd (S := none_) (Upd.of_below hb) (fun _ _ h => h), h.hl, fun j b o h1 h2 => (h.ws j b o h1 h2).below hb, h.nd, h.nw, h.sh, h.pl, below_next h.below hb, h.g0, h.gw0, h.gf0, h.va0, h.vh0, h.ln⟩
/-- A list of words more. -/
theorem Mem.grow {Wf wr w1 w2 w3 : World} {l : List S28} {g gw gf : Nat} {va vh v3 : Value} {hs : List Nat} (h : Mem Wf wr l g gw gf va vh (obsOf l) hs) {k r s : Nat} (hx : l[hs.length]? = some ⟨k, r, s⟩) (hsm : r + s ≤ maxLen)
    (hw1 : w1 = wr.alloc (.cells (madeCells #[.int .u64 0] (r + s)) 36)) (hw2 : Below w1.heap.size w1 w2)
    (hgv : GV 34 w3 v3 (heldV l hs ++ [ownV wr.heap.size (r + s)])) (hown : ∀ b, v3.ownBlock = some b → (vh.ownBlock = some b ∨ w2.heap.size ≤ b)) (hu : Upd (fun b => vh.ownBlock = some b) w2 w3) :
    Mem Wf w3 l g gw gf va v3 (obsOf l) (hs ++ [wr.heap.size]) := by
  have b1 : Below wr.heap.size wr w1 := hw1 ▸ below_alloc (Below.refl _ _) _
  have b2 : Below wr.heap.size wr w2 := below_next b1 hw2
  have hm := h.move b2
  have hnew : WordsAt w1 wr.heap.size (r + s) (List.replicate (r + s) 0) := hw1 ▸ words_made wr (r + s) hsm
  have hnew2 := hnew.below hw2
  have hvt := fun k hk => gv_type hm.hv k hk
  have nar := gv_not_ar hm.hv hm.ar (by decide) (by decide)
  have hlt : ∀ b, b ∈ hs → b < wr.heap.size := by
    intro b hb
    obtain ⟨j, hj⟩ := List.getElem?_of_mem hb
    have hjl := (List.getElem?_eq_some_iff.1 hj).1
    have hjl2 : j < (obsOf l).length := by simp [obsOf]; have := h.hl; omega
    exact (h.ws j b _ hj (List.getElem?_eq_getElem hjl2)).lt
  have hni : ∀ b l2, WordsAt w2 b (r + s) l2 ∨ (∃ cap, WordsAt w2 b cap l2) → ¬ vh.ownBlock = some b := by
    intro b l2 hb hk
    obtain ⟨cs, hcs⟩ := hvt b hk
    obtain ⟨cs2, hcs2⟩ : ∃ cs, w2.heap[b]? = some (.cells cs 36 (0, 0)) := by
      rcases hb with hb | ⟨cap, hb⟩
      · exact wd_type hb
      · exact wd_type hb
    exact ne_type hcs hcs2 (by decide) rfl
  have hsz2 : wr.heap.size ≤ w2.heap.size := b2.size
  refine ⟨hm.ar.upd hu (fun hh => nar _ hh (.inl rfl)) (fun hh => nar _ hh (.inr (.inl rfl))) (fun hh => nar _ hh (.inr (.inr rfl))), ?_, ?_, ?_, ?_, ?_, ?_, h.sh, h.pl, ?_, h.g0, h.gw0, h.gf0, h.va0, ?_, h.ln⟩
  · refine hm.at_.upd hu (fun b hb hb2 => ?_)
    obtain ⟨cs, hcs⟩ := gv_type hm.at_ b hb
    obtain ⟨cs2, hcs2⟩ := hvt b hb2
    exact ne_type hcs hcs2 (by decide) rfl
  · rw [heldV_snoc l hs k r s _ hx]; exact hgv
  · have := (List.getElem?_eq_some_iff.1 hx).1
    rw [List.length_append, List.length_singleton]; omega
  · intro j b o h1 h2
    by_cases hj : j < hs.length
    · rw [List.getElem?_append_left hj] at h1
      have h3 := hm.ws j b o h1 h2
      exact h3.upd hu (hni b _ (.inr ⟨_, h3⟩))
    · have hje : j = hs.length := by
        have h4 := (List.getElem?_eq_some_iff.1 h1).1
        rw [List.length_append, List.length_singleton] at h4
        omega
      subst hje
      rw [List.getElem?_append_right (Nat.le_refl _), Nat.sub_self] at h1
      obtain rfl : wr.heap.size = b := by simpa using h1
      have ho : o = newOb k r s := by
        unfold obsOf at h2
        rw [List.getElem?_map, hx] at h2
        have := Option.some.inj h2
        rw [← this]; simp [obOf]
      rw [ho]
      have hfl : (newOb k r s).fields = List.replicate (r + s) 0 := rfl
      rw [hfl, List.length_replicate]
      exact hnew2.upd hu (hni _ _ (.inl hnew2))
  · intro i j b h1 h2
    have key : ∀ i, (hs ++ [wr.heap.size])[i]? = some b → (i < hs.length ∧ b < wr.heap.size) ∨ (i = hs.length ∧ b = wr.heap.size) := by
      intro i hi
      by_cases hj : i < hs.length
      · rw [List.getElem?_append_left hj] at hi
        exact .inl ⟨hj, hlt b (List.mem_of_getElem? hi)⟩
      · have h4 := (List.getElem?_eq_some_iff.1 hi).1
        rw [List.length_append, List.length_singleton] at h4
        obtain rfl : i = hs.length := by omega
        rw [List.getElem?_append_right (Nat.le_refl _), Nat.sub_self] at hi
        exact .inr ⟨rfl, by simpa using hi.symm⟩
    rcases key i h1 with ⟨a1, a2⟩ | ⟨a1, a2⟩ <;> rcases key j h2 with ⟨c1, c2⟩ | ⟨c1, c2⟩
    · rw [List.getElem?_append_left a1] at h1
      rw [List.getElem?_append_left c1] at h2
      exact h.nd i j b h1 h2
    · omega
    · omega
    · omega
  · intro b hb
    rcases List.mem_append.1 hb with hb | hb
    · exact h.nw b hb
    · rw [List.mem_singleton.1 hb]
      obtain ⟨l1, l2, l3⟩ := ArT.ArAt.lt3 h.ar
      exact ⟨by omega, by omega, h.below.size⟩
  · exact Upd.to_below (below_next h.below b2) hu (Nat.le_trans h.below.size hsz2) h.vh0
  · intro b hb
    rcases hown b hb with h1 | h1
    · exact h.vh0 b h1
    · exact Nat.le_trans h.below.size (Nat.le_trans hsz2 h1)
/-- One field changed, in the arena and in the list. -/
theorem Mem.put {Wf wr w2 : World} {l : List S28} {g gw gf : Nat} {va vh : Value} {obs : List Ob} {hs : List Nat} (h : Mem Wf wr l g gw gf va vh obs hs) {j b f x : Nat} {o : Ob} (hb : hs[j]? = some b) (ho : obs[j]? = some o) (hf : f < o.fields.length) (hx : x < 18446744073709551616)
    (hA : ArAt w2 g gw gf (used (obsOf l)) (obs.set j (Ob.put o f x))) (hu : Upd (fun b => b = gw) wr w2) :
    Mem Wf (w2.setCell ⟨b, f, none⟩ (.int .u64 (x : Int))) l g gw gf va vh (obs.set j (Ob.put o f x)) hs := by
  obtain ⟨hne1, hne2, hb0⟩ := h.nw b (List.mem_of_getElem? hb)
  have hw := h.ws j b o hb ho
  obtain ⟨cs, hcs⟩ := wd_type hw
  obtain ⟨cg, hcg⟩ := ar_hd h.ar
  have hng : g ≠ b := ne_type hcg hcs (by decide)
  have hgw : ∀ {T : TypeId} {v : Value} {lst : List Value}, GV T wr v lst → T ≠ 36 → T ≠ 112 → ∀ k, v.ownBlock = some k → ¬ (k = gw ∨ k = b) := by
    intro T v lst hv h1 h2 k hk
    obtain ⟨c1, hc1⟩ := gv_type hv k hk
    rintro (h3 | h3)
    · exact gv_not_ar hv h.ar h2 h1 k hk (.inr (.inl h3))
    · subst h3; exact ne_type hc1 hcs h1 rfl
  have hu2 : Upd (fun k => k = gw ∨ k = b) wr (w2.setCell ⟨b, f, none⟩ (.int .u64 (x : Int))) := (hu.mono (fun i hi => .inl hi)).put (.inl (.inr rfl)) _ _
  have hu3 : Upd (fun k => k = b) w2 (w2.setCell ⟨b, f, none⟩ (.int .u64 (x : Int))) := (Upd.refl (fun k => k = b) w2).put (.inl rfl) _ _
  have hol := (List.getElem?_eq_some_iff.1 ho).1
  refine ⟨hA.upd hu3 hng (fun hh => hne1 hh.symm) (fun hh => hne2 hh.symm), h.at_.upd hu2 (hgw h.at_ (by decide) (by decide)), h.hv.upd hu2 (hgw h.hv (by decide) (by decide)), h.hl, ?_, h.nd, h.nw, ?_, ?_, ?_, h.g0, h.gw0, h.gf0, h.va0, h.vh0, by rw [List.length_set]; exact h.ln⟩
  · intro i c o' h1 h2
    by_cases hij : i = j
    · subst hij
      obtain rfl : b = c := Option.some.inj (hb.symm.trans h1)
      rw [List.getElem?_set_self hol] at h2
      obtain rfl := Option.some.inj h2
      rw [Ob.put_len]
      exact (hw.upd hu hne1).set f hf x
    · rw [List.getElem?_set_ne (fun hh => hij hh.symm)] at h2
      have hcb : ¬ c = b := fun hh => hij (h.nd i j c h1 (hh ▸ hb))
      exact (h.ws i c o' h1 h2).upd hu2 (fun hh => by
        rcases hh with hh | hh
        · exact (h.nw c (List.mem_of_getElem? h1)).1 hh
        · exact hcb hh)
  · intro i k r s hi
    obtain ⟨o', h1, h2, h3, h4, h5⟩ := h.sh i k r s hi
    by_cases hij : j = i
    · subst hij
      obtain rfl : o = o' := Option.some.inj (ho.symm.trans h1)
      exact ⟨Ob.put o f x, List.getElem?_set_self hol, h2, h3, by rw [Ob.put_len]; exact h4, h5⟩
    · exact ⟨o', by rw [List.getElem?_set_ne hij]; exact h1, h2, h3, h4, h5⟩
  · intro i
    rw [place_set ho (Ob.put_len o f x)]
    exact h.pl i
  · refine Upd.to_below h.below hu2 h.below.size ?_
    rintro i (rfl | rfl)
    · exact h.gw0
    · exact hb0
/-- One field changed, in the arena alone (no lists are held). -/
theorem Mem.set0 {Wf wr w2 : World} {l : List S28} {g gw gf : Nat} {va vh : Value} {obs : List Ob} (h : Mem Wf wr l g gw gf va vh obs []) {j f x : Nat} {o : Ob} (ho : obs[j]? = some o)
    (hA : ArAt w2 g gw gf (used (obsOf l)) (obs.set j (Ob.put o f x))) (hu : Upd (fun b => b = gw) wr w2) : Mem Wf w2 l g gw gf va vh (obs.set j (Ob.put o f x)) [] := by
  have hol := (List.getElem?_eq_some_iff.1 ho).1
  refine ⟨hA, h.at_.upd hu (fun k hk hg => gv_not_ar h.at_ h.ar (by decide) (by decide) k hk (.inr (.inl hg))), h.hv.upd hu (fun k hk hg => gv_not_ar h.hv h.ar (by decide) (by decide) k hk (.inr (.inl hg))), h.hl, fun i b o' h1 _ => by simp at h1, fun i j h h1 _ => by simp at h1, fun h h1 => by simp at h1, ?_, ?_, ?_, h.g0, h.gw0, h.gf0, h.va0, h.vh0, by rw [List.length_set]; exact h.ln⟩
  · intro i k r s hi
    obtain ⟨o', h1, h2, h3, h4, h5⟩ := h.sh i k r s hi
    by_cases hij : j = i
    · subst hij
      obtain rfl : o = o' := Option.some.inj (ho.symm.trans h1)
      exact ⟨Ob.put o f x, List.getElem?_set_self hol, h2, h3, by rw [Ob.put_len]; exact h4, h5⟩
    · exact ⟨o', by rw [List.getElem?_set_ne hij]; exact h1, h2, h3, h4, h5⟩
  · intro i
    rw [place_set ho (Ob.put_len o f x)]
    exact h.pl i
  · exact Upd.to_below h.below hu h.below.size (fun i hi => by rw [hi]; exact h.gw0)
end Go.Proofs.Ytgjcffjicbmkhaa.MemI
end

section
/- larderlaw2.lay walked: the graph laid into a block. -/
namespace Go.Proofs.Ytgjcffjicbmkhaa.LayW
open Go Go.RowKit Go.Proofs.YtgjcffjicbmkhaaW.PrintWords Go.Proofs.YtgjcffjicbmkhaaW.PrintLast Go.Proofs.YtgjcffjicbmkhaaW.PrintMore Go.Proofs.Ytgjcffjicbmkhaa.PF Go.Proofs.Ytgjcffjicbmkhaa.RowU Go.Proofs.Ytgjcffjicbmkhaa.ArS Go.Proofs.Ytgjcffjicbmkhaa.ArM Go.Proofs.Ytgjcffjicbmkhaa.ArX Go.Proofs.Ytgjcffjicbmkhaa.ArY Go.Proofs.Ytgjcffjicbmkhaa.ArT Go.Proofs.Ytgjcffjicbmkhaa.ArV Go.Proofs.Ytgjcffjicbmkhaa.GenM Go.Proofs.Ytgjcffjicbmkhaa.TakS Go.Proofs.Ytgjcffjicbmkhaa.FillL Go.Proofs.Ytgjcffjicbmkhaa.RfdM Go.Proofs.Ytgjcffjicbmkhaa.ColS
set_option linter.unusedVariables false
set_option maxRecDepth 100000

def edI : Option Nat → Int
  | none => -1
  | some t => (t : Int)
/-- The graph's value, and what edge says of it. -/
def gArr (v0 v1 v2 : Value) : List Value := [v0, v1, v2]
def EdgesOk (W : World) (v0 v1 v2 : Value) (G : Gp) : Prop := ∀ i k : Nat, i < G.N → k < 24 → ∀ w', Below W.heap.size W w' → Calls Try.prog 40 #[.agg (gArr v0 v1 v2).toArray, .int .i64 (G.N : Int), .int .i64 (i : Int), .int .i64 (k : Int)] w' fun e w'' => e = .returned (.int .i64 (edI (G.eg i k))) ∧ Below w'.heap.size w' w''
/-- The shapes are the graph's. -/
structure Shp (G : Gp) (l : List S28) : Prop where
  n : l.length = G.N
  at_ : ∀ i, i < G.N → l[i]? = some ⟨(G.K i : Int), (G.R i : Int), (G.S i : Int)⟩
def rawN (i k : Nat) : Nat := ((larderlaw2_rawOf.f (i : Int) (k : Int)).getD 0).toNat
theorem raw_all (i k : Nat) (w : World) : Calls Try.prog 41 #[.int .i64 (i : Int), .int .i64 (k : Int)] w fun e w' => e = .returned (.int .u64 (rawN i k : Int)) ∧ Below w.heap.size w w' := by
  have h : ∃ r, larderlaw2_rawOf.f (i : Int) (k : Int) = some r ∧ 0 ≤ r := ⟨_, rfl, by rw [IntKind.wrap_u64]; omega⟩
  obtain ⟨r, h, h0⟩ := h
  have h2 : (rawN i k : Int) = r := by unfold rawN; rw [h]; simp only [Option.getD_some]; omega
  rw [h2]
  exact (larderlaw2_rawOf.calls _ _ r w h).mono fun e w' ⟨he, hd⟩ => ⟨he, hd.below⟩
theorem rawN_lt (i k : Nat) : rawN i k < 18446744073709551616 := by
  have h : ∃ r, larderlaw2_rawOf.f (i : Int) (k : Int) = some r ∧ 0 ≤ r ∧ r < 18446744073709551616 := ⟨_, rfl, by rw [IntKind.wrap_u64]; omega, by rw [IntKind.wrap_u64]; omega⟩
  obtain ⟨r, h, h0, h1⟩ := h
  unfold rawN; rw [h]; simp only [Option.getD_some]; omega
def plV (G : Gp) : List Value := (List.range G.N).map fun k => .int .i64 (G.pa k : Int)
theorem plV_get (G : Gp) {i : Nat} (h : i < G.N) : (plV G)[i]? = some (.int .i64 (G.pa i : Int)) := by simp [plV, h]
theorem plV_len (G : Gp) : (plV G).length = G.N := by simp [plV]
theorem obs_lay {G : Gp} {l : List S28} (h : Shp G l) : obsOf l = G.lay 0 0 := by
  apply List.ext_getElem?
  intro j
  unfold obsOf
  rw [List.getElem?_map]
  by_cases hj : j < G.N
  · rw [h.at_ j hj]
    unfold Gp.lay
    rw [objs_get _ hj]
    simp only [Option.map_some, Option.some.injEq, Nat.not_lt_zero, if_false]
    unfold obOf newOb Gp.aOb Gp.len
    simp only [Int.toNat_natCast, Ob.mk.injEq, true_and, and_true]
    have : (if j = 0 then 0 else 0) = 0 := by split <;> rfl
    rw [this]
    apply List.ext_getElem?
    intro x
    by_cases hx : x < G.R j + G.S j
    · simp [hx]
    · rw [List.getElem?_eq_none (by simp; omega), List.getElem?_eq_none (by simp; omega)]
  · rw [List.getElem?_eq_none (by rw [h.n]; omega), List.getElem?_eq_none (by unfold Gp.lay; rw [objs_len]; omega)]
    rfl
theorem places_lay {G : Gp} {l : List S28} (h : Shp G l) : placesV l l.length = plV G := by
  unfold placesV plV
  rw [h.n, obs_lay h]
  apply List.map_congr_left
  intro k hk
  rw [G.place_lay 0 0 (Nat.le_of_lt (List.mem_range.1 hk))]
/-- The graph is laid. -/
structure Laid (W w' : World) (G : Gp) (g gw gf : Nat) (v : Value) : Prop where
  ar : ArAt w' g gw gf (G.pa G.N) (G.aL [])
  at_ : GV 3 w' v (plV G)
  g0 : W.heap.size ≤ g
  gw0 : W.heap.size ≤ gw
  gf0 : W.heap.size ≤ gf
  v0 : ∀ k, v.ownBlock = some k → W.heap.size ≤ k
  below : Below W.heap.size W w'
/-- Amidst the laying. -/
structure Lm (W wr : World) (G : Gp) (v0 v1 v2 : Value) (bx g gw gf gp cp : Nat) (i f : Nat) : Prop where
  ar : ArAt wr g gw gf (G.pa G.N) (G.lay i f)
  at_ : GenAt 3 wr gp cp (plV G)
  box : wr.heap[bx]? = some (.cells (gArr v0 v1 v2).toArray 52 (0, 0))
  bg : bx < gw
  g0 : W.heap.size ≤ g
  gw0 : W.heap.size ≤ gw
  gf0 : W.heap.size ≤ gf
  gp0 : W.heap.size ≤ gp
  ne : gp ≠ gw
  below : Below W.heap.size W wr
theorem Lm.move {W wr w' : World} {G : Gp} {v0 v1 v2 : Value} {bx g gw gf gp cp : Nat} {i f : Nat} (h : Lm W wr G v0 v1 v2 bx g gw gf gp cp i f) (hb : Below wr.heap.size wr w') : Lm W w' G v0 v1 v2 bx g gw gf gp cp i f :=
  ⟨h.ar.below hb, h.at_.upd (S := none_) (Upd.of_below hb) (fun h => h), blk_below h.box hb, h.bg, h.g0, h.gw0, h.gf0, h.gp0, h.ne, below_next h.below hb⟩
theorem Lm.put {W wr w' : World} {G : Gp} {v0 v1 v2 : Value} {bx g gw gf gp cp : Nat} {i f : Nat} (h : Lm W wr G v0 v1 v2 bx g gw gf gp cp i f) (hA : ArAt w' g gw gf (G.pa G.N) (G.lay i (f + 1))) (hu : Upd (fun b => b = gw) wr w') : Lm W w' G v0 v1 v2 bx g gw gf gp cp i (f + 1) :=
  ⟨hA, h.at_.upd hu h.ne, blk_upd h.box hu (by have := h.bg; omega), h.bg, h.g0, h.gw0, h.gf0, h.gp0, h.ne, Upd.to_below h.below hu h.below.size (fun i hi => by subst hi; exact h.gw0)⟩
theorem Lm.skip {W wr : World} {G : Gp} {v0 v1 v2 : Value} {bx g gw gf gp cp : Nat} {i f : Nat} (h : Lm W wr G v0 v1 v2 bx g gw gf gp cp i f) (hf : G.fld i f = 0) : Lm W wr G v0 v1 v2 bx g gw gf gp cp i (f + 1) :=
  ⟨by rw [G.lay_skip i f hf]; exact h.ar, h.at_, h.box, h.bg, h.g0, h.gw0, h.gf0, h.gp0, h.ne, h.below⟩
theorem Lm.next {W wr : World} {G : Gp} {v0 v1 v2 : Value} {bx g gw gf gp cp : Nat} {i : Nat} (h : Lm W wr G v0 v1 v2 bx g gw gf gp cp i (G.len i)) : Lm W wr G v0 v1 v2 bx g gw gf gp cp (i + 1) 0 :=
  ⟨by rw [← G.lay_next i]; exact h.ar, h.at_, h.box, h.bg, h.g0, h.gw0, h.gf0, h.gp0, h.ne, h.below⟩
theorem Lm.set {W wr : World} {G : Gp} {v0 v1 v2 : Value} {bx g gw gf gp cp : Nat} {i f : Nat} (hG : G.ok) (h : Lm W wr G v0 v1 v2 bx g gw gf gp cp i f) (hi : i < G.N) (hf : f < G.len i) :
    Calls Try.prog 13 #[.pointer (some ⟨g, 0, none⟩), .int .i64 (G.pa i : Int), .int .i64 (f : Int), .int .u64 (G.fld i f : Int)] wr fun e' w' => e' = .returned (.int .i64 0) ∧ Lm W w' G v0 v1 v2 bx g gw gf gp cp i (f + 1) :=
  (set_yes h.ar (G.lay_get i f hi) rfl f (G.fld i f) (by rw [G.aOb_len]; exact hf) (Gp.fld_lt hG i f) (G.pa i) (G.place_lay i f (Nat.le_of_lt hi)).symm).mono fun e w' ⟨he, hA, hu⟩ => ⟨he, h.put (by rw [← G.lay_put i f]; exact hA) hu⟩
/-- The three cells of a shape of the graph. -/
theorem shp_cells {G : Gp} {l : List S28} (hS : Shp G l) {W2 : World} {A : Option Addr} (h : Kd.C k28 W2 A l.length l) {i : Nat} (hi : i < G.N) : ∃ ad, A = some ad ∧ Cells3 W2 ad i (G.K i) (G.R i) (G.S i) := by
  have h1 := rd_get l i (by rw [hS.n]; exact hi)
  have h2 := hS.at_ i hi
  rw [h1] at h2
  exact cells3 h (by rw [hS.n]; exact hi) (Option.some.inj h2)
set_option maxHeartbeats 8000000 in
theorem lay.calls (G : Gp) (hG : G.ok) (hraw : G.raw = rawN) (l : List S28) (hS : Shp G l) (hpos : 0 < G.N) (hok : ∀ x ∈ l, ShOk x) (A : Option Addr) (c : Nat) (v0 v1 v2 : Value) (W : World) (hC : Kd.C k28 W A l.length l) (hc : G.N ≤ c) (hE : EdgesOk W v0 v1 v2 G) :
    Calls Try.prog 21 #[.agg (gArr v0 v1 v2).toArray, .slice A G.N c] W fun e w' => ∃ g gw gf gp cp, e = .returned (.tuple #[.pointer (some ⟨g, 0, none⟩), .slice (some ⟨gp, 0, none⟩) G.N cp, .bool true]) ∧ Laid W w' G g gw gf (.slice (some ⟨gp, 0, none⟩) G.N cp) ∧ GenAt 3 w' gp cp (plV G) := by
  have HC := Aside0.mk hC
  have HE := Aside0.mk hE
  have HG := Aside0.mk hG
  have HS := Aside0.mk hS
  have hln : l.length = G.N := hS.n
  have hN := hG.n1
  have HFL : Aside0 (∀ w, Kd.C k28 w A l.length l → Calls Try.prog 11 #[.slice A G.N c] w fun e w' => ∃ g gw gf gp cp, e = .returned (.tuple #[.pointer (some ⟨g, 0, none⟩), .slice (some ⟨gp, 0, none⟩) G.N cp, .bool true]) ∧ Filled w w' l g gw gf (.slice (some ⟨gp, 0, none⟩) G.N cp)) := ⟨fun w hC => by
    have := fill.calls l A c w hC (by omega) hok (by omega)
    rw [hln] at this
    refine this.mono ?_
    rintro e w' ⟨g, gw, gf, v, rfl, hF⟩
    have ha := hF.at_
    rw [places_lay hS] at ha
    obtain ⟨gp, cp, hv, _⟩ := ha.form (by rw [plV_len]; exact hpos)
    rw [plV_len] at hv
    subst hv
    exact ⟨g, gw, gf, gp, cp, rfl, hF⟩⟩
  have HRW := Aside0.mk hraw
  clear hC hE hG hok hraw hS hln
  go_enter Try.func21, Try.ntmps21
  go_wp2_with fail
  have HB0 := Aside0.mk (below_alloc (Below.refl W.heap.size W) (.cells (gArr v0 v1 v2).toArray 52))
  have hbx0 := blk_new W (.cells (gArr v0 v1 v2).toArray 52)
  refine (HFL.out _ (Kd.C_below HC.out HB0.out)).mono ?_
  rintro e w2 ⟨g, gw, gf, gp, cp, rfl, hF⟩
  obtain ⟨bx, hbx⟩ : ∃ bx, bx = W.heap.size := ⟨_, rfl⟩
  have HM0 : Aside0 (Lm W w2 G v0 v1 v2 bx g gw gf gp cp 0 0) := ⟨by
    have hg : GenAt 3 w2 gp cp (plV G) := by
      have ha := hF.at_
      rw [places_lay HS.out] at ha
      rcases ha with ⟨h, _⟩ | ⟨g', c', h, h2⟩
      · cases h
      · simp only [Value.slice.injEq, Option.some.injEq, Addr.mk.injEq, true_and, and_true] at h
        obtain ⟨rfl, _, rfl⟩ := h
        exact h2
    have har := hF.ar
    rw [obs_lay HS.out] at har
    have hus : used (G.lay 0 0) = G.pa G.N := used_objs _ _ _ (fun j _ => G.aOb_len j _)
    rw [hus] at har
    have hs : W.heap.size < (W.alloc (.cells (gArr v0 v1 v2).toArray 52)).heap.size := cell_lt hbx0
    have h1 := hF.g0
    have h2 := hF.gw0
    have h3 := hF.gf0
    have h4 := hF.v0 gp rfl
    refine ⟨har, hg, by rw [hbx]; exact blk_below hbx0 hF.below, by omega, by omega, by omega, by omega, by omega, ?_, below_next HB0.out hF.below⟩
    obtain ⟨cw, cf, fs, hA⟩ := har
    obtain ⟨cur, q1, _⟩ := hg
    obtain ⟨cur2, q2, _⟩ := hA.ws
    exact MemI.ne_type q1 q2 (by decide)⟩
  rw [← hbx]
  clear hF hbx0 HB0 hbx HFL
  go_wp2_with fail
  go_loopw [10] (fun i wr => ∃ (n : Nat), n ≤ G.N ∧ i = .int .i64 n ∧ Aside0 (Lm W wr G v0 v1 v2 bx g gw gf gp cp n 0)) (fun i _ => G.N - (intOf i).toNat)
  case atStart => exact ⟨0, by omega, rfl, HM0⟩
  case round =>
    obtain ⟨i, hi, rfl, HM⟩ := hrel
    clear HM0
    rename World => wr
    by_cases hlt : i < G.N
    · have hlt' : (i : Int) < G.N := by omega
      have hi0 : (0 : Int) ≤ (i : Int) := by omega
      have hR := HG.out.r1 i hlt
      have hSs := HG.out.s1 i hlt
      obtain ⟨ad, rfl, _⟩ := shp_cells HS.out HC.out hlt
      have HX3 : Aside0 (∀ W2, Below W.heap.size W W2 → Cells3 W2 ad i (G.K i) (G.R i) (G.S i)) := ⟨fun W2 hb => by
        obtain ⟨ad', h1, h2⟩ := shp_cells HS.out (Kd.C_below HC.out hb) hlt
        obtain rfl := Option.some.inj h1
        exact h2⟩
      go_wp2_with fail
      go_loopw [11] (fun k wr => ∃ (n : Nat), n ≤ G.R i ∧ k = .int .i64 n ∧ Aside0 (Lm W wr G v0 v1 v2 bx g gw gf gp cp i n)) (fun k _ => G.R i - (intOf k).toNat)
      case atStart => exact ⟨0, by omega, rfl, HM⟩
      case round =>
        obtain ⟨k, hk, rfl, HK⟩ := hrel
        clear HM
        rename World => wk
        obtain ⟨hx0, hx1, hx2⟩ := HX3.out wk HK.out.below
        clear hx0 hx2
        by_cases hkl : k < G.R i
        · have hkl' : (k : Int) < G.R i := by omega
          have HEd := Aside0.mk (HE.out i k hlt (by omega) wk HK.out.below)
          have HBX : Aside0 (∀ j u, (gArr v0 v1 v2)[j]? = some u → wk.cell? ((⟨bx, 0, none⟩ : Addr).add j) = some u) := ⟨fun j u hu => by
            rw [Addr.add_lit, Nat.zero_add, blk_cell HK.out.box j]
            simpa using hu⟩
          have HS3 := Aside0.mk (show (Try.prog.info? 52).map (·.size) = some 3 by kernel_rfl)
          go_upto_region 11 with ((with_reducible refine gate_dst (N := 39) rfl ?_); refine wpList_load_at rfl 52 (.tmp 2) rfl ⟨bx, 0, none⟩ rfl (gArr v0 v1 v2) _ HBX.out Try.underlying52 rfl HS3.out ?_)
          refine HEd.out.mono ?_
          rintro e w4 ⟨rfl, hb⟩
          have HK4 := Aside0.mk (HK.out.move hb)
          clear hb HEd HBX HS3 HK hx1
          cases hed : G.eg i k with
          | none =>
            have HK5 := Aside0.mk (HK4.out.skip (f := k) (by unfold Gp.fld; rw [if_pos hkl, hed]))
            simp only [edI]
            clear hed HK4
            go_wp2_with fail
            exact ⟨⟨k + 1, by omega, by rw [Int.natCast_succ], HK5⟩, by simp only [intOf]; omega⟩
          | some t =>
            have htN := HG.out.e1 i k t hed
            have hfl : G.fld i k = G.pa t := by unfold Gp.fld; rw [if_pos hkl, hed]
            have HSt := Aside0.mk (fun w' (h : Lm W w' G v0 v1 v2 bx g gw gf gp cp i k) => h.set HG.out hlt (by unfold Gp.len; omega))
            rw [hfl] at HSt
            simp only [edI]
            have hpt := Gp.pa_lt HG.out (Nat.le_of_lt htN)
            have hc1 : IntKind.u64.wrap (G.pa t : Int) = (G.pa t : Int) := by rw [IntKind.wrap_u64]; omega
            have ht0 : (0 : Int) ≤ (t : Int) := by omega
            have ht1 : (t : Int) < G.N := by omega
            have htn : ¬ ((t : Int) < 0) := by omega
            clear hed hfl
            go_wp2_with fail
            have HKK : Aside0 (w4.cell? ⟨gp, i, none⟩ = some (.int .i64 (G.pa i : Int)) ∧ w4.cell? ⟨gp, t, none⟩ = some (.int .i64 (G.pa t : Int))) := ⟨⟨HK4.out.at_.get i _ (plV_get G hlt), HK4.out.at_.get t _ (plV_get G htN)⟩⟩
            go_region_held3 (fun w' => w'.cell? ⟨gp, i, none⟩ = some (.int .i64 (G.pa i : Int)) ∧ w'.cell? ⟨gp, t, none⟩ = some (.int .i64 (G.pa t : Int))) (first | exact HKL.out | exact HKK.out) (first | (go_at_call 13; refine (HSt.out _ (HK4.out.move (Below.refl _ _).drew)).mono ?_; rintro e w5 ⟨rfl, hL⟩; have HL := Aside0.mk hL; have HKL : Aside0 (w5.cell? ⟨gp, i, none⟩ = some (.int .i64 (G.pa i : Int)) ∧ w5.cell? ⟨gp, t, none⟩ = some (.int .i64 (G.pa t : Int))) := ⟨⟨hL.at_.get i _ (plV_get G hlt), hL.at_.get t _ (plV_get G htN)⟩⟩; clear hL))
            go_wp2_with fail
            refine (num.calls _ _).mono ?_
            rintro e w6 ⟨rfl, rfl⟩
            go_wp2_with fail
            exact ⟨⟨k + 1, by omega, by rw [Int.natCast_succ], HL⟩, by simp only [intOf]; omega⟩
        · obtain rfl : k = G.R i := by omega
          go_wp2_with fail
          go_loopw [14] (fun k wr => ∃ (n : Nat), n ≤ G.S i ∧ k = .int .i64 n ∧ Aside0 (Lm W wr G v0 v1 v2 bx g gw gf gp cp i (G.R i + n))) (fun k _ => G.S i - (intOf k).toNat)
          case atStart => exact ⟨0, by omega, rfl, HK⟩
          case round =>
            obtain ⟨n, hn, rfl, HL⟩ := hrel
            clear HK
            rename World => wl
            obtain ⟨hx0, hx1, hx2⟩ := HX3.out wl HL.out.below
            clear hx0 hkl
            by_cases hnl : n < G.S i
            · have hnl' : (n : Int) < G.S i := by omega
              obtain ⟨a1, ha1⟩ : ∃ a1, a1 = G.R i + n := ⟨_, rfl⟩
              have HE1 := Aside0.mk (NumB.sum_i (G.R i : Int) n a1 (by omega) (by omega))
              have HL1 : Aside0 (Lm W wl G v0 v1 v2 bx g gw gf gp cp i a1) := ⟨by rw [ha1]; exact HL.out⟩
              have hfl : G.fld i a1 = rawN i n := by unfold Gp.fld; rw [if_neg (by omega), HRW.out, ha1, Nat.add_sub_cancel_left]
              have HSt := Aside0.mk (fun w' (h : Lm W w' G v0 v1 v2 bx g gw gf gp cp i a1) => h.set HG.out hlt (by unfold Gp.len; omega))
              rw [hfl] at HSt
              have HA1 := Aside0.mk ha1
              have HKK : Aside0 (wl.cell? ⟨gp, i, none⟩ = some (.int .i64 (G.pa i : Int)) ∧ wl.cell? ⟨(ad.add (i * 3)).block, (ad.add (i * 3)).off + 1, none⟩ = some (.int .i64 (G.R i : Int))) := ⟨⟨HL.out.at_.get i _ (plV_get G hlt), hx1⟩⟩
              clear ha1 hfl hx1 HL
              go_wp2_with fail
              clear hx2
              obtain ⟨e1, f1⟩ := HE1.out
              go_region_held3 (fun w' => w'.cell? ⟨gp, i, none⟩ = some (.int .i64 (G.pa i : Int)) ∧ w'.cell? ⟨(ad.add (i * 3)).block, (ad.add (i * 3)).off + 1, none⟩ = some (.int .i64 (G.R i : Int))) (first | exact HKM.out | exact HKL.out | exact HKK.out) (first | (go_at_call 41; refine (raw_all i n _).mono ?_; rintro e w5 ⟨rfl, hb⟩; have HLa := Aside0.mk (HL1.out.move (below_next (Below.refl wl.heap.size wl).drew hb)); have HKL : Aside0 (w5.cell? ⟨gp, i, none⟩ = some (.int .i64 (G.pa i : Int)) ∧ w5.cell? ⟨(ad.add (i * 3)).block, (ad.add (i * 3)).off + 1, none⟩ = some (.int .i64 (G.R i : Int))) := ⟨⟨HLa.out.at_.get i _ (plV_get G hlt), (HX3.out w5 HLa.out.below).2.1⟩⟩; clear hb) | (go_at_call 13; refine (HSt.out _ HLa.out).mono ?_; rintro e w6 ⟨rfl, hL⟩; have HLb := Aside0.mk hL; have HKM : Aside0 (w6.cell? ⟨gp, i, none⟩ = some (.int .i64 (G.pa i : Int)) ∧ w6.cell? ⟨(ad.add (i * 3)).block, (ad.add (i * 3)).off + 1, none⟩ = some (.int .i64 (G.R i : Int))) := ⟨⟨hL.at_.get i _ (plV_get G hlt), (HX3.out w6 hL.below).2.1⟩⟩; clear hL))
              clear e1 f1
              go_wp2_with fail
              refine (num.calls _ _).mono ?_
              rintro e w7 ⟨rfl, rfl⟩
              go_wp2_with fail
              exact ⟨⟨n + 1, by omega, by rw [Int.natCast_succ], ⟨by rw [← Nat.add_assoc, ← HA1.out]; exact HLb.out⟩⟩, by simp only [intOf]; omega⟩
            · obtain rfl : n = G.S i := by omega
              have HNx := Aside0.mk (HL.out.next)
              clear HL hnl
              go_wp2_with fail
              first | exact ⟨⟨i + 1, by omega, by rw [Int.natCast_succ], HNx⟩, by simp only [intOf]; omega⟩ | (refine ⟨?_, ?_⟩; (repeat apply Exists.intro); exact ⟨⟨i + 1, by omega, by rw [Int.natCast_succ], HNx⟩, rfl⟩; show G.N - (intOf (.int .i64 ((i : Int) + 1))).toNat < G.N - (intOf (.int .i64 (i : Int))).toNat; simp only [intOf]; omega)
    · obtain rfl : i = G.N := by omega
      have HF := Aside0.mk HM.out
      clear HM hlt
      go_wp2_with fail
      go_ret3
      refine ⟨g, gw, gf, gp, cp, by simp, ⟨?_, .inr ⟨gp, cp, by rw [plV_len], HF.out.at_⟩, HF.out.g0, HF.out.gw0, HF.out.gf0, ?_, HF.out.below⟩, HF.out.at_⟩
      · rw [← G.lay_all]; exact HF.out.ar
      · intro k hk
        obtain rfl := Option.some.inj hk
        exact HF.out.gp0
end Go.Proofs.Ytgjcffjicbmkhaa.LayW
end

section
/- What stands in memory while the copying collector runs: two blocks, the list of places, the graph's value. -/
namespace Go.Proofs.Ytgjcffjicbmkhaa.CopM
open Go Go.RowKit Go.Proofs.YtgjcffjicbmkhaaW.PrintWords Go.Proofs.YtgjcffjicbmkhaaW.PrintLast Go.Proofs.YtgjcffjicbmkhaaW.PrintMore Go.Proofs.Ytgjcffjicbmkhaa.PF Go.Proofs.Ytgjcffjicbmkhaa.RowU Go.Proofs.Ytgjcffjicbmkhaa.ArS Go.Proofs.Ytgjcffjicbmkhaa.ArM Go.Proofs.Ytgjcffjicbmkhaa.ArX Go.Proofs.Ytgjcffjicbmkhaa.ArY Go.Proofs.Ytgjcffjicbmkhaa.ArZ Go.Proofs.Ytgjcffjicbmkhaa.ArT Go.Proofs.Ytgjcffjicbmkhaa.ArV Go.Proofs.Ytgjcffjicbmkhaa.ArP Go.Proofs.Ytgjcffjicbmkhaa.GenM Go.Proofs.Ytgjcffjicbmkhaa.TakS Go.Proofs.Ytgjcffjicbmkhaa.FillL Go.Proofs.Ytgjcffjicbmkhaa.RfdM Go.Proofs.Ytgjcffjicbmkhaa.ColS Go.Proofs.Ytgjcffjicbmkhaa.ColR Go.Proofs.Ytgjcffjicbmkhaa.LayW
set_option linter.unusedVariables false
set_option maxRecDepth 100000

def Ext (o o' : List Nat) : Prop := ∃ x, o' = o ++ x
theorem Ext.refl (o : List Nat) : Ext o o := ⟨[], by simp⟩
theorem Ext.trans {a b c : List Nat} (h : Ext a b) (k : Ext b c) : Ext a c := by
  obtain ⟨x, rfl⟩ := h
  obtain ⟨y, rfl⟩ := k
  exact ⟨x ++ y, by simp⟩
theorem Ext.mem {o o' : List Nat} (h : Ext o o') {t : Nat} (ht : t ∈ o) : t ∈ o' := by
  obtain ⟨x, rfl⟩ := h
  exact List.mem_append_left _ ht
theorem Ext.at_ {o o' : List Nat} (h : Ext o o') {s : Nat} (hs : s < o.length) : ordAt o' s = ordAt o s := by
  obtain ⟨x, rfl⟩ := h
  unfold ordAt
  rw [List.getD_eq_getElem?_getD, List.getD_eq_getElem?_getD, List.getElem?_append_left hs]
theorem Ext.len {o o' : List Nat} (h : Ext o o') : o.length ≤ o'.length := by
  obtain ⟨x, rfl⟩ := h
  simp
theorem Ext.pb {G : Gp} {o o' : List Nat} (h : Ext o o') {s : Nat} (hs : s ≤ o.length) : G.pb o' s = G.pb o s := by
  unfold Gp.pb
  exact plf_congr fun m hm => by rw [h.at_ (by omega)]
/-- The blocks that the copying may change. -/
def CS (gb gwb gfb ga gwa gfa : Nat) : Nat → Prop := fun b => three_ gb gwb gfb b ∨ three_ ga gwa gfa b
structure Cq (W wc : World) (G : Gp) (rt : List Nat) (v0 v1 v2 : Value) (bx gp cp szb ga gwa gfa gb gwb0 gfb0 gwb gfb : Nat) (o : List Nat) (s k : Nat) : Prop where
  pair : Pair wc gb gwb gfb szb (G.bL o s k) ga gwa gfa (G.pa G.N) (G.aL o) false
  at_ : GenAt 3 wc gp cp (plV G)
  box : wc.heap[bx]? = some (.cells (gArr v0 v1 v2).toArray 52 (0, 0))
  cop : Cop G rt o
  inv : G.inv o s k
  hs : s < o.length ∨ (s = o.length ∧ k = 0)
  nbx : ¬ CS gb gwb gfb ga gwa gfa bx
  ngp : ¬ CS gb gwb gfb ga gwa gfa gp
  upd : Upd (CS gb gwb0 gfb0 ga gwa gfa) W wc
  n1 : gwb = gwb0 ∨ W.heap.size ≤ gwb
  n2 : gfb = gfb0 ∨ W.heap.size ≤ gfb
theorem Cq.move {W wc w' : World} {G : Gp} {rt : List Nat} {v0 v1 v2 : Value} {bx gp cp szb ga gwa gfa gb gwb0 gfb0 gwb gfb : Nat} {o : List Nat} {s k : Nat} (h : Cq W wc G rt v0 v1 v2 bx gp cp szb ga gwa gfa gb gwb0 gfb0 gwb gfb o s k) (hb : Below wc.heap.size wc w') : Cq W w' G rt v0 v1 v2 bx gp cp szb ga gwa gfa gb gwb0 gfb0 gwb gfb o s k :=
  ⟨h.pair.below hb, h.at_.upd (S := none_) (Upd.of_below hb) (fun h => h), blk_below h.box hb, h.cop, h.inv, h.hs, h.nbx, h.ngp, h.upd.trans (Upd.of_below hb), h.n1, h.n2⟩
/-- Object t is asked for. -/
theorem Cq.take {W wc : World} {G : Gp} {rt : List Nat} {v0 v1 v2 : Value} {bx gp cp szb ga gwa gfa gb gwb0 gfb0 gwb gfb : Nat} {o : List Nat} {s k : Nat} (h : Cq W wc G rt v0 v1 v2 bx gp cp szb ga gwa gfa gb gwb0 gfb0 gwb gfb o s k) (t : Nat) (htN : t < G.N) (hr : ColR.Reach G rt t) :
    Calls Try.prog 42 #[.pointer (some ⟨gb, 0, none⟩), .pointer (some ⟨ga, 0, none⟩), .int .i64 (G.pa t : Int)] wc fun e w' =>
      (∃ o' gwb' gfb', e = .returned (.tuple #[.int .i64 (G.pb o' (o'.idxOf t) : Int), .int .i64 0]) ∧ Ext o o' ∧ t ∈ o' ∧ Cq W w' G rt v0 v1 v2 bx gp cp szb ga gwa gfa gb gwb0 gfb0 gwb' gfb' o' s k) ∨
      (∃ gwb' gfb', e = .returned (.tuple #[.int .i64 0, .int .i64 22]) ∧ t ∉ o ∧ szb < G.pb o o.length + (1 + G.len t) ∧ Cq W w' G rt v0 v1 v2 bx gp cp szb ga gwa gfa gb gwb0 gfb0 gwb' gfb' o s k) := by
  refine (take_all h.pair (G.pa t : Int)).mono ?_
  rintro e w' ⟨rfl, gwb', gfb', hP, h1, h2, hu⟩
  have hlt : ∀ b, CS gb gwb gfb ga gwa gfa b → b < wc.heap.size := by
    obtain ⟨a1, a2, a3⟩ := ArAt.lt3 h.pair.A
    obtain ⟨b1, b2, b3⟩ := ArAt.lt3 h.pair.S
    rintro b ((rfl | rfl | rfl) | (rfl | rfl | rfl)) <;> assumption
  have hsz := h.upd.size
  have hgp := h.at_.lt
  have hbx := cell_lt h.box
  have hCS : ∀ b, CS gb gwb' gfb' ga gwa gfa b → CS gb gwb gfb ga gwa gfa b ∨ wc.heap.size ≤ b := by
    rintro b ((rfl | rfl | rfl) | hb)
    · exact .inl (.inl (.inl rfl))
    · rcases h1 with h1 | h1
      · exact .inl (.inl (.inr (.inl h1)))
      · exact .inr h1
    · rcases h2 with h2 | h2
      · exact .inl (.inl (.inr (.inr h2)))
      · exact .inr h2
    · exact .inl (.inr hb)
  have hCS0 : ∀ b, CS gb gwb gfb ga gwa gfa b → CS gb gwb0 gfb0 ga gwa gfa b ∨ W.heap.size ≤ b := by
    rintro b ((rfl | rfl | rfl) | hb)
    · exact .inl (.inl (.inl rfl))
    · rcases h.n1 with h1 | h1
      · exact .inl (.inl (.inr (.inl h1)))
      · exact .inr h1
    · rcases h.n2 with h2 | h2
      · exact .inl (.inl (.inr (.inr h2)))
      · exact .inr h2
    · exact .inl (.inr hb)
  have hnbx : ¬ CS gb gwb' gfb' ga gwa gfa bx := fun hb => by rcases hCS bx hb with h3 | h3; exact h.nbx h3; omega
  have hngp : ¬ CS gb gwb' gfb' ga gwa gfa gp := fun hb => by rcases hCS gp hb with h3 | h3; exact h.ngp h3; omega
  have hat := h.at_.upd hu h.ngp
  have hbox := blk_upd h.box hu h.nbx
  have hupd := h.upd.trans2 hu hCS0
  have hn1 : gwb' = gwb0 ∨ W.heap.size ≤ gwb' := by
    rcases h1 with h1 | h1
    · rw [h1]; exact h.n1
    · exact .inr (by omega)
  have hn2 : gfb' = gfb0 ∨ W.heap.size ≤ gfb' := by
    rcases h2 with h2 | h2
    · rw [h2]; exact h.n2
    · exact .inr (by omega)
  by_cases ht : t ∈ o
  · rw [G.take_old ht htN] at hP ⊢
    exact .inl ⟨o, gwb', gfb', rfl, Ext.refl _, ht, ⟨hP, hat, hbox, h.cop, h.inv, h.hs, hnbx, hngp, hupd, hn1, hn2⟩⟩
  · by_cases hz : szb < G.pb o o.length + (1 + G.len t)
    · rw [G.take_full ht htN hz] at hP ⊢
      exact .inr ⟨gwb', gfb', rfl, ht, hz, ⟨hP, hat, hbox, h.cop, h.inv, h.hs, hnbx, hngp, hupd, hn1, hn2⟩⟩
    · rw [G.take_new h.inv h.hs ht htN hz] at hP ⊢
      refine .inl ⟨o ++ [t], gwb', gfb', rfl, ⟨[t], rfl⟩, by simp, ⟨hP, hat, hbox, h.cop.add ht htN hr, Gp.inv_app h.inv h.hs, ?_, hnbx, hngp, hupd, hn1, hn2⟩⟩
      rcases h.hs with h3 | ⟨h3, h4⟩
      · exact .inl (by simp; omega)
      · exact .inl (by simp; omega)
/-- A ref that leads to a copied object is turned. -/
theorem Cq.set {W wc : World} {G : Gp} {rt : List Nat} {v0 v1 v2 : Value} {bx gp cp szb ga gwa gfa gb gwb0 gfb0 gwb gfb : Nat} {o : List Nat} {s k : Nat} (h : Cq W wc G rt v0 v1 v2 bx gp cp szb ga gwa gfa gb gwb0 gfb0 gwb gfb o s k) {t : Nat} (hs : s < o.length) (hk : k < G.R (ordAt o s)) (he : G.eg (ordAt o s) k = some t) (ht : t ∈ o) :
    Calls Try.prog 13 #[.pointer (some ⟨gb, 0, none⟩), .int .i64 (G.pb o s : Int), .int .i64 (k : Int), .int .u64 (G.pb o (o.idxOf t) : Int)] wc fun e w' => e = .returned (.int .i64 0) ∧ Cq W w' G rt v0 v1 v2 bx gp cp szb ga gwa gfa gb gwb0 gfb0 gwb gfb o s (k + 1) := by
  have hb : G.pb o (o.idxOf t) ≤ 1048576 := by
    obtain ⟨cw, cf, fs, hA⟩ := h.pair.A
    have h1 := hA.fit
    have h2 := hA.sz1
    rw [G.used_b] at h1
    have h3 : G.pb o (o.idxOf t) ≤ G.pb o o.length := plf_mono _ (Nat.le_of_lt (List.idxOf_lt_length_iff.2 ht))
    omega
  refine (set_yes h.pair.A (G.b_get o s k hs) rfl k (G.pb o (o.idxOf t)) (by rw [G.bF_len]; unfold Gp.len; omega) (by omega) (G.pb o s) (G.place_b o s k (Nat.le_of_lt hs)).symm).mono ?_
  rintro e w' ⟨rfl, hA, hu⟩
  rw [G.b_put hs he hk] at hA
  have hin : ∀ b, b = gwb → CS gb gwb gfb ga gwa gfa b := fun b hb => .inl (.inr (.inl hb))
  have hsep : Sep gb gwb gfb ga gwa gfa := h.pair.R
  have hCS0 : ∀ b, b = gwb → CS gb gwb0 gfb0 ga gwa gfa b ∨ W.heap.size ≤ b := by
    rintro b rfl
    rcases h.n1 with h1 | h1
    · exact .inl (.inl (.inr (.inl h1)))
    · exact .inr h1
  refine ⟨rfl, ⟨⟨hA, h.pair.S.upd hu (fun e => hsep gwb (.inr (.inl rfl)) (e ▸ .inl rfl)) (fun e => hsep gwb (.inr (.inl rfl)) (e ▸ .inr (.inl rfl))) (fun e => hsep gwb (.inr (.inl rfl)) (e ▸ .inr (.inr rfl))), h.pair.R⟩, h.at_.upd hu (fun e => h.ngp (hin _ e)), blk_upd h.box hu (fun e => h.nbx (hin _ e)), h.cop, Gp.inv_step h.inv (fun u hu => ?_), .inl hs, h.nbx, h.ngp, h.upd.trans2 hu hCS0, h.n1, h.n2⟩⟩
  rw [he] at hu
  obtain rfl := Option.some.inj hu
  exact ht
theorem Cq.skip {W wc : World} {G : Gp} {rt : List Nat} {v0 v1 v2 : Value} {bx gp cp szb ga gwa gfa gb gwb0 gfb0 gwb gfb : Nat} {o : List Nat} {s k : Nat} (h : Cq W wc G rt v0 v1 v2 bx gp cp szb ga gwa gfa gb gwb0 gfb0 gwb gfb o s k) (hs : s < o.length) (he : G.eg (ordAt o s) k = none) : Cq W wc G rt v0 v1 v2 bx gp cp szb ga gwa gfa gb gwb0 gfb0 gwb gfb o s (k + 1) :=
  ⟨by rw [G.b_skip he]; exact h.pair, h.at_, h.box, h.cop, Gp.inv_step h.inv (fun u hu => by rw [he] at hu; cases hu), .inl hs, h.nbx, h.ngp, h.upd, h.n1, h.n2⟩
theorem Cq.next {W wc : World} {G : Gp} {rt : List Nat} {v0 v1 v2 : Value} {bx gp cp szb ga gwa gfa gb gwb0 gfb0 gwb gfb : Nat} {o : List Nat} {s k : Nat} (h : Cq W wc G rt v0 v1 v2 bx gp cp szb ga gwa gfa gb gwb0 gfb0 gwb gfb o s k) (hs : s < o.length) (hk : k = G.R (ordAt o s)) : Cq W wc G rt v0 v1 v2 bx gp cp szb ga gwa gfa gb gwb0 gfb0 gwb gfb o (s + 1) 0 := by
  subst hk
  exact ⟨by rw [← G.b_next]; exact h.pair, h.at_, h.box, h.cop, Gp.inv_next h.inv, by omega, h.nbx, h.ngp, h.upd, h.n1, h.n2⟩
theorem Cq.object {W wc : World} {G : Gp} {rt : List Nat} {v0 v1 v2 : Value} {bx gp cp szb ga gwa gfa gb gwb0 gfb0 gwb gfb : Nat} {o : List Nat} {s k : Nat} (h : Cq W wc G rt v0 v1 v2 bx gp cp szb ga gwa gfa gb gwb0 gfb0 gwb gfb o s k) (hs : s < o.length) :
    Calls Try.prog 15 #[.pointer (some ⟨gb, 0, none⟩), .int .i64 (G.pb o s : Int)] wc fun e w' => e = .returned (.tuple #[.int .i64 (G.K (ordAt o s) : Int), .int .i64 (G.R (ordAt o s) : Int), .int .i64 (G.S (ordAt o s) : Int), .int .i64 0]) ∧ Below wc.heap.size wc w' :=
  object_yes h.pair.A (G.b_get o s k hs) rfl (G.pb o s) (G.place_b o s k (Nat.le_of_lt hs)).symm _ _ _ rfl rfl (G.bF_len o s k s)
def refN (G : Gp) : Option Nat → Nat
  | none => 0
  | some t => G.pa t
theorem Cq.get {W wc : World} {G : Gp} {rt : List Nat} {v0 v1 v2 : Value} {bx gp cp szb ga gwa gfa gb gwb0 gfb0 gwb gfb : Nat} {o : List Nat} {s k : Nat} (h : Cq W wc G rt v0 v1 v2 bx gp cp szb ga gwa gfa gb gwb0 gfb0 gwb gfb o s k) (hs : s < o.length) (hk : k < G.R (ordAt o s)) :
    Calls Try.prog 16 #[.pointer (some ⟨gb, 0, none⟩), .int .i64 (G.pb o s : Int), .int .i64 (k : Int)] wc fun e w' => e = .returned (.tuple #[.int .u64 (refN G (G.eg (ordAt o s) k) : Int), .int .i64 0]) ∧ Below wc.heap.size wc w' := by
  refine get_yes h.pair.A (G.b_get o s k hs) rfl k _ ?_ (G.pb o s) (G.place_b o s k (Nat.le_of_lt hs)).symm
  rw [G.ref_at o s k hk]
  cases G.eg (ordAt o s) k <;> rfl
theorem Cq.used {W wc : World} {G : Gp} {rt : List Nat} {v0 v1 v2 : Value} {bx gp cp szb ga gwa gfa gb gwb0 gfb0 gwb gfb : Nat} {o : List Nat} {s k : Nat} (h : Cq W wc G rt v0 v1 v2 bx gp cp szb ga gwa gfa gb gwb0 gfb0 gwb gfb o s k) :
    Calls Try.prog 18 #[.pointer (some ⟨gb, 0, none⟩)] wc fun e w' => e = .returned (.int .i64 (G.pb o o.length : Int)) ∧ Below wc.heap.size wc w' := by
  have := used.calls h.pair.A
  rw [G.used_b] at this
  exact this
theorem Cq.fit {W wc : World} {G : Gp} {rt : List Nat} {v0 v1 v2 : Value} {bx gp cp szb ga gwa gfa gb gwb0 gfb0 gwb gfb : Nat} {o : List Nat} {s k : Nat} (h : Cq W wc G rt v0 v1 v2 bx gp cp szb ga gwa gfa gb gwb0 gfb0 gwb gfb o s k) : G.pb o o.length ≤ szb ∧ szb ≤ 1048576 := by
  obtain ⟨cw, cf, fs, hA⟩ := h.pair.A
  have h1 := hA.fit
  rw [G.used_b] at h1
  exact ⟨h1, hA.sz1⟩
theorem pb_step (G : Gp) (o : List Nat) (s : Nat) : G.pb o (s + 1) = G.pb o s + (1 + G.len (ordAt o s)) := rfl
end Go.Proofs.Ytgjcffjicbmkhaa.CopM
end

section
/- larderlaw2.reached walked: what the roots lead to. -/
namespace Go.Proofs.Ytgjcffjicbmkhaa.SeeW
open Go Go.RowKit Go.Proofs.YtgjcffjicbmkhaaW.PrintWords Go.Proofs.YtgjcffjicbmkhaaW.PrintLast Go.Proofs.YtgjcffjicbmkhaaW.PrintMore Go.Proofs.Ytgjcffjicbmkhaa.PF Go.Proofs.Ytgjcffjicbmkhaa.RowU Go.Proofs.Ytgjcffjicbmkhaa.ArS Go.Proofs.Ytgjcffjicbmkhaa.ArM Go.Proofs.Ytgjcffjicbmkhaa.ArV Go.Proofs.Ytgjcffjicbmkhaa.GenM Go.Proofs.Ytgjcffjicbmkhaa.TakS Go.Proofs.Ytgjcffjicbmkhaa.FillL Go.Proofs.Ytgjcffjicbmkhaa.RfdM Go.Proofs.Ytgjcffjicbmkhaa.ColS Go.Proofs.Ytgjcffjicbmkhaa.ColR Go.Proofs.Ytgjcffjicbmkhaa.LayW
set_option linter.unusedVariables false
set_option maxRecDepth 100000

theorem infoB : ∃ i, Try.prog.info? 4 = some i ∧ i.zero = some (.bool false) ∧ i.size = 1 ∧ i.bytes = 1 := by
  have h : (Try.prog.info? 4).map (fun i => (i.zero, i.size, i.bytes)) = some (some (.bool false), 1, 1) := by kernel_rfl
  obtain ⟨i, hi, hz⟩ := Option.map_eq_some_iff.1 h
  simp only [Prod.mk.injEq] at hz
  exact ⟨i, hi, hz.1, hz.2.1, hz.2.2⟩
theorem make_bool (n : Nat) (hn : n ≤ 10000000000000) (u : World) : (Instr.makeSlice 53 (.int .i64 (n : Int)) (.int .i64 (n : Int))).run Try.prog u =
    .ok (.slice (some ⟨u.heap.size, 0, none⟩) n n) (u.alloc (.cells (madeCells #[.bool false] n) 4)) := by
  obtain ⟨i0, hi, hz0, hz1, hz2⟩ := infoB
  have h := run_make (P := Try.prog) u 53 4 i0 (.bool false) Try.underlying53 hi hz0 .i64 .i64 (n : Int) (n : Int) (by omega) (Int.le_refl _) (by rw [hz2]; omega) (by omega)
  simpa [hz1, Value.cells] using h
def boolsV (P : Nat → Bool) (n : Nat) : List Value := (List.range n).map fun i => .bool (P i)
theorem boolsV_get (P : Nat → Bool) {n i : Nat} (h : i < n) : (boolsV P n)[i]? = some (.bool (P i)) := by simp [boolsV, h]
theorem boolsV_set (P : Nat → Bool) {n i : Nat} (h : i < n) : (boolsV P n).set i (.bool true) = boolsV (upP P i) n := by
  apply List.ext_getElem?
  intro j
  rw [List.getElem?_set]
  by_cases hj : j < n
  · rw [boolsV_get _ hj, boolsV_get _ hj]
    by_cases hij : i = j
    · subst hij; simp [boolsV, hj, upP]
    · rw [if_neg hij]; unfold upP; rw [if_neg (fun e => hij e.symm)]
  · rw [List.getElem?_eq_none (by simp [boolsV]; omega), List.getElem?_eq_none (by simp [boolsV]; omega)]
    by_cases hij : i = j
    · subst hij; omega
    · rw [if_neg hij]
theorem bools_made (w : World) (n : Nat) (hn : n ≤ maxLen) : GenAt 4 (w.alloc (.cells (madeCells #[.bool false] n) 4)) w.heap.size n (boolsV (fun _ => false) n) := by
  refine ⟨List.replicate n (.bool false), ?_, by simp, by simp [boolsV], hn, ?_⟩
  · have := blk_new w (.cells (madeCells #[.bool false] n) 4)
    rw [this]
    congr 2
    apply Array.toList_inj.1
    rw [toList_madeCells_one]
  · apply List.ext_getElem?
    intro j
    by_cases hj : j < n
    · simp [boolsV, hj]
    · rw [List.getElem?_eq_none (by simp [boolsV]; omega), List.getElem?_eq_none (by simp [boolsV]; omega)]
theorem _root_.Go.Proofs.Ytgjcffjicbmkhaa.GenM.GenAt.cut {T : TypeId} {W : World} {g cap : Nat} {l l2 : List Value} (h : GenAt T W g cap (l ++ l2)) : GenAt T W g cap l := by
  obtain ⟨cur, h1, h2, h3, h5, h4⟩ := h
  refine ⟨cur, h1, h2, by rw [List.length_append] at h3; omega, h5, ?_⟩
  have := congrArg (fun r => r.take l.length) h4
  simpa [List.take_take] using this
def natV (ws : List Nat) : List Value := ws.map fun (x : Nat) => .int .i64 (x : Int)
theorem natV_snoc (ws : List Nat) (i : Nat) : natV (ws ++ [i]) = natV ws ++ [.int .i64 (i : Int)] := by simp [natV]
theorem natV_len (ws : List Nat) : (natV ws).length = ws.length := by simp [natV]
theorem int_cell {W : World} {A : Option Addr} {ls : List Int} (h : Kd.C (Kd.int .i64) W A ls.length ls) (i : Nat) (x : Int) (hx : ls[i]? = some x) : ∃ ad, A = some ad ∧ W.cell? (ad.add i) = some (.int .i64 x) := by
  have hi := (List.getElem?_eq_some_iff.1 hx).1
  obtain ⟨ad, c, e, _, hK, hc0⟩ := Kd.C_get h 0 (i : Int) (by omega) (by omega)
  rw [Int.toNat_natCast] at hK hc0
  have hd : ls.getD i 0 = x := by rw [List.getD_eq_getElem?_getD, hx]; rfl
  rw [hd] at hK
  obtain rfl : c = [.int .i64 x] := hK
  have hc : ∀ j u, [Value.int .i64 x][j]? = some u → W.cell? (ad.add (i * 1 + j)) = some u := hc0
  have := hc 0 _ rfl
  rw [Nat.mul_one, Nat.add_zero] at this
  exact ⟨ad, e, this⟩
def wr (x : Int) (n : Nat) : Nat := ((larderlaw2_within.f x (n : Int)).getD 0).toNat
theorem wr_all (x : Int) (n : Nat) (h : 0 < n) (hn : n ≤ 1000000) : wr x n < n ∧ ∀ w : World, Calls Try.prog 12 #[.int .i64 x, .int .i64 (n : Int)] w fun e w' => e = .returned (.int .i64 (wr x n : Int)) ∧ Below w.heap.size w w' := by
  obtain ⟨r, h1, h2, h3⟩ := within_calls x n h hn
  have : wr x n = r := by unfold wr; rw [h2]; simp
  rw [this]
  exact ⟨h1, h3⟩
def rootsOf (rs : List Int) (n : Nat) : List Nat := rs.map fun x => wr x n
theorem root_at (rs : List Int) (n i : Nat) (x : Int) (hx : rs[i]? = some x) : (rootsOf rs n)[i]? = some (wr x n) := by simp [rootsOf, hx]
def lenOf : Value → Nat
  | .slice _ n _ => n
  | _ => 0
/-- Amidst the search. -/
structure Sk (W wc : World) (G : Gp) (rt : List Nat) (v0 v1 v2 : Value) (bx gs : Nat) (P : Nat → Bool) (work : List Nat) (vw : Value) (D : Nat → Nat → Prop) : Prop where
  sk : Seek G rt P work D
  seen : GenAt 4 wc gs G.N (boolsV P G.N)
  wk : GV 3 wc vw (natV work)
  box : wc.heap[bx]? = some (.cells (gArr v0 v1 v2).toArray 52 (0, 0))
  bgs : bx < gs
  bx0 : W.heap.size ≤ bx
  wv : ∀ k, vw.ownBlock = some k → gs < k
  below : Below W.heap.size W wc
theorem Sk.move {W wc w' : World} {G : Gp} {rt : List Nat} {v0 v1 v2 : Value} {bx gs : Nat} {P : Nat → Bool} {work : List Nat} {vw : Value} {D : Nat → Nat → Prop} (h : Sk W wc G rt v0 v1 v2 bx gs P work vw D) (hb : Below wc.heap.size wc w') : Sk W w' G rt v0 v1 v2 bx gs P work vw D :=
  ⟨h.sk, h.seen.upd (S := none_) (Upd.of_below hb) (fun h => h), h.wk.upd (S := none_) (Upd.of_below hb) (fun _ _ h => h), blk_below h.box hb, h.bgs, h.bx0, h.wv, below_next h.below hb⟩
/-- One more on the list. -/
theorem Sk.grow {W wc w1 w' : World} {G : Gp} {rt rt' : List Nat} {v0 v1 v2 : Value} {bx gs : Nat} {P : Nat → Bool} {work : List Nat} {vw v' : Value} {D D' : Nat → Nat → Prop} {t : Nat} (h : Sk W wc G rt v0 v1 v2 bx gs P work vw D) (hb : Below wc.heap.size wc w1)
    (hv : GV 3 w' v' (natV work ++ [.int .i64 (t : Int)])) (ho : ∀ k, v'.ownBlock = some k → (vw.ownBlock = some k ∨ w1.heap.size ≤ k)) (hu : Upd (fun k => vw.ownBlock = some k) w1 w') (hs : Seek G rt' P (work ++ [t]) D') : Sk W w' G rt' v0 v1 v2 bx gs P (work ++ [t]) v' D' := by
  have h1 := h.move hb
  have hgs := h1.seen.lt
  have hbg := h1.bgs
  have hb0 := h1.bx0
  refine ⟨hs, h1.seen.upd hu (fun hk => ?_), by rw [natV_snoc]; exact hv, blk_upd h1.box hu (fun hk => ?_), hbg, hb0, fun k hk => ?_, Upd.to_below h1.below hu h1.below.size (fun k hk => ?_)⟩
  · have := h1.wv _ hk; omega
  · have := h1.wv _ hk; omega
  · rcases ho k hk with h2 | h2
    · exact h1.wv k h2
    · omega
  · have := h1.wv k hk; omega
/-- The last is taken off the list. -/
theorem Sk.last {W wc : World} {G : Gp} {rt : List Nat} {v0 v1 v2 : Value} {bx gs : Nat} {P : Nat → Bool} {work : List Nat} {i : Nat} {vw : Value} {D : Nat → Nat → Prop} (h : Sk W wc G rt v0 v1 v2 bx gs P (work ++ [i]) vw D) : ∃ g cap, vw = .slice (some ⟨g, 0, none⟩) (work.length + 1) cap ∧ gs < g ∧ GenAt 3 wc g cap (natV work ++ [.int .i64 (i : Int)]) := by
  rcases h.wk with ⟨_, h2⟩ | ⟨g, cap, h1, h2⟩
  · simp [natV] at h2
  · rw [natV_snoc] at h2
    refine ⟨g, cap, ?_, h.wv g (by rw [h1]; rfl), h2⟩
    rw [h1, natV_len, List.length_append, List.length_singleton]
theorem Sk.pop {W wc : World} {G : Gp} {rt : List Nat} {v0 v1 v2 : Value} {bx gs : Nat} {P : Nat → Bool} {work : List Nat} {i g cap : Nat} {D D' : Nat → Nat → Prop} (h : Sk W wc G rt v0 v1 v2 bx gs P (work ++ [i]) (.slice (some ⟨g, 0, none⟩) (work.length + 1) cap) D) (hg : GenAt 3 wc g cap (natV work ++ [.int .i64 (i : Int)])) (hs : Seek G rt P work D') : Sk W wc G rt v0 v1 v2 bx gs P work (.slice (some ⟨g, 0, none⟩) work.length cap) D' :=
  ⟨hs, h.seen, .inr ⟨g, cap, by rw [natV_len], hg.cut⟩, h.box, h.bgs, h.bx0, fun k hk => h.wv k (by exact hk), h.below⟩
/-- ... and seen. -/
theorem Sk.see {W wc : World} {G : Gp} {rt : List Nat} {v0 v1 v2 : Value} {bx gs : Nat} {P : Nat → Bool} {work : List Nat} {i g cap : Nat} {D D' : Nat → Nat → Prop} (h : Sk W wc G rt v0 v1 v2 bx gs P (work ++ [i]) (.slice (some ⟨g, 0, none⟩) (work.length + 1) cap) D) (hg : GenAt 3 wc g cap (natV work ++ [.int .i64 (i : Int)])) (hi : i < G.N) (hs : Seek G rt (upP P i) work D') : Sk W (wc.setCell ⟨gs, i, none⟩ (.bool true)) G rt v0 v1 v2 bx gs (upP P i) work (.slice (some ⟨g, 0, none⟩) work.length cap) D' := by
  have hgg : gs < g := h.wv g rfl
  have hU : Upd (fun b => b = gs) wc (wc.setCell ⟨gs, i, none⟩ (.bool true)) := Upd.put (S := fun b => b = gs) (Upd.refl _ wc) (.inl rfl) i _
  have hb0 := h.bx0
  have hbg := h.bgs
  refine ⟨hs, ?_, .inr ⟨g, cap, by rw [natV_len], hg.cut.upd hU (by omega)⟩, blk_upd h.box hU (by omega), hbg, hb0, fun k hk => h.wv k (by exact hk), below_put h.below (by omega) _ _⟩
  have := h.seen.set i (by simp [boolsV]; exact hi) (.bool true)
  rw [boolsV_set P hi] at this
  exact this
set_option maxHeartbeats 4000000 in
theorem reached.calls (G : Gp) (hG : G.ok) (l : List S28) (hS : Shp G l) (hpos : 0 < G.N) (A : Option Addr) (c : Nat) (v0 v1 : Value) (Ar : Option Addr) (rs : List Int) (cr : Nat) (W : World) (hC : Kd.C k28 W A l.length l) (hc : G.N ≤ c)
    (hR : Kd.C (Kd.int .i64) W Ar rs.length rs) (hrl : rs.length ≤ 1048576) (hE : EdgesOk W v0 v1 (.slice Ar rs.length cr) G) :
    Calls Try.prog 20 #[.agg (gArr v0 v1 (.slice Ar rs.length cr)).toArray, .slice A G.N c] W fun e w' => ∃ gs P, e = .returned (.tuple #[.slice (some ⟨gs, 0, none⟩) G.N G.N, .int .i64 (G.tot P G.N : Int)]) ∧ GenAt 4 w' gs G.N (boolsV P G.N) ∧ W.heap.size ≤ gs ∧ (∀ i, P i = true ↔ ColR.Reach G (rootsOf rs G.N) i) ∧ Below W.heap.size W w' := by
  have HC := Aside0.mk hC
  have HE := Aside0.mk hE
  have HG := Aside0.mk hG
  have HS := Aside0.mk hS
  have HR := Aside0.mk hR
  have hN := hG.n1
  have HWR := Aside0.mk (fun x => wr_all x G.N hpos (by omega))
  have HRT : Aside0 (∀ r ∈ rootsOf rs G.N, r < G.N) := ⟨fun r hr => by
    obtain ⟨x, _, rfl⟩ := List.mem_map.1 hr
    exact (HWR.out x).1⟩
  have HTL := Aside0.mk (fun P => Gp.tot_le hG P G.N (Nat.le_refl _))
  clear hC hE hG hS hR
  have hmk := make_bool G.N (by omega)
  go_enter Try.func20, Try.ntmps20
  go_wp2_with fail
  obtain ⟨bx, hbx⟩ : ∃ bx, bx = W.heap.size := ⟨_, rfl⟩
  obtain ⟨gs, hgs⟩ : ∃ gs, gs = W.heap.size + 1 := ⟨_, rfl⟩
  have HK0 : Aside0 (Sk W ((W.alloc (.cells (gArr v0 v1 (.slice Ar rs.length cr)).toArray 52)).alloc (.cells (madeCells #[.bool false] G.N) 4)) G ((rootsOf rs G.N).take 0) v0 v1 (.slice Ar rs.length cr) bx gs (fun _ => false) ((rootsOf rs G.N).take 0) (.slice none 0 0) all2) := ⟨by
    have hb1 := below_alloc (Below.refl W.heap.size W) (.cells (gArr v0 v1 (.slice Ar rs.length cr)).toArray 52)
    have hx := blk_new W (.cells (gArr v0 v1 (.slice Ar rs.length cr)).toArray 52)
    have hm := bools_made (W.alloc (.cells (gArr v0 v1 (.slice Ar rs.length cr)).toArray 52)) G.N (Nat.le_trans hN (by decide))
    refine ⟨Seek.start (fun i hi => by simp at hi), ?_, GV.nil _ _, ?_, by omega, by omega, fun k hk => (by cases hk), below_alloc hb1 _⟩
    · rw [hgs]
      simpa using hm
    · rw [hbx]
      exact blk_below hx (below_alloc (Below.refl _ _) _)⟩
  have HBG : Aside0 (W.heap.size ≤ gs) := ⟨by omega⟩
  rw [← hgs, ← hbx]
  clear hgs hbx hmk
  generalize ((W.alloc (.cells (gArr v0 v1 (.slice Ar rs.length cr)).toArray 52)).alloc (.cells (madeCells #[.bool false] G.N) 4)) = w1 at *
  go_loopw [7, 8] (fun vw i wc => ∃ (n : Nat), n ≤ rs.length ∧ i = .int .i64 n ∧ Aside0 (Sk W wc G ((rootsOf rs G.N).take n) v0 v1 (.slice Ar rs.length cr) bx gs (fun _ => false) ((rootsOf rs G.N).take n) vw all2)) (fun _ i _ => rs.length - (intOf i).toNat)
  case atStart => exact ⟨0, by omega, rfl, HK0⟩
  case round =>
    obtain ⟨i, hi, rfl, HK⟩ := hrel
    clear HK0
    rename World => wc
    have hx2 : wc.cell? ⟨bx, 2, none⟩ = some (.slice Ar rs.length cr) := (blk_cell HK.out.box 2).trans rfl
    by_cases hlt : i < rs.length
    · have hlt' : (i : Int) < rs.length := by omega
      obtain ⟨x, hx⟩ : ∃ x, rs[i]? = some x := ⟨_, List.getElem?_eq_getElem hlt⟩
      obtain ⟨ad, rfl, hxr⟩ := int_cell (Kd.C_below HR.out HK.out.below) i x hx
      have HCL := Aside0.mk ((HWR.out x).2 wc)
      have HTK : Aside0 ((rootsOf rs G.N).take (i + 1) = (rootsOf rs G.N).take i ++ [wr x G.N]) := ⟨by rw [List.take_add_one, root_at rs G.N i x hx, Option.toList_some]⟩
      clear hx
      go_wp2_with fail
      refine HCL.out.mono ?_
      rintro e w2 ⟨rfl, hb⟩
      have HB2 := Aside0.mk hb
      have HK2 := Aside0.mk (HK.out.move hb)
      clear hb HCL hxr hx2
      go_upto_region 5 with ((with_reducible refine gate_builtin (b := .append) (xs := #[.tmp 23, .tmp 32]) rfl ?_); at_builtin; refine wpList_gen _ rfl (.tmp 23) (.tmp 32) 30 3 rfl Try.underlying30 (.int .i64 0) 8 (by kernel_rfl) rfl (by decide) u7 (natV ((rootsOf rs G.N).take i)) rfl ?hv ⟨w2.heap.size, 0, none⟩ (.int .i64 (wr x G.N : Int)) rfl ?hc rfl ?hb ?_; (case hv => exact HK2.out.wk.upd (S := none_) (Upd.of_below (below_alloc (Below.refl _ _) _)) (fun _ _ h => h)); (case hc => exact cell_one_new _ _ _ 0 _ rfl); (case hb => rw [natV_len, List.length_take]; omega); intro v7 w7 hv7 ho7 hu7; have R7 := Aside0.mk (And.intro hv7 (And.intro ho7 hu7)); clear hv7 ho7 hu7)
      have HK7 : Aside0 (Sk W w7 G ((rootsOf rs G.N).take (i + 1)) v0 v1 (.slice (some ad) rs.length cr) bx gs (fun _ => false) ((rootsOf rs G.N).take (i + 1)) v7 all2) := ⟨by
        have hs : Seek G ((rootsOf rs G.N).take (i + 1)) (fun _ => false) ((rootsOf rs G.N).take (i + 1)) all2 := Seek.start (fun r hr => HRT.out r (List.mem_of_mem_take hr))
        rw [HTK.out] at hs ⊢
        refine HK2.out.grow (below_alloc (Below.refl _ _) _) R7.out.1 (fun k hk => (R7.out.2.1 k hk)) R7.out.2.2 hs⟩
      clear R7 HK2 HB2 HTK HK
      go_wp2_with fail
      exact ⟨⟨i + 1, by omega, by rw [Int.natCast_succ], HK7⟩, by simp only [intOf]; omega⟩
    · obtain rfl : i = rs.length := by omega
      have hrt : (rootsOf rs G.N).take rs.length = rootsOf rs G.N := List.take_of_length_le (by simp [rootsOf])
      have HK1 : Aside0 (Sk W wc G (rootsOf rs G.N) v0 v1 (.slice Ar rs.length cr) bx gs (fun _ => false) (rootsOf rs G.N) u7 all2) := ⟨by have := HK.out; rwa [hrt] at this⟩
      have hrlen : (rootsOf rs G.N).length = rs.length := by simp [rootsOf]
      have HRL := Aside0.mk hrlen
      clear HK hrt hlt hrlen
      go_wp2_with fail
      clear hx2
      go_loopw [7, 9] (fun vw n wc => ∃ P work, n = .int .i64 (G.tot P G.N : Int) ∧ lenOf vw = work.length ∧ Aside0 (Sk W wc G (rootsOf rs G.N) v0 v1 (.slice Ar rs.length cr) bx gs P work vw all2) ∧ Aside0 (work.length + 25 * (98050 - G.tot P G.N) ≤ rs.length + 25 * 98050)) (fun vw n _ => lenOf vw + 25 * (98050 - (intOf n).toNat))
      case atStart =>
        refine ⟨fun _ => false, rootsOf rs G.N, by rw [G.tot_none]; rfl, ?_, HK1, ⟨by rw [HRL.out, G.tot_none]; omega⟩⟩
        obtain ⟨A', c', hv⟩ := HK1.out.wk.slice
        rw [hv, natV_len]; rfl
      case round =>
        obtain ⟨P, work, rfl, hlen, HK, HBD⟩ := hrel
        clear HK1
        rename World => wd
        rcases List.eq_nil_or_concat work with hw | ⟨wk, i, hw⟩
        · subst hw
          obtain ⟨A', c', hv⟩ := HK.out.wk.slice
          rw [natV_len, List.length_nil] at hv
          subst hv
          clear hlen
          go_wp2_with fail
          go_ret2
          refine ⟨gs, P, rfl, HK.out.seen, HBG.out, HK.out.sk.done, HK.out.below⟩
        · rw [List.concat_eq_append] at hw
          subst hw
          obtain ⟨g, cap, rfl, hgg, hgen⟩ := HK.out.last
          have HGEN := Aside0.mk hgen
          have hiN := HK.out.sk.lt i (by simp)
          have hiN' : (i : Int) < G.N := by omega
          have hi0 : (0 : Int) ≤ (i : Int) := by omega
          obtain ⟨m, hm⟩ : ∃ m, m = wk.length := ⟨_, rfl⟩
          obtain ⟨m1, hm1⟩ : ∃ m1, m1 = wk.length + 1 := ⟨_, rfl⟩
          have hcap : m1 ≤ cap := by
            obtain ⟨cur, _, _, q, _⟩ := hgen
            rw [List.length_append, natV_len, List.length_singleton] at q
            omega
          have hB0 := HBD.out
          rw [List.length_append, List.length_singleton] at hB0
          have htl := HTL.out P
          have hdf := NumB.dif_i (m1 : Int) 1 m (by omega) (by omega)
          have hlast : wd.cell? ⟨g, m, none⟩ = some (.int .i64 (i : Int)) := by
            refine HGEN.out.get m _ ?_
            rw [List.getElem?_append_right (by rw [natV_len]; omega), natV_len, hm, Nat.sub_self]
            rfl
          have hseen := HK.out.seen.get i _ (boolsV_get P hiN)
          have hp1 : (0 : Int) < (m1 : Int) := by omega
          have hp2 : 0 < m1 := by omega
          have hm0 : (0 : Int) ≤ (m : Int) := by omega
          have hmm : (m : Int) < (m1 : Int) := by omega
          have hmc : (m : Int) ≤ (cap : Int) := by omega
          rw [← hm1]
          have HMM := Aside0.mk (And.intro hm hm1)
          clear hm hm1 hgen hB0 htl hlen
          obtain ⟨ed, fd⟩ := hdf
          cases hPi : P i with
          | true =>
            rw [hPi] at hseen
            have HQ : Aside0 (Sk W wd G (rootsOf rs G.N) v0 v1 (.slice Ar rs.length cr) bx gs P wk (.slice (some ⟨g, 0, none⟩) m cap) all2) := ⟨by rw [HMM.out.1]; exact HK.out.pop HGEN.out (HK.out.sk.pop hPi)⟩
            have HBQ : Aside0 (wk.length + 25 * (98050 - G.tot P G.N) ≤ rs.length + 25 * 98050 ∧ m + 25 * (98050 - G.tot P G.N) < m1 + 25 * (98050 - G.tot P G.N)) := ⟨by have := HBD.out; rw [List.length_append, List.length_singleton] at this; omega, by have := HMM.out; omega⟩
            clear HK HBD HGEN hPi
            go_wp2_with fail
            clear ed fd
            first | exact ⟨⟨P, wk, rfl, HMM.out.1, HQ, ⟨HBQ.out.1⟩⟩, by show m + 25 * (98050 - ((G.tot P G.N : Int)).toNat) < m1 + 25 * (98050 - ((G.tot P G.N : Int)).toNat); rw [Int.toNat_natCast]; exact HBQ.out.2⟩
          | false =>
            rw [hPi] at hseen
            have hfz := HK.out.seen.frozen i
            have hbk : ∃ cur : List Value, wd.heap[gs]? = some (.cells cur.toArray 4 (0, 0)) := by
              obtain ⟨cur, q1, _⟩ := HK.out.seen
              exact ⟨cur, q1⟩
            obtain ⟨cur, hbk⟩ := hbk
            have HQ0 : Aside0 (Sk W (wd.setCell ⟨gs, i, none⟩ (.bool true)) G (rootsOf rs G.N) v0 v1 (.slice Ar rs.length cr) bx gs (upP P i) wk (.slice (some ⟨g, 0, none⟩) m cap) (but i 0)) := ⟨by rw [HMM.out.1]; exact HK.out.see HGEN.out hiN (HK.out.sk.see hPi)⟩
            have HTP : Aside0 (G.tot (upP P i) G.N = G.tot P G.N + (1 + G.len i)) := ⟨G.tot_put hiN hPi (by simp [upP]) (fun j hj => by simp [upP, hj])⟩
            go_upto_region 13 with fail
            clear hfz hbk hseen hlast ed fd
            generalize wd.setCell ⟨gs, i, none⟩ (.bool true) = w2 at *
            obtain ⟨T, hT⟩ : ∃ T, T = G.tot P G.N := ⟨_, rfl⟩
            obtain ⟨a1, ha1⟩ : ∃ a1, a1 = T + 1 := ⟨_, rfl⟩
            obtain ⟨a2, ha2⟩ : ∃ a2, a2 = a1 + G.R i := ⟨_, rfl⟩
            obtain ⟨a3, ha3⟩ : ∃ a3, a3 = a2 + G.S i := ⟨_, rfl⟩
            have hri := HG.out.r1 i hiN
            have hsi := HG.out.s1 i hiN
            have hT3 : G.tot (upP P i) G.N = a3 := by rw [HTP.out, ← hT]; unfold Gp.len; omega
            have hTL := HTL.out P
            have hTL2 := HTL.out (upP P i)
            rw [← hT] at hTL
            rw [hT3] at hTL2
            have HT := Aside0.mk hT3
            have HBQ : Aside0 (wk.length + 1 + 25 * (98050 - T) ≤ rs.length + 25 * 98050 ∧ T < a3 ∧ a3 < 98050) := ⟨by have := HBD.out; rw [List.length_append, List.length_singleton, ← hT] at this; exact this, by omega, by omega⟩
            have HE3 := Aside0.mk (And.intro (NumB.sum_i (T : Int) 1 a1 (by omega) (by omega)) (And.intro (NumB.sum_i (a1 : Int) (G.R i) a2 (by omega) (by omega)) (NumB.sum_i (a2 : Int) (G.S i) a3 (by omega) (by omega))))
            obtain ⟨ad, rfl, hx0, hx1, hx2⟩ := shp_cells HS.out (Kd.C_below HC.out HQ0.out.below) hiN
            have HX3 : Aside0 (∀ W2, Below W.heap.size W W2 → Cells3 W2 ad i (G.K i) (G.R i) (G.S i)) := ⟨fun W2 hb => by
              obtain ⟨ad', h1, h2⟩ := shp_cells HS.out (Kd.C_below HC.out hb) hiN
              obtain rfl := Option.some.inj h1
              exact h2⟩
            have HTT := Aside0.mk hT
            rw [← hT]
            clear hT ha1 ha2 ha3 hT3 hTL hTL2 hx0 HK HBD HTP HGEN hPi hcap
            obtain ⟨⟨e1, f1⟩, ⟨e2, f2⟩, e3, f3⟩ := HE3.out
            go_quiet (fail)
            clear e1 f1 e2 f2 e3 f3 hx2
            go_wp2_with fail
            clear hx1
            go_loopw [7, 11] (fun vw k wc => ∃ (work : List Nat) (n : Nat), n ≤ G.R i ∧ k = .int .i64 n ∧ Aside0 (Sk W wc G (rootsOf rs G.N) v0 v1 (.slice Ar rs.length cr) bx gs (upP P i) work vw (but i n)) ∧ Aside0 (work.length ≤ wk.length + n)) (fun _ k _ => G.R i - (intOf k).toNat)
            case atStart => exact ⟨wk, 0, by omega, rfl, ⟨HQ0.out.move (pw_below_drewN (Below.refl _ _) _)⟩, ⟨by omega⟩⟩
            case round =>
              obtain ⟨work, n, hn, rfl, HK, HW⟩ := hrel
              clear HQ0
              rename World => we
              obtain ⟨hx0, hx1, hx2⟩ := HX3.out we HK.out.below
              clear hx0 hx2
              by_cases hnl : n < G.R i
              · have hnl' : (n : Int) < G.R i := by omega
                have HEd := Aside0.mk (HE.out i n hiN (by omega) we HK.out.below)
                have HBX : Aside0 (∀ j u, (gArr v0 v1 (.slice Ar rs.length cr))[j]? = some u → we.cell? ((⟨bx, 0, none⟩ : Addr).add j) = some u) := ⟨fun j u hu => by
                  rw [Addr.add_lit, Nat.zero_add, blk_cell HK.out.box j]
                  simpa using hu⟩
                have HS3 := Aside0.mk (show (Try.prog.info? 52).map (·.size) = some 3 by kernel_rfl)
                go_upto_region 18 with ((with_reducible refine gate_dst (N := 78) rfl ?_); refine wpList_load_at rfl 52 (.tmp 2) rfl ⟨bx, 0, none⟩ rfl (gArr v0 v1 (.slice Ar rs.length cr)) _ HBX.out Try.underlying52 rfl HS3.out ?_)
                refine HEd.out.mono ?_
                rintro e w4 ⟨rfl, hb⟩
                have HK4 := Aside0.mk (HK.out.move hb)
                clear hb HEd HBX HS3 HK hx1
                cases hed : G.eg i n with
                | none =>
                  have HK5 : Aside0 (Sk W w4 G (rootsOf rs G.N) v0 v1 (.slice Ar rs.length cr) bx gs (upP P i) work u7 (but i (n + 1))) := ⟨⟨HK4.out.sk.skip hed, HK4.out.seen, HK4.out.wk, HK4.out.box, HK4.out.bgs, HK4.out.bx0, HK4.out.wv, HK4.out.below⟩⟩
                  have HW5 : Aside0 (work.length ≤ wk.length + (n + 1)) := ⟨by have := HW.out; omega⟩
                  simp only [edI]
                  clear hed HK4 HW
                  go_wp2_with fail
                  go_roundw
                  case rel => exact ⟨work, n + 1, by omega, by rw [Int.natCast_succ], HK5, HW5⟩
                  case measure => show G.R i - (intOf (.int .i64 ((n : Int) + 1))).toNat < G.R i - (intOf (.int .i64 (n : Int))).toNat; simp only [intOf]; omega
                | some t =>
                  have hs := Aside0.mk (HK4.out.sk.push HG.out (by simp [upP]) hnl hed)
                  simp only [edI]
                  have htn : ¬ ((t : Int) < 0) := by omega
                  have hwl : work.length ≤ 100000000 := by have := HW.out; have := HBQ.out; omega
                  clear hed
                  go_upto_region 16 with ((with_reducible refine gate_builtin (b := .append) (xs := #[.tmp 86, .tmp 88]) rfl ?_); at_builtin; refine wpList_gen _ rfl (.tmp 86) (.tmp 88) 30 3 rfl Try.underlying30 (.int .i64 0) 8 (by kernel_rfl) rfl (by decide) u7 (natV work) rfl ?hv ⟨w4.heap.size, 0, none⟩ (.int .i64 (t : Int)) rfl ?hc rfl ?hb ?_; (case hv => exact HK4.out.wk.upd (S := none_) (Upd.of_below (below_alloc (Below.refl _ _) _)) (fun _ _ h => h)); (case hc => exact cell_one_new _ _ _ 0 _ rfl); (case hb => rw [natV_len]; exact hwl); intro v7 w7 hv7 ho7 hu7; have R7 := Aside0.mk (And.intro hv7 (And.intro ho7 hu7)); clear hv7 ho7 hu7)
                  have HK7 : Aside0 (Sk W w7 G (rootsOf rs G.N) v0 v1 (.slice Ar rs.length cr) bx gs (upP P i) (work ++ [t]) v7 (but i (n + 1))) := ⟨HK4.out.grow (below_alloc (Below.refl _ _) _) R7.out.1 R7.out.2.1 R7.out.2.2 hs.out⟩
                  have HW7 : Aside0 ((work ++ [t]).length ≤ wk.length + (n + 1)) := ⟨by have := HW.out; rw [List.length_append, List.length_singleton]; omega⟩
                  clear R7 hs HK4 HW
                  go_wp2_with fail
                  go_roundw
                  case rel => exact ⟨work ++ [t], n + 1, by omega, by rw [Int.natCast_succ], HK7, HW7⟩
                  case measure => simp only [intOf]; omega
              · obtain rfl : n = G.R i := by omega
                have HF : Aside0 (Sk W we G (rootsOf rs G.N) v0 v1 (.slice Ar rs.length cr) bx gs (upP P i) work u7 all2) := ⟨⟨HK.out.sk.full, HK.out.seen, HK.out.wk, HK.out.box, HK.out.bgs, HK.out.bx0, HK.out.wv, HK.out.below⟩⟩
                have hl7 : lenOf u7 = work.length := by
                  obtain ⟨A', c', hv⟩ := HK.out.wk.slice
                  rw [hv, natV_len]; rfl
                have HBE : Aside0 (work.length + 25 * (98050 - G.tot (upP P i) G.N) ≤ rs.length + 25 * 98050) := ⟨by have := HW.out; have := HBQ.out; rw [HT.out]; omega⟩
                have HME : Aside0 (lenOf u7 + 25 * (98050 - a3) < m1 + 25 * (98050 - T)) := ⟨by have := HW.out; have := HBQ.out; have := HMM.out; omega⟩
                clear hnl HK
                go_wp2_with fail
                exact ⟨⟨upP P i, work, by rw [HT.out], hl7, HF, HBE⟩, by show lenOf u7 + 25 * (98050 - ((a3 : Int)).toNat) < m1 + 25 * (98050 - ((G.tot P G.N : Int)).toNat); rw [← HTT.out, Int.toNat_natCast, Int.toNat_natCast]; exact HME.out⟩
end Go.Proofs.Ytgjcffjicbmkhaa.SeeW
end

section
/- larderlaw2.copyAll walked: the copying collector's loop. -/
namespace Go.Proofs.Ytgjcffjicbmkhaa.CopW
open Go Go.RowKit Go.Proofs.YtgjcffjicbmkhaaW.PrintWords Go.Proofs.YtgjcffjicbmkhaaW.PrintLast Go.Proofs.YtgjcffjicbmkhaaW.PrintMore Go.Proofs.Ytgjcffjicbmkhaa.PF Go.Proofs.Ytgjcffjicbmkhaa.RowU Go.Proofs.Ytgjcffjicbmkhaa.ArS Go.Proofs.Ytgjcffjicbmkhaa.ArM Go.Proofs.Ytgjcffjicbmkhaa.ArX Go.Proofs.Ytgjcffjicbmkhaa.ArY Go.Proofs.Ytgjcffjicbmkhaa.ArT Go.Proofs.Ytgjcffjicbmkhaa.ArV Go.Proofs.Ytgjcffjicbmkhaa.GenM Go.Proofs.Ytgjcffjicbmkhaa.TakS Go.Proofs.Ytgjcffjicbmkhaa.FillL Go.Proofs.Ytgjcffjicbmkhaa.RfdM Go.Proofs.Ytgjcffjicbmkhaa.ColS Go.Proofs.Ytgjcffjicbmkhaa.ColR Go.Proofs.Ytgjcffjicbmkhaa.LayW Go.Proofs.Ytgjcffjicbmkhaa.SeeW Go.Proofs.Ytgjcffjicbmkhaa.CopM
set_option linter.unusedVariables false
set_option maxRecDepth 100000

set_option maxHeartbeats 8000000 in
theorem copyAll.calls (G : Gp) (hG : G.ok) (l : List S28) (hS : Shp G l) (hpos : 0 < G.N) (A : Option Addr) (c : Nat) (v0 v1 : Value) (Ar : Option Addr) (rs : List Int) (cr : Nat) (W : World) (hc : G.N ≤ c) (hrl : rs.length ≤ 1048576)
    (gp cp szb ga gwa gfa gb gwb0 gfb0 : Nat) (hP : Pair W gb gwb0 gfb0 szb [] ga gwa gfa (G.pa G.N) (G.aL []) false) (hat : GenAt 3 W gp cp (plV G)) (hgp : ¬ CS gb gwb0 gfb0 ga gwa gfa gp)
    (hRC : ∀ w', Upd (CS gb gwb0 gfb0 ga gwa gfa) W w' → Kd.C (Kd.int .i64) w' Ar rs.length rs) :
    Calls Try.prog 23 #[.agg (gArr v0 v1 (.slice Ar rs.length cr)).toArray, .slice A G.N c, .pointer (some ⟨ga, 0, none⟩), .slice (some ⟨gp, 0, none⟩) G.N cp, .pointer (some ⟨gb, 0, none⟩)] W fun e w' =>
      ∃ r o s k gwb gfb, e = .returned (.int .i64 r) ∧ Cq W w' G (rootsOf rs G.N) v0 v1 (.slice Ar rs.length cr) W.heap.size gp cp szb ga gwa gfa gb gwb0 gfb0 gwb gfb o s k ∧
        ((r = 0 ∧ s = o.length ∧ k = 0 ∧ ∀ t ∈ rootsOf rs G.N, t ∈ o) ∨ (r = 22 ∧ ∃ t, t ∉ o ∧ t < G.N ∧ ColR.Reach G (rootsOf rs G.N) t ∧ szb < G.pb o o.length + (1 + G.len t))) := by
  have HRC := Aside0.mk hRC
  have HG := Aside0.mk hG
  have hN := hG.n1
  have HWR := Aside0.mk (fun x => wr_all x G.N hpos (by omega))
  obtain ⟨bx, hbx⟩ : ∃ bx, bx = W.heap.size := ⟨_, rfl⟩
  have HQ0 : Aside0 (Cq W (W.alloc (.cells (gArr v0 v1 (.slice Ar rs.length cr)).toArray 52)) G (rootsOf rs G.N) v0 v1 (.slice Ar rs.length cr) bx gp cp szb ga gwa gfa gb gwb0 gfb0 gwb0 gfb0 [] 0 0) := ⟨by
    have hb := below_alloc (Below.refl W.heap.size W) (.cells (gArr v0 v1 (.slice Ar rs.length cr)).toArray 52)
    have hlt : ∀ b, CS gb gwb0 gfb0 ga gwa gfa b → b < W.heap.size := by
      obtain ⟨a1, a2, a3⟩ := ArAt.lt3 hP.A
      obtain ⟨b1, b2, b3⟩ := ArAt.lt3 hP.S
      rintro b ((rfl | rfl | rfl) | (rfl | rfl | rfl)) <;> assumption
    exact ⟨hP.below hb, hat.upd (S := none_) (Upd.of_below hb) (fun h => h), by rw [hbx]; exact blk_new W _, Cop.nil _ _, fun j x t hj => absurd hj (Nat.not_lt_zero j), .inr ⟨rfl, rfl⟩, fun h => by have := hlt _ h; omega, hgp, Upd.of_below hb, .inl rfl, .inl rfl⟩⟩
  rw [← hbx]
  clear hRC hG hS hP hat hgp
  go_enter Try.func23, Try.ntmps23
  go_wp2_with fail
  rw [← hbx]
  clear hbx
  generalize W.alloc (.cells (gArr v0 v1 (.slice Ar rs.length cr)).toArray 52) = w1 at *
  go_loopw [11] (fun i wc => ∃ (n : Nat) (o : List Nat) (gwb gfb : Nat), n ≤ rs.length ∧ i = .int .i64 n ∧ Aside0 (Cq W wc G (rootsOf rs G.N) v0 v1 (.slice Ar rs.length cr) bx gp cp szb ga gwa gfa gb gwb0 gfb0 gwb gfb o 0 0) ∧ Aside0 (∀ t ∈ (rootsOf rs G.N).take n, t ∈ o)) (fun i _ => rs.length - (intOf i).toNat)
  case atStart => exact ⟨0, [], gwb0, gfb0, by omega, rfl, HQ0, ⟨fun t ht => by simp at ht⟩⟩
  case round =>
    obtain ⟨i, o, gwb, gfb, hi, rfl, HQ, HO⟩ := hrel
    clear HQ0
    rename World => wc
    have hx2 : wc.cell? ⟨bx, 2, none⟩ = some (.slice Ar rs.length cr) := (blk_cell HQ.out.box 2).trans rfl
    by_cases hlt : i < rs.length
    · have hlt' : (i : Int) < rs.length := by omega
      obtain ⟨x, hx⟩ : ∃ x, rs[i]? = some x := ⟨_, List.getElem?_eq_getElem hlt⟩
      obtain ⟨ad, rfl, hxr⟩ := int_cell (HRC.out wc HQ.out.upd) i x hx
      have HCL := Aside0.mk ((HWR.out x).2 wc)
      obtain ⟨t, ht⟩ : ∃ t, t = wr x G.N := ⟨_, rfl⟩
      rw [← ht] at HCL
      have htN : t < G.N := by rw [ht]; exact (HWR.out x).1
      have HTK : Aside0 ((rootsOf rs G.N).take (i + 1) = (rootsOf rs G.N).take i ++ [t]) := ⟨by rw [List.take_add_one, root_at rs G.N i x hx, Option.toList_some, ht]⟩
      have HTR : Aside0 (ColR.Reach G (rootsOf rs G.N) t) := ⟨.root t (by rw [ht]; exact List.mem_of_getElem? (root_at rs G.N i x hx))⟩
      have ht0 : (0 : Int) ≤ (t : Int) := by omega
      have ht1 : (t : Int) < G.N := by omega
      clear hx ht
      go_wp2_with fail
      refine HCL.out.mono ?_
      rintro e w2 ⟨rfl, hb⟩
      have HQ2 := Aside0.mk (HQ.out.move hb)
      clear hb HCL hxr hx2 HQ
      have hat := HQ2.out.at_.get t _ (plV_get G htN)
      go_wp2_with fail
      refine (HQ2.out.take t htN HTR.out).mono ?_
      rintro e w3 (⟨o', gwb', gfb', rfl, hE, hm, hQ⟩ | ⟨gwb', gfb', rfl, hn, hz, hQ⟩)
      · have HQ3 := Aside0.mk hQ
        have HO3 : Aside0 (∀ t ∈ (rootsOf rs G.N).take (i + 1), t ∈ o') := ⟨fun u hu => by
          rw [HTK.out] at hu
          rcases List.mem_append.1 hu with h | h
          · exact hE.mem (HO.out u h)
          · rw [List.mem_singleton] at h; subst h; exact hm⟩
        clear hQ hE hm HQ2 HO HTK HTR hat
        go_wp2_with fail
        refine (num.calls _ _).mono ?_
        rintro e w4 ⟨rfl, rfl⟩
        go_wp2_with fail
        exact ⟨⟨i + 1, o', gwb', gfb', by omega, by rw [Int.natCast_succ], HQ3, HO3⟩, by simp only [intOf]; omega⟩
      · have HQ3 := Aside0.mk hQ
        have HF := Aside0.mk (And.intro hn hz)
        clear hQ hn hz HQ2 hat
        go_wp2_with fail
        refine (num.calls _ _).mono ?_
        rintro e w4 ⟨rfl, rfl⟩
        go_wp2_with fail
        refine (num.calls _ _).mono ?_
        rintro e w5 ⟨rfl, rfl⟩
        go_wp2_with fail
        go_ret
        exact ⟨22, o, 0, 0, gwb', gfb', rfl, HQ3.out, .inr ⟨rfl, t, HF.out.1, htN, HTR.out, HF.out.2⟩⟩
    · obtain rfl : i = rs.length := by omega
      have HO1 : Aside0 (∀ t ∈ rootsOf rs G.N, t ∈ o) := ⟨by have := HO.out; rwa [List.take_of_length_le (by simp [rootsOf])] at this⟩
      clear HO hlt
      go_wp2_with fail
      clear hx2
      go_loopw [14] (fun p wc => ∃ (o : List Nat) (s gwb gfb : Nat), s ≤ o.length ∧ p = .int .i64 (G.pb o s : Int) ∧ Aside0 (Cq W wc G (rootsOf rs G.N) v0 v1 (.slice Ar rs.length cr) bx gp cp szb ga gwa gfa gb gwb0 gfb0 gwb gfb o s 0) ∧ Aside0 (∀ t ∈ rootsOf rs G.N, t ∈ o)) (fun p _ => szb - (intOf p).toNat)
      case atStart => exact ⟨o, 0, gwb, gfb, by omega, rfl, HQ, HO1⟩
      case round =>
        obtain ⟨o, s, gwb, gfb, hs, rfl, HQ, HO⟩ := hrel
        clear HO1
        rename World => wd
        go_wp2_with fail
        refine HQ.out.used.mono ?_
        rintro e w2 ⟨rfl, hb⟩
        have HQ2 := Aside0.mk (HQ.out.move hb)
        clear hb
        have hfit := HQ2.out.fit
        obtain ⟨p, hp⟩ : ∃ p, p = G.pb o s := ⟨_, rfl⟩
        obtain ⟨U, hU⟩ : ∃ U, U = G.pb o o.length := ⟨_, rfl⟩
        rw [← hp, ← hU]
        rw [← hU] at hfit
        by_cases hso : s < o.length
        · obtain ⟨q, hq⟩ : ∃ q, q = ordAt o s := ⟨_, rfl⟩
          have hqo : q ∈ o := by rw [hq]; exact ordAt_mem hso
          have hqN : q < G.N := HQ2.out.cop.lt q hqo
          have HQR : Aside0 (ColR.Reach G (rootsOf rs G.N) q) := ⟨HQ2.out.cop.so q hqo⟩
          have hstep : G.pb o (s + 1) = p + (1 + G.len q) := by rw [hp, hq]; rfl
          have hpU : p + (1 + G.len q) ≤ U := by rw [← hstep, hU]; exact plf_mono _ (by omega)
          have hpU' : (p : Int) < U := by omega
          have HOb := Aside0.mk (HQ2.out.object hso)
          rw [← hp, ← hq] at HOb
          have hri := HG.out.r1 q hqN
          have hsi := HG.out.s1 q hqN
          have HLEN : Aside0 (G.len q = G.R q + G.S q) := ⟨rfl⟩
          have HST := Aside0.mk (And.intro hp (And.intro hq (And.intro hso hpU)))
          have hp0 : p ≤ 1048576 := by omega
          clear hp hU hq hqo hso hstep HQ hpU hfit
          go_wp2_with fail
          refine HOb.out.mono ?_
          rintro e w3 ⟨rfl, hb⟩
          have HQ3 := Aside0.mk (HQ2.out.move hb)
          clear hb HOb HQ2 hpU'
          go_wp2_with fail
          refine (num.calls _ _).mono ?_
          rintro e w4 ⟨rfl, rfl⟩
          go_wp2_with fail
          go_loopw [19] (fun k wc => ∃ (n : Nat) (o' : List Nat) (gwb gfb : Nat), n ≤ G.R q ∧ k = .int .i64 n ∧ Aside0 (Ext o o') ∧ Aside0 (Cq W wc G (rootsOf rs G.N) v0 v1 (.slice Ar rs.length cr) bx gp cp szb ga gwa gfa gb gwb0 gfb0 gwb gfb o' s n) ∧ Aside0 (∀ t ∈ rootsOf rs G.N, t ∈ o')) (fun k _ => G.R q - (intOf k).toNat)
          case atStart => exact ⟨0, o, gwb, gfb, by omega, rfl, ⟨Ext.refl _⟩, HQ3, HO⟩
          case round =>
            obtain ⟨n, o', gwb', gfb', hn, rfl, HEx, HK, HO'⟩ := hrel
            clear HQ3 HO
            rename World => we
            have hs' : s < o'.length := Nat.lt_of_lt_of_le HST.out.2.2.1 HEx.out.len
            have hord : ordAt o' s = q := by rw [HEx.out.at_ HST.out.2.2.1, ← HST.out.2.1]
            have hpb : G.pb o' s = p := by rw [HEx.out.pb (Nat.le_of_lt HST.out.2.2.1), ← HST.out.1]
            by_cases hnl : n < G.R q
            · have hnl' : (n : Int) < G.R q := by omega
              have HGt := Aside0.mk (HK.out.get hs' (by rw [hord]; exact hnl))
              rw [hpb, hord] at HGt
              have HPO := Aside0.mk (And.intro hs' (And.intro hord hpb))
              clear hs' hord hpb
              go_wp2_with fail
              refine HGt.out.mono ?_
              rintro e w5 ⟨rfl, hb⟩
              have HK5 := Aside0.mk (HK.out.move hb)
              clear hb HGt HK
              go_wp2_with fail
              refine (num.calls _ _).mono ?_
              rintro e w6 ⟨rfl, rfl⟩
              cases hed : G.eg q n with
              | none =>
                have HK6 : Aside0 (Cq W w6 G (rootsOf rs G.N) v0 v1 (.slice Ar rs.length cr) bx gp cp szb ga gwa gfa gb gwb0 gfb0 gwb' gfb' o' s (n + 1)) := ⟨HK5.out.skip HPO.out.1 (by rw [HPO.out.2.1]; exact hed)⟩
                simp only [refN]
                clear hed HK5
                go_wp2_with fail
                exact ⟨⟨n + 1, o', gwb', gfb', by omega, by rw [Int.natCast_succ], HEx, HK6, HO'⟩, by simp only [intOf]; omega⟩
              | some t =>
                have htN := HG.out.e1 q n t hed
                have hpt := Gp.pa_lt HG.out (Nat.le_of_lt htN)
                have hpz : 0 < G.pa t := plf_pos _ _
                have hv : ((G.pa t : Int) == 0) = false := beq_eq_false_iff_ne.2 (by omega)
                have hc1 : IntKind.i64.wrap (G.pa t : Int) = (G.pa t : Int) := by rw [IntKind.wrap_i64]; omega
                have hc2 : wrap64 (G.pa t : Int) = (G.pa t : Int) := by unfold wrap64; omega
                have HTR : Aside0 (ColR.Reach G (rootsOf rs G.N) t) := ⟨.step q n t HQR.out hnl hed⟩
                have HED := Aside0.mk hed
                simp only [refN]
                clear hed hpz
                go_wp2_with fail
                refine (HK5.out.take t htN HTR.out).mono ?_
                clear hc2
                rintro e w7 (⟨o2, gwb2, gfb2, rfl, hE, hm, hQ⟩ | ⟨gwb2, gfb2, rfl, hn2, hz, hQ⟩)
                · have HX2 : Aside0 (Ext o o2) := ⟨HEx.out.trans hE⟩
                  have hs2 : s < o2.length := Nat.lt_of_lt_of_le HST.out.2.2.1 HX2.out.len
                  have hord2 : ordAt o2 s = q := by rw [HX2.out.at_ HST.out.2.2.1, ← HST.out.2.1]
                  have hpb2 : G.pb o2 s = p := by rw [HX2.out.pb (Nat.le_of_lt HST.out.2.2.1), ← HST.out.1]
                  have HSt := Aside0.mk (hQ.set hs2 (by rw [hord2]; exact hnl) (by rw [hord2]; exact HED.out) hm)
                  have hto : G.pb o2 (o2.idxOf t) ≤ 1048576 := by
                    have h1 := hQ.fit
                    have h3 : G.pb o2 (o2.idxOf t) ≤ G.pb o2 o2.length := plf_mono _ (Nat.le_of_lt (List.idxOf_lt_length_iff.2 hm))
                    omega
                  have HO2 : Aside0 (∀ t ∈ rootsOf rs G.N, t ∈ o2) := ⟨fun u hu => hE.mem (HO'.out u hu)⟩
                  rw [hpb2] at HSt
                  generalize G.pb o2 (o2.idxOf t) = tz at *
                  have hc3 : IntKind.u64.wrap (tz : Int) = (tz : Int) := by rw [IntKind.wrap_u64]; omega
                  clear hQ hE hm HK5 HEx HO' hs2 hord2 hpb2 HED hto hpt
                  go_wp2_with fail
                  refine (num.calls _ _).mono ?_
                  rintro e w8 ⟨rfl, rfl⟩
                  go_wp2_with fail
                  refine HSt.out.mono ?_
                  rintro e w9 ⟨rfl, hQ9⟩
                  have HQ9 := Aside0.mk hQ9
                  clear hQ9 HSt hc3 hc1 hv
                  go_wp2_with fail
                  exact ⟨⟨n + 1, o2, gwb2, gfb2, by omega, by rw [Int.natCast_succ], HX2, HQ9, HO2⟩, by simp only [intOf]; omega⟩
                · have HQ7 := Aside0.mk hQ
                  have HF := Aside0.mk (And.intro hn2 hz)
                  clear hQ hn2 hz HK5 HEx HO' HED
                  go_wp2_with fail
                  refine (num.calls _ _).mono ?_
                  rintro e w8 ⟨rfl, rfl⟩
                  go_wp2_with fail
                  refine (num.calls _ _).mono ?_
                  rintro e w9 ⟨rfl, rfl⟩
                  go_wp2_with fail
                  go_ret
                  exact ⟨22, o', s, n, gwb2, gfb2, rfl, HQ7.out, .inr ⟨rfl, t, HF.out.1, htN, HTR.out, HF.out.2⟩⟩
            · obtain rfl : n = G.R q := by omega
              have HN : Aside0 (Cq W we G (rootsOf rs G.N) v0 v1 (.slice Ar rs.length cr) bx gp cp szb ga gwa gfa gb gwb0 gfb0 gwb' gfb' o' (s + 1) 0) := ⟨HK.out.next hs' (by rw [hord])⟩
              obtain ⟨a1, ha1⟩ : ∃ a1, a1 = p + 1 := ⟨_, rfl⟩
              obtain ⟨a2, ha2⟩ : ∃ a2, a2 = a1 + G.R q := ⟨_, rfl⟩
              obtain ⟨a3, ha3⟩ : ∃ a3, a3 = a2 + G.S q := ⟨_, rfl⟩
              have HE3 := Aside0.mk (And.intro (NumB.sum_i (p : Int) 1 a1 (by omega) (by omega)) (And.intro (NumB.sum_i (a1 : Int) (G.R q) a2 (by omega) (by omega)) (NumB.sum_i (a2 : Int) (G.S q) a3 (by omega) (by omega))))
              have HA3 : Aside0 (a3 = G.pb o' (s + 1)) := ⟨by
                have : G.pb o' (s + 1) = G.pb o' s + (1 + G.len (ordAt o' s)) := rfl
                rw [this, hpb, hord, HLEN.out]; omega⟩
              have HSL : Aside0 (s + 1 ≤ o'.length) := ⟨hs'⟩
              have HSZ : Aside0 (p < szb ∧ p < a3) := ⟨by
                have h1 := HK.out.fit
                have h2 : G.pb o' (s + 1) ≤ G.pb o' o'.length := plf_mono _ hs'
                have h3 := HA3.out
                omega, by omega⟩
              obtain ⟨⟨e1, f1⟩, ⟨e2, f2⟩, e3, f3⟩ := HE3.out
              clear ha1 ha2 ha3 hs' hord hpb HK hnl HEx
              go_wp2_with fail
              clear e1 f1 e2 f2 e3 f3
              exact ⟨⟨o', s + 1, gwb', gfb', HSL.out, by rw [HA3.out], HN, HO'⟩, by rw [← HST.out.1]; simp only [intOf]; have := HSZ.out; omega⟩
        · obtain rfl : s = o.length := by omega
          have hpU : ¬ ((p : Int) < U) := by omega
          have HQ3 := Aside0.mk HQ2.out
          clear hp hU HQ hfit hso
          go_wp2_with fail
          go_ret
          exact ⟨0, o, o.length, 0, gwb, gfb, rfl, HQ3.out, .inl ⟨rfl, rfl, rfl, HO.out⟩⟩
end Go.Proofs.Ytgjcffjicbmkhaa.CopW
end

section
/- larderlaw2.copied walked: one object's copy is as it was. -/
namespace Go.Proofs.Ytgjcffjicbmkhaa.CpdW
open Go Go.RowKit Go.Proofs.YtgjcffjicbmkhaaW.PrintWords Go.Proofs.YtgjcffjicbmkhaaW.PrintLast Go.Proofs.YtgjcffjicbmkhaaW.PrintMore Go.Proofs.Ytgjcffjicbmkhaa.PF Go.Proofs.Ytgjcffjicbmkhaa.RowU Go.Proofs.Ytgjcffjicbmkhaa.ArS Go.Proofs.Ytgjcffjicbmkhaa.ArM Go.Proofs.Ytgjcffjicbmkhaa.ArX Go.Proofs.Ytgjcffjicbmkhaa.ArY Go.Proofs.Ytgjcffjicbmkhaa.ArT Go.Proofs.Ytgjcffjicbmkhaa.ArV Go.Proofs.Ytgjcffjicbmkhaa.ArP Go.Proofs.Ytgjcffjicbmkhaa.GenM Go.Proofs.Ytgjcffjicbmkhaa.TakS Go.Proofs.Ytgjcffjicbmkhaa.FillL Go.Proofs.Ytgjcffjicbmkhaa.RfdM Go.Proofs.Ytgjcffjicbmkhaa.ColS Go.Proofs.Ytgjcffjicbmkhaa.ColR Go.Proofs.Ytgjcffjicbmkhaa.LayW Go.Proofs.Ytgjcffjicbmkhaa.SeeW Go.Proofs.Ytgjcffjicbmkhaa.CopM Go.Proofs.Ytgjcffjicbmkhaa.CopW
set_option linter.unusedVariables false
set_option maxRecDepth 100000

theorem mov_yes (G : Gp) {o : List Nat} {t : Nat} (ht : t ∈ o) (htN : t < G.N) : movR (G.aL o) (G.pa t : Int) = (((G.pb o (o.idxOf t) : Nat) : Int), true, 0) := by
  have h : (G.aL o)[t]? = some (G.aF o t) := objs_get _ htN
  have h2 := obAt_of h
  rw [G.place_a o (Nat.le_of_lt htN)] at h2
  unfold movR
  rw [h2]
  have h3 : (G.aF o t).gone = some (G.pb o (o.idxOf t)) := by unfold Gp.aF; simp [ht]
  simp only [h3]
theorem mov_no (G : Gp) {o : List Nat} {t : Nat} (ht : t ∉ o) (htN : t < G.N) : movR (G.aL o) (G.pa t : Int) = (0, false, 0) := by
  have h : (G.aL o)[t]? = some (G.aF o t) := objs_get _ htN
  have h2 := obAt_of h
  rw [G.place_a o (Nat.le_of_lt htN)] at h2
  unfold movR
  rw [h2]
  have h3 : (G.aF o t).gone = none := by unfold Gp.aF; simp [ht]
  simp only [h3]
theorem moved_yes {W : World} {G : Gp} {g gw gf sz : Nat} {o : List Nat} (hA : ArAt W g gw gf sz (G.aL o)) {t : Nat} (ht : t ∈ o) (htN : t < G.N) :
    Calls Try.prog 25 #[.pointer (some ⟨g, 0, none⟩), .int .i64 (G.pa t : Int)] W fun e w' => e = .returned (.tuple #[.int .i64 (G.pb o (o.idxOf t) : Int), .bool true, .int .i64 0]) ∧ Below W.heap.size W w' := by
  have := moved_all hA (G.pa t : Int)
  rw [mov_yes G ht htN] at this
  exact this
theorem moved_no {W : World} {G : Gp} {g gw gf sz : Nat} {o : List Nat} (hA : ArAt W g gw gf sz (G.aL o)) {t : Nat} (ht : t ∉ o) (htN : t < G.N) :
    Calls Try.prog 25 #[.pointer (some ⟨g, 0, none⟩), .int .i64 (G.pa t : Int)] W fun e w' => e = .returned (.tuple #[.int .i64 0, .bool false, .int .i64 0]) ∧ Below W.heap.size W w' := by
  have := moved_all hA (G.pa t : Int)
  rw [mov_no G ht htN] at this
  exact this
def newN (G : Gp) (o : List Nat) : Option Nat → Nat
  | none => 0
  | some t => G.pb o (o.idxOf t)
theorem b_ref (G : Gp) {o : List Nat} {s k : Nat} (hs : s < o.length) (hk : k < G.R (ordAt o s)) : (G.bF o o.length 0 s).fields[k]? = some (newN G o (G.eg (ordAt o s) k)) := by
  unfold Gp.bF
  have : k < G.len (ordAt o s) := by unfold Gp.len; omega
  simp only [List.getElem?_map, List.getElem?_range this, Option.map_some, Option.some.injEq]
  unfold Gp.bX
  rw [if_pos ⟨hk, .inl hs⟩]
  cases G.eg (ordAt o s) k <;> rfl
theorem b_raw (G : Gp) {o : List Nat} {s k : Nat} (hk : k < G.S (ordAt o s)) : (G.bF o o.length 0 s).fields[G.R (ordAt o s) + k]? = some (G.raw (ordAt o s) k) := by
  unfold Gp.bF
  have : G.R (ordAt o s) + k < G.len (ordAt o s) := by unfold Gp.len; omega
  simp only [List.getElem?_map, List.getElem?_range this, Option.map_some, Option.some.injEq]
  unfold Gp.bX Gp.fld
  rw [if_neg (by omega), if_neg (by omega), Nat.add_sub_cancel_left]
/-- The two blocks behind the copying, asked for object i. -/
structure Cd (wc : World) (G : Gp) (v0 v1 v2 : Value) (bx gp cp szb ga gwa gfa gb gwb gfb : Nat) (o : List Nat) : Prop where
  pair : Pair wc gb gwb gfb szb (G.bL o o.length 0) ga gwa gfa (G.pa G.N) (G.aL o) false
  at_ : GenAt 3 wc gp cp (plV G)
  box : wc.heap[bx]? = some (.cells (gArr v0 v1 v2).toArray 52 (0, 0))
theorem Cd.move {wc w' : World} {G : Gp} {v0 v1 v2 : Value} {bx gp cp szb ga gwa gfa gb gwb gfb : Nat} {o : List Nat} (h : Cd wc G v0 v1 v2 bx gp cp szb ga gwa gfa gb gwb gfb o) (hb : Below wc.heap.size wc w') : Cd w' G v0 v1 v2 bx gp cp szb ga gwa gfa gb gwb gfb o :=
  ⟨h.pair.below hb, h.at_.upd (S := none_) (Upd.of_below hb) (fun h => h), blk_below h.box hb⟩
theorem Cd.get {wc : World} {G : Gp} {v0 v1 v2 : Value} {bx gp cp szb ga gwa gfa gb gwb gfb : Nat} {o : List Nat} (h : Cd wc G v0 v1 v2 bx gp cp szb ga gwa gfa gb gwb gfb o) {i k x : Nat} (hi : i ∈ o) (hx : (G.bF o o.length 0 (o.idxOf i)).fields[k]? = some x) :
    Calls Try.prog 16 #[.pointer (some ⟨gb, 0, none⟩), .int .i64 (G.pb o (o.idxOf i) : Int), .int .i64 (k : Int)] wc fun e w' => e = .returned (.tuple #[.int .u64 (x : Int), .int .i64 0]) ∧ Below wc.heap.size wc w' :=
  have hlt := List.idxOf_lt_length_iff.2 hi
  get_yes h.pair.A (G.b_get o o.length 0 hlt) rfl k x hx (G.pb o (o.idxOf i)) (G.place_b o o.length 0 (Nat.le_of_lt hlt)).symm
theorem Cd.object {wc : World} {G : Gp} {v0 v1 v2 : Value} {bx gp cp szb ga gwa gfa gb gwb gfb : Nat} {o : List Nat} (h : Cd wc G v0 v1 v2 bx gp cp szb ga gwa gfa gb gwb gfb o) {i : Nat} (hi : i ∈ o) :
    Calls Try.prog 15 #[.pointer (some ⟨gb, 0, none⟩), .int .i64 (G.pb o (o.idxOf i) : Int)] wc fun e w' => e = .returned (.tuple #[.int .i64 (G.K i : Int), .int .i64 (G.R i : Int), .int .i64 (G.S i : Int), .int .i64 0]) ∧ Below wc.heap.size wc w' := by
  have hlt := List.idxOf_lt_length_iff.2 hi
  have := object_yes h.pair.A (G.b_get o o.length 0 hlt) rfl (G.pb o (o.idxOf i)) (G.place_b o o.length 0 (Nat.le_of_lt hlt)).symm _ _ _ rfl rfl (G.bF_len o o.length 0 _)
  rw [ordAt_idx hi] at this
  have h2 : (G.bF o o.length 0 (o.idxOf i)).kind = G.K i := by unfold Gp.bF; rw [ordAt_idx hi]
  have h3 : (G.bF o o.length 0 (o.idxOf i)).refs = G.R i := by unfold Gp.bF; rw [ordAt_idx hi]
  rw [h2, h3] at this
  exact this
set_option maxHeartbeats 8000000 in
theorem copied.calls (G : Gp) (hG : G.ok) (hraw : G.raw = rawN) (l : List S28) (hS : Shp G l) (A : Option Addr) (c : Nat) (v0 v1 v2 : Value) (W : World) (hC : Kd.C k28 W A l.length l) (hc : G.N ≤ c) (hE : EdgesOk W v0 v1 v2 G)
    (gp cp szb ga gwa gfa gb gwb gfb : Nat) (o : List Nat) (hP : Pair W gb gwb gfb szb (G.bL o o.length 0) ga gwa gfa (G.pa G.N) (G.aL o) false) (hat : GenAt 3 W gp cp (plV G)) (hI : G.inv o o.length 0) (hlt : ∀ i ∈ o, i < G.N) (i : Nat) (hi : i ∈ o) :
    Calls Try.prog 24 #[.agg (gArr v0 v1 v2).toArray, .slice A G.N c, .pointer (some ⟨ga, 0, none⟩), .slice (some ⟨gp, 0, none⟩) G.N cp, .pointer (some ⟨gb, 0, none⟩), .int .i64 (i : Int)] W fun e w' => e = .returned (.bool true) ∧ Below W.heap.size W w' := by
  have HC := Aside0.mk hC
  have HE := Aside0.mk hE
  have HG := Aside0.mk hG
  have HS := Aside0.mk hS
  have HRW := Aside0.mk hraw
  have hN := hG.n1
  have hiN := hlt i hi
  have hri := hG.r1 i hiN
  have hsi := hG.s1 i hiN
  have HI := Aside0.mk (And.intro hI (And.intro hlt hi))
  have hi0 : (0 : Int) ≤ (i : Int) := by omega
  have hi1 : (i : Int) < G.N := by omega
  obtain ⟨bx, hbx⟩ : ∃ bx, bx = W.heap.size := ⟨_, rfl⟩
  have HD0 : Aside0 (Cd (W.alloc (.cells (gArr v0 v1 v2).toArray 52)) G v0 v1 v2 bx gp cp szb ga gwa gfa gb gwb gfb o ∧ Below W.heap.size W (W.alloc (.cells (gArr v0 v1 v2).toArray 52))) := ⟨by
    have hb := below_alloc (Below.refl W.heap.size W) (.cells (gArr v0 v1 v2).toArray 52)
    exact ⟨⟨hP.below hb, hat.upd (S := none_) (Upd.of_below hb) (fun h => h), by rw [hbx]; exact blk_new W _⟩, hb⟩⟩
  obtain ⟨ad, rfl, _⟩ := shp_cells hS hC hiN
  have HX3 : Aside0 (∀ W2, Below W.heap.size W W2 → Cells3 W2 ad i (G.K i) (G.R i) (G.S i)) := ⟨fun W2 hb => by
    obtain ⟨ad', h1, h2⟩ := shp_cells hS (Kd.C_below hC hb) hiN
    obtain rfl := Option.some.inj h1
    exact h2⟩
  have hx1 := HD0.out.1.at_.get i _ (plV_get G hiN)
  have HMv := Aside0.mk (moved_yes HD0.out.1.pair.S hi hiN)
  have HOb := Aside0.mk (fun w' (h : Cd w' G v0 v1 v2 bx gp cp szb ga gwa gfa gb gwb gfb o) => h.object hi)
  obtain ⟨tz, htz⟩ : ∃ tz, tz = G.pb o (o.idxOf i) := ⟨_, rfl⟩
  rw [← htz] at HMv HOb
  have HTZ := Aside0.mk htz
  clear hC hE hG hS hraw hP hat hI hlt hi htz
  go_enter Try.func24, Try.ntmps24
  go_wp2_with fail
  rw [← hbx]
  clear hbx
  generalize W.alloc (.cells (gArr v0 v1 v2).toArray 52) = w1 at *
  refine HMv.out.mono ?_
  rintro e w2 ⟨rfl, hb⟩
  have HD2 : Aside0 (Cd w2 G v0 v1 v2 bx gp cp szb ga gwa gfa gb gwb gfb o ∧ Below W.heap.size W w2) := ⟨HD0.out.1.move hb, below_next HD0.out.2 hb⟩
  clear hb HD0 HMv hx1
  go_wp2_with fail
  refine (num.calls _ _).mono ?_
  rintro e w3 ⟨rfl, rfl⟩
  go_wp2_with fail
  refine (HOb.out _ HD2.out.1).mono ?_
  rintro e w4 ⟨rfl, hb⟩
  have HD4 : Aside0 (Cd w4 G v0 v1 v2 bx gp cp szb ga gwa gfa gb gwb gfb o ∧ Below W.heap.size W w4) := ⟨HD2.out.1.move hb, below_next HD2.out.2 hb⟩
  clear hb HD2 HOb
  go_wp2_with fail
  refine (num.calls _ _).mono ?_
  rintro e w5 ⟨rfl, rfl⟩
  obtain ⟨hx0, hx1, hx2⟩ := HX3.out w5 HD4.out.2
  go_wp2_with fail
  clear hx0 hx1 hx2
  go_loopw [20] (fun k wc => ∃ (n : Nat), n ≤ G.R i ∧ k = .int .i64 n ∧ Aside0 (Cd wc G v0 v1 v2 bx gp cp szb ga gwa gfa gb gwb gfb o ∧ Below W.heap.size W wc)) (fun k _ => G.R i - (intOf k).toNat)
  case atStart => exact ⟨0, by omega, rfl, HD4⟩
  case round =>
    obtain ⟨n, hn, rfl, HD⟩ := hrel
    clear HD4
    rename World => wc
    by_cases hnl : n < G.R i
    · have hnl' : (n : Int) < G.R i := by omega
      have HEd := Aside0.mk (HE.out i n hiN (by omega) wc HD.out.2)
      have HBX : Aside0 (∀ j u, (gArr v0 v1 v2)[j]? = some u → wc.cell? ((⟨bx, 0, none⟩ : Addr).add j) = some u) := ⟨fun j u hu => by
        rw [Addr.add_lit, Nat.zero_add, blk_cell HD.out.1.box j]
        simpa using hu⟩
      have HS3 := Aside0.mk (show (Try.prog.info? 52).map (·.size) = some 3 by kernel_rfl)
      go_upto_region 12 with ((with_reducible refine gate_dst (N := 91) rfl ?_); refine wpList_load_at rfl 52 (.tmp 6) rfl ⟨bx, 0, none⟩ rfl (gArr v0 v1 v2) _ HBX.out Try.underlying52 rfl HS3.out ?_)
      refine HEd.out.mono ?_
      rintro e w6 ⟨rfl, hb⟩
      have HD6 : Aside0 (Cd w6 G v0 v1 v2 bx gp cp szb ga gwa gfa gb gwb gfb o ∧ Below W.heap.size W w6) := ⟨HD.out.1.move hb, below_next HD.out.2 hb⟩
      clear hb HEd HBX HS3 HD
      have HGt := Aside0.mk (fun w' (h : Cd w' G v0 v1 v2 bx gp cp szb ga gwa gfa gb gwb gfb o) => h.get (k := n) HI.out.2.2 (by
        have hix := List.idxOf_lt_length_iff.2 HI.out.2.2
        have hat := ordAt_idx HI.out.2.2
        have := b_ref G hix (k := n) (by rw [hat]; exact hnl)
        rw [hat] at this
        exact this))
      rw [← HTZ.out] at HGt
      cases hed : G.eg i n with
      | none =>
        rw [hed] at HGt
        simp only [edI]
        simp only [newN] at HGt
        clear hed
        have hw0 : IntKind.u64.wrap (0 : Int) = 0 := by rw [IntKind.wrap_u64]; omega
        go_wp2_with fail
        refine (HGt.out _ HD6.out.1).mono ?_
        rintro e w7 ⟨rfl, hb⟩
        have HD7 : Aside0 (Cd w7 G v0 v1 v2 bx gp cp szb ga gwa gfa gb gwb gfb o ∧ Below W.heap.size W w7) := ⟨HD6.out.1.move hb, below_next HD6.out.2 hb⟩
        clear hb HGt HD6
        go_wp2_with fail
        refine (num.calls _ _).mono ?_
        rintro e w8 ⟨rfl, rfl⟩
        go_wp2_with fail
        exact ⟨⟨n + 1, by omega, by rw [Int.natCast_succ], HD7⟩, by simp only [intOf]; omega⟩
      | some t =>
        have htN := HG.out.e1 i n t hed
        have hto : t ∈ o := by
          have hix := List.idxOf_lt_length_iff.2 HI.out.2.2
          have hat := ordAt_idx HI.out.2.2
          exact HI.out.1 _ n t hix (by rw [hat]; exact hnl) (.inl hix) (by rw [hat]; exact hed)
        rw [hed] at HGt
        simp only [edI]
        simp only [newN] at HGt
        have hpt : G.pb o (o.idxOf t) ≤ 1048576 := by
          obtain ⟨cw, cf, fs, hA⟩ := HD6.out.1.pair.A
          have h1 := hA.fit
          have h2 := hA.sz1
          rw [G.used_b] at h1
          have h3 : G.pb o (o.idxOf t) ≤ G.pb o o.length := plf_mono _ (Nat.le_of_lt (List.idxOf_lt_length_iff.2 hto))
          omega
        have HMt := Aside0.mk (moved_yes HD6.out.1.pair.S hto htN)
        have hxt := HD6.out.1.at_.get t _ (plV_get G htN)
        have htn : ¬ ((t : Int) < 0) := by omega
        have ht0 : (0 : Int) ≤ (t : Int) := by omega
        have ht1 : (t : Int) < G.N := by omega
        generalize G.pb o (o.idxOf t) = ty at *
        have hc1 : IntKind.u64.wrap (ty : Int) = (ty : Int) := by rw [IntKind.wrap_u64]; omega
        clear hed hto hpt
        go_wp2_with fail
        refine HMt.out.mono ?_
        rintro e w7 ⟨rfl, hb⟩
        have HD7 : Aside0 (Cd w7 G v0 v1 v2 bx gp cp szb ga gwa gfa gb gwb gfb o ∧ Below W.heap.size W w7) := ⟨HD6.out.1.move hb, below_next HD6.out.2 hb⟩
        clear hb HMt HD6 hxt
        go_wp2_with fail
        refine (num.calls _ _).mono ?_
        rintro e w8 ⟨rfl, rfl⟩
        go_wp2_with fail
        refine (HGt.out _ HD7.out.1).mono ?_
        rintro e w9 ⟨rfl, hb⟩
        have HD9 : Aside0 (Cd w9 G v0 v1 v2 bx gp cp szb ga gwa gfa gb gwb gfb o ∧ Below W.heap.size W w9) := ⟨HD7.out.1.move hb, below_next HD7.out.2 hb⟩
        clear hb HGt HD7
        go_wp2_with fail
        refine (num.calls _ _).mono ?_
        rintro e w10 ⟨rfl, rfl⟩
        go_wp2_with fail
        exact ⟨⟨n + 1, by omega, by rw [Int.natCast_succ], HD9⟩, by simp only [intOf]; omega⟩
    · obtain rfl : n = G.R i := by omega
      clear hnl
      go_wp2_with fail
      go_loopw [28] (fun k wc => ∃ (n : Nat), n ≤ G.S i ∧ k = .int .i64 n ∧ Aside0 (Cd wc G v0 v1 v2 bx gp cp szb ga gwa gfa gb gwb gfb o ∧ Below W.heap.size W wc)) (fun k _ => G.S i - (intOf k).toNat)
      case atStart => exact ⟨0, by omega, rfl, HD⟩
      case round =>
        obtain ⟨n, hn2, rfl, HD2⟩ := hrel
        clear HD
        rename World => wd
        by_cases hnl : n < G.S i
        · have hnl' : (n : Int) < G.S i := by omega
          obtain ⟨a1, ha1⟩ : ∃ a1, a1 = G.R i + n := ⟨_, rfl⟩
          have HE1 := Aside0.mk (NumB.sum_i (G.R i : Int) n a1 (by omega) (by omega))
          have HGt := Aside0.mk (HD2.out.1.get (k := a1) (x := rawN i n) HI.out.2.2 (by
            have hat := ordAt_idx HI.out.2.2
            have := b_raw G (o := o) (s := o.idxOf i) (k := n) (by rw [hat]; exact hnl)
            rw [hat, HRW.out, ← ha1] at this
            exact this))
          rw [← HTZ.out] at HGt
          obtain ⟨e1, f1⟩ := HE1.out
          clear ha1
          go_wp2_with fail
          clear e1 f1
          refine HGt.out.mono ?_
          rintro e w6 ⟨rfl, hb⟩
          have HD6 : Aside0 (Cd w6 G v0 v1 v2 bx gp cp szb ga gwa gfa gb gwb gfb o ∧ Below W.heap.size W w6) := ⟨HD2.out.1.move hb, below_next HD2.out.2 hb⟩
          clear hb HGt HD2
          go_wp2_with fail
          refine (num.calls _ _).mono ?_
          rintro e w7 ⟨rfl, rfl⟩
          go_wp2_with fail
          refine (raw_all i n _).mono ?_
          rintro e w8 ⟨rfl, hb⟩
          have HD8 : Aside0 (Cd w8 G v0 v1 v2 bx gp cp szb ga gwa gfa gb gwb gfb o ∧ Below W.heap.size W w8) := ⟨HD6.out.1.move hb, below_next HD6.out.2 hb⟩
          clear hb HD6
          go_wp2_with fail
          exact ⟨⟨n + 1, by omega, by rw [Int.natCast_succ], HD8⟩, by simp only [intOf]; omega⟩
        · obtain rfl : n = G.S i := by omega
          have HB := Aside0.mk HD2.out.2
          clear hnl HD2
          go_wp2_with fail
          go_ret
          exact ⟨rfl, HB.out⟩
end Go.Proofs.Ytgjcffjicbmkhaa.CpdW
end

section
-- PRINTED by print.py (a twelfth state) out of the translation. Not trusted: Lean checks it.
namespace Go.Proofs.Ytgjcffjicbmkhaa.PF
open Go.RowKit Go.Proofs.YtgjcffjicbmkhaaW.PrintWords Go.Proofs.YtgjcffjicbmkhaaW.PrintLast Go.Proofs.YtgjcffjicbmkhaaW.PrintMore
attribute [local go_sem] max2_int min2_int max_two min_two max_three min_three max_four min_four   -- for this text's walks alone
set_option linter.unusedVariables false
set_option linter.unusedSimpArgs false

/-! ### larderlaw2_edge: function 40 -/
def larderlaw2_edge.j0 : Nat → Int → Int → Int → Bool → List (S28) → List (List Int) → List Int → Option (Int)
  | 0, _, _, _, _, _, _, _ => none
  | k + 1, x1, x2, x3, x24, x135000, x135001, x135002 => if x24 = true then (some (-1)) else (if 0 ≤ x2 then (if x2 < (x135001.length : Int) then (if 0 ≤ x3 then (if x3 < ((rd_L4 x135001 x2).length : Int) then ((larderlaw2_within.f (rd (rd_L4 x135001 x2) x3) (wrap64 (x1 + 1))).bind fun t138 => (if t138 = x1 then (some (-1)) else (some t138))) else (none)) else (none)) else (none)) else (none))
def larderlaw2_edge.f (k : Nat) (l0_0 : List (S28)) (l0_1 : List (List Int)) (l0_2 : List Int) (a1 : Int) (a2 : Int) (a3 : Int) : Option (Int) := if a2 ≥ (l0_1.length : Int) then (larderlaw2_edge.j0 k a1 a2 a3 true l0_0 l0_1 l0_2) else (if 0 ≤ a2 then (if a2 < (l0_1.length : Int) then (larderlaw2_edge.j0 k a1 a2 a3 (decide (a3 ≥ ((rd_L4 l0_1 a2).length : Int))) l0_0 l0_1 l0_2) else (none)) else (none))
theorem larderlaw2_edge.mono_l : ∀ k, (∀ y0 y1 y2 y3 y4 y5 y6, LeO (larderlaw2_edge.j0 k y0 y1 y2 y3 y4 y5 y6) (larderlaw2_edge.j0 (k + 1) y0 y1 y2 y3 y4 y5 y6))
  | 0 => fun _ _ _ _ _ _ _ r h => by simp [larderlaw2_edge.j0] at h
  | k + 1 => by
    have ih0 := larderlaw2_edge.mono_l k
    · intro y0 y1 y2 y3 y4 y5 y6
      unfold larderlaw2_edge.j0
      repeat' first
      | (with_reducible exact ih0 _ _ _ _ _ _ _)
      | (with_reducible exact LeO.refl _)
      | (with_reducible exact LeO.none _)
      | (with_reducible refine LeO.ite ?_ ?_)
      | (with_reducible refine LeO.bind ?_ (fun _ => ?_))
      | exact ih0 _ _ _ _ _ _ _
      | exact LeO.none _
      | refine LeO.ite ?_ ?_
      | refine LeO.bind ?_ (fun _ => ?_)
theorem larderlaw2_edge.mono : ∀ a0 a1 a2 a3 a4 a5 k, LeO (larderlaw2_edge.f k a0 a1 a2 a3 a4 a5) (larderlaw2_edge.f (k + 1) a0 a1 a2 a3 a4 a5) := by
  intro a0 a1 a2 a3 a4 a5 k
  have ih0 := larderlaw2_edge.mono_l k
  unfold larderlaw2_edge.f
  repeat' first
      | (with_reducible exact ih0 _ _ _ _ _ _ _)
      | (with_reducible exact LeO.refl _)
      | (with_reducible exact LeO.none _)
      | (with_reducible refine LeO.ite ?_ ?_)
      | (with_reducible refine LeO.bind ?_ (fun _ => ?_))
      | exact ih0 _ _ _ _ _ _ _
      | exact LeO.none _
      | refine LeO.ite ?_ ?_
      | refine LeO.bind ?_ (fun _ => ?_)
set_option maxHeartbeats 8000000 in
set_option maxRecDepth 100000 in
theorem larderlaw2_edge.calls (k : Nat) (A0_0 : Option Addr) (c0_0 : Nat) (l0_0 : List (S28)) (A0_1 : Option Addr) (c0_1 : Nat) (l0_1 : List (List Int)) (A0_2 : Option Addr) (c0_2 : Nat) (l0_2 : List Int) (a1 : Int) (a2 : Int) (a3 : Int) (r : Int) (w : World) (hr0_0 : Kd.C k28 w A0_0 l0_0.length l0_0) (hc0_0 : l0_0.length ≤ c0_0) (hr0_1 : Kd.C (Kd.slice 3 (Kd.int .i64)) w A0_1 l0_1.length l0_1) (hc0_1 : l0_1.length ≤ c0_1) (hr0_2 : Kd.C (Kd.int .i64) w A0_2 l0_2.length l0_2) (hc0_2 : l0_2.length ≤ c0_2) (h : larderlaw2_edge.f k l0_0 l0_1 l0_2 a1 a2 a3 = some r) :
    Calls Try.prog 40 #[.agg #[.slice A0_0 l0_0.length c0_0, .slice A0_1 l0_1.length c0_1, .slice A0_2 l0_2.length c0_2], .int .i64 a1, .int .i64 a2, .int .i64 a3] w fun e w' => e = .returned (.int .i64 r) ∧ Below w.heap.size w w' := by
  have hu52 := Try.underlying52
  have HR0_0 := Aside0.mk hr0_0
  have HC0_0 := Aside0.mk hc0_0
  clear hr0_0 hc0_0
  have HR0_1 := Aside0.mk hr0_1
  have HC0_1 := Aside0.mk hc0_1
  clear hr0_1 hc0_1
  have HR0_2 := Aside0.mk hr0_2
  have HC0_2 := Aside0.mk hc0_2
  clear hr0_2 hc0_2
  have HB := Aside0.mk (Below.refl w.heap.size w)
  have H : (if a2 ≥ (l0_1.length : Int) then (larderlaw2_edge.j0 k a1 a2 a3 true l0_0 l0_1 l0_2) else (if 0 ≤ a2 then (if a2 < (l0_1.length : Int) then (larderlaw2_edge.j0 k a1 a2 a3 (decide (a3 ≥ ((rd_L4 l0_1 a2).length : Int))) l0_0 l0_1 l0_2) else (none)) else (none))) = some r := h
  clear h
  have HC5 := Aside0.mk H
  clear H
  go_enter Try.func40, Try.ntmps40
  go_upto_region 1 with (first | ((with_reducible refine gate_dst (N := 4) rfl ?_); (try (refine gate_guard (by rfl) ?_; dsimp only)); refine box_event ?hg (N := 4) ?hd (cs := #[.slice A0_0 l0_0.length c0_0, .slice A0_1 l0_1.length c0_1, .slice A0_2 l0_2.length c0_2]) (t := 52) ?hr ?_; (case hd => rfl); (case hg => rfl); (case hr => first | (go_simp; done) | (go_simp; rfl)); intro gb134 hg w6 hbox hb; have n0_ := Aside0.mk (below_step (by repeat (first | (with_reducible first | exact HB.out | apply below_alloc | apply pw_below_drewN | apply below_drew1) | exact HB.out)) hb); have n1_ := Aside0.mk (hbox); have n2_ := Aside0.mk ((by rw [hg]; exact (below_size (by repeat (first | (with_reducible first | exact HB.out | apply below_alloc | apply pw_below_drewN | apply below_drew1) | exact HB.out))) : w.heap.size ≤ gb134)); have n3_ := Aside0.mk ((by rw [hg]; exact (below_size (by repeat (first | (with_reducible first | exact HB.out | apply below_alloc | apply pw_below_drewN | apply below_drew1) | exact HB.out))) : w.heap.size ≤ gb134)); clear HB; have HB := n0_; have BK134 := n1_; have GW134 := n2_; have GE134 := n3_; clear n0_ n1_ n2_ n3_; clear hb hbox hg))
  (try simp only [Act.put, List.setIfInBounds_toArray, List.set_cons_zero, List.set_cons_succ])
  go_cut [24] (fun v24 wc => ∃ (kq : Nat) (x24_4 : Bool), v24 = .bool x24_4 ∧ Aside0 (larderlaw2_edge.j0 kq a1 a2 a3 x24_4 l0_0 l0_1 l0_2 = some r) ∧ Aside0 (kq ≤ k) ∧ Aside0 (wc.heap[gb134]? = some (.cells #[(.slice A0_0 l0_0.length c0_0), (.slice A0_1 l0_1.length c0_1), (.slice A0_2 l0_2.length c0_2)] 52 (0, 0))) ∧ Aside0 (Below w.heap.size w wc))
  case first =>
    have H := HC5.out
    clear HC5
    by_cases c7 : a2 ≥ (l0_1.length : Int)
    · rw [if_pos c7] at H
      have c7b0 : decide ((l0_1.length : Int) ≤ a2) = true := decide_eq_true c7
      clear c7
      (first | rw [c7b0] | (simp only [i64_w, i32_w]; rw [c7b0]) | skip)
      have H' := Aside0.mk H
      clear H
      have hcz8_0 : w6.cell? ⟨gb134, 0, none⟩ = some (.slice A0_0 l0_0.length c0_0) := (blk_cell BK134.out 0).trans rfl
      have hcz8_1 : w6.cell? ⟨gb134, 1, none⟩ = some (.slice A0_1 l0_1.length c0_1) := (blk_cell BK134.out 1).trans rfl
      have hcz8_2 : w6.cell? ⟨gb134, 2, none⟩ = some (.slice A0_2 l0_2.length c0_2) := (blk_cell BK134.out 2).trans rfl
      have hfz8_0 := blk_frozen BK134.out 0
      have hfz8_1 := blk_frozen BK134.out 1
      have hfz8_2 := blk_frozen BK134.out 2
      go_wp2
      go_meet
      case rel => exact ⟨_, (true), (by first | rfl | (simp; done) | (simp [*]; done)), H', ⟨by first | omega | exact Nat.le_refl _⟩, ⟨by (with_reducible repeat (first | refine blk_drewN ?_ _ | refine blk_drew ?_ | refine blk_alloc ?_ _)); exact BK134.out⟩, ⟨by repeat (first | (with_reducible first | exact HB.out | apply below_alloc | apply pw_below_drewN | apply below_drew1 | refine below_set ?_ GE134.out) | exact HB.out)⟩⟩
    · rw [if_neg c7] at H
      have c7b0 : decide ((l0_1.length : Int) ≤ a2) = false := decide_eq_false c7
      clear c7
      (first | rw [c7b0] | (simp only [i64_w, i32_w]; rw [c7b0]) | skip)
      by_cases c9 : 0 ≤ a2
      · rw [if_pos c9] at H
        have c9b0 : decide (0 ≤ a2) = true := decide_eq_true c9
        clear c9
        by_cases c10 : a2 < (l0_1.length : Int)
        · rw [if_pos c10] at H
          have c10b0 : decide (a2 < (l0_1.length : Int)) = true := decide_eq_true c10
          clear c10
          have H' := Aside0.mk H
          clear H
          have hcz11_0 : w6.cell? ⟨gb134, 0, none⟩ = some (.slice A0_0 l0_0.length c0_0) := (blk_cell BK134.out 0).trans rfl
          have hcz11_1 : w6.cell? ⟨gb134, 1, none⟩ = some (.slice A0_1 l0_1.length c0_1) := (blk_cell BK134.out 1).trans rfl
          have hcz11_2 : w6.cell? ⟨gb134, 2, none⟩ = some (.slice A0_2 l0_2.length c0_2) := (blk_cell BK134.out 2).trans rfl
          have hfz11_0 := blk_frozen BK134.out 0
          have hfz11_1 := blk_frozen BK134.out 1
          have hfz11_2 := blk_frozen BK134.out 2
          have p135 : 0 ≤ (a2 : Int) := of_decide_eq_true (by first | (with_reducible assumption) | assumption)
          have q135 : a2 < (l0_1.length : Int) := of_decide_eq_true (by first | (with_reducible assumption) | assumption)
          obtain ⟨ad135, A135_0, c135_0, e135, hx135_0, hl135_0, hi135_0⟩ := at_L4 HR0_1.out a2 p135 q135
          cases e135
          replace hx135_0 := (HB.out.cell (World.block_lt_of_cell? w _ hx135_0)).trans hx135_0
          have HR135_0 := Aside0.mk hi135_0
          have HC135_0 := Aside0.mk hl135_0
          clear hi135_0 hl135_0
          replace p135 := eq_true p135
          replace q135 := eq_true q135
          go_wp2
          go_meet
          case rel => exact ⟨_, (decide (a3 ≥ ((rd_L4 l0_1 a2).length : Int))), (by first | rfl | (simp; done) | (simp [*]; done)), H', ⟨by first | omega | exact Nat.le_refl _⟩, ⟨by (with_reducible repeat (first | refine blk_drewN ?_ _ | refine blk_drew ?_ | refine blk_alloc ?_ _)); exact BK134.out⟩, ⟨by repeat (first | (with_reducible first | exact HB.out | apply below_alloc | apply pw_below_drewN | apply below_drew1 | refine below_set ?_ GE134.out) | exact HB.out)⟩⟩
        · rw [if_neg c10] at H
          exact absurd H (by simp)
      · rw [if_neg c9] at H
        exact absurd H (by simp)
  case rest =>
    clear HC5
    try clear c1
    try clear p1
    try clear q1
    try clear hx1
    try clear p2
    try clear c4
    try clear c7
    try clear c7b0
    try clear c9
    try clear c9b0
    try clear c10
    try clear c10b0
    try clear hcz11_0
    try clear hcz11_1
    try clear hcz11_2
    try clear hcz8_0
    try clear hcz8_1
    try clear hcz8_2
    try clear hfz11_0
    try clear hfz11_1
    try clear hfz11_2
    try clear hfz8_0
    try clear hfz8_1
    try clear hfz8_2
    try clear hx135_0
    try clear p135
    try clear q135
    obtain ⟨kq, x24_4, rfl, HA, HJ4, BK134, HB⟩ := hcut
    cases kq with
    | zero => exact absurd HA.out (by simp [larderlaw2_edge.j0])
    | succ kj4 =>
      have H := HA.out
      clear HA
      simp only [larderlaw2_edge.j0] at H
      by_cases c12 : x24_4 = true
      · subst c12
        have H1 : (some (-1)) = some r := by rw [if_pos rfl] at H; exact H
        clear H
        have H := H1
        clear H1
        obtain rfl := Option.some.inj H
        go_wp2
        go_ret
        exact ⟨by first | rfl | (simp [errW_none, errW_some] <;> rfl) | (simp [*, errW_none, errW_some] <;> rfl), by repeat (first | (with_reducible first | exact HB.out | apply below_alloc | apply pw_below_drewN | apply below_drew1 | refine below_set ?_ GE134.out) | exact HB.out)⟩
      · replace c12 := Bool.eq_false_iff.mpr c12
        subst c12
        have H1 : (if 0 ≤ a2 then (if a2 < (l0_1.length : Int) then (if 0 ≤ a3 then (if a3 < ((rd_L4 l0_1 a2).length : Int) then ((larderlaw2_within.f (rd (rd_L4 l0_1 a2) a3) (wrap64 (a1 + 1))).bind fun t138 => (if t138 = a1 then (some (-1)) else (some t138))) else (none)) else (none)) else (none)) else (none)) = some r := by rw [if_neg (show ¬ (false = true) by decide)] at H; exact H
        clear H
        have H := H1
        clear H1
        by_cases c13 : 0 ≤ a2
        · rw [if_pos c13] at H
          have c13b0 : decide (0 ≤ a2) = true := decide_eq_true c13
          clear c13
          by_cases c14 : a2 < (l0_1.length : Int)
          · rw [if_pos c14] at H
            have c14b0 : decide (a2 < (l0_1.length : Int)) = true := decide_eq_true c14
            clear c14
            by_cases c15 : 0 ≤ a3
            · rw [if_pos c15] at H
              have c15b0 : decide (0 ≤ a3) = true := decide_eq_true c15
              clear c15
              by_cases c16 : a3 < ((rd_L4 l0_1 a2).length : Int)
              · rw [if_pos c16] at H
                have c16b0 : decide (a3 < ((rd_L4 l0_1 a2).length : Int)) = true := decide_eq_true c16
                clear c16
                replace H := Option.bind_eq_some_iff.mp H
                obtain ⟨t138, A170, H⟩ := H
                replace H : (if t138 = a1 then (some (-1)) else (some t138)) = some r := H
                have A17 := Aside0.mk A170
                clear A170
                by_cases c18 : t138 = a1
                · rw [if_pos c18] at H
                  have c18b0 : (t138 == a1) = true := beq_iff_eq.mpr c18
                  have c18b1 : (t138 != a1) = false := bne_eq_false_iff_eq.mpr c18
                  clear c18
                  obtain rfl := Option.some.inj H
                  have hcz19_0 : wc.cell? ⟨gb134, 0, none⟩ = some (.slice A0_0 l0_0.length c0_0) := (blk_cell BK134.out 0).trans rfl
                  have hcz19_1 : wc.cell? ⟨gb134, 1, none⟩ = some (.slice A0_1 l0_1.length c0_1) := (blk_cell BK134.out 1).trans rfl
                  have hcz19_2 : wc.cell? ⟨gb134, 2, none⟩ = some (.slice A0_2 l0_2.length c0_2) := (blk_cell BK134.out 2).trans rfl
                  have hfz19_0 := blk_frozen BK134.out 0
                  have hfz19_1 := blk_frozen BK134.out 1
                  have hfz19_2 := blk_frozen BK134.out 2
                  have p136 : 0 ≤ (a2 : Int) := of_decide_eq_true (by first | (with_reducible assumption) | assumption)
                  have q136 : a2 < (l0_1.length : Int) := of_decide_eq_true (by first | (with_reducible assumption) | assumption)
                  obtain ⟨ad136, A136_0, c136_0, e136, hx136_0, hl136_0, hi136_0⟩ := at_L4 HR0_1.out a2 p136 q136
                  cases e136
                  replace hx136_0 := (HB.out.cell (World.block_lt_of_cell? w _ hx136_0)).trans hx136_0
                  have HR136_0 := Aside0.mk hi136_0
                  have HC136_0 := Aside0.mk hl136_0
                  clear hi136_0 hl136_0
                  replace p136 := eq_true p136
                  replace q136 := eq_true q136
                  have p137 : 0 ≤ (a3 : Int) := of_decide_eq_true (by first | (with_reducible assumption) | assumption)
                  have q137 : a3 < ((rd_L4 l0_1 a2).length : Int) := of_decide_eq_true (by first | (with_reducible assumption) | assumption)
                  obtain ⟨ad137, e137, hx137_0⟩ := Kd.at_int HR136_0.out a3 p137 q137
                  cases e137
                  replace hx137_0 := (HB.out.cell (World.block_lt_of_cell? w _ hx137_0)).trans hx137_0
                  replace p137 := eq_true p137
                  replace q137 := eq_true q137
                  go_wp2_with (first | ((with_reducible refine gate_callee (f := 12) rfl ?_); refine goesL_ (some 35) rfl rfl Try.func12 (by kernel_rfl) rfl #[.int .i64 (rd (rd_L4 l0_1 a2) a3), .int .i64 (wrap64 (a1 + 1))] rfl (by (try simp only [List.map_toArray, List.map_cons, List.map_nil]); first | done | rfl | (simp only [List.length_drop, List.length_take]; rfl)) ?_; (with_reducible refine (larderlaw2_within.calls (rd (rd_L4 l0_1 a2) a3) (wrap64 (a1 + 1)) t138 _ A17.out).mono ?_); rintro e w' ⟨rfl, ⟨nd, rfl⟩⟩; refine ⟨_, rfl, ?_⟩))
                  go_ret
                  exact ⟨by first | rfl | (simp [errW_none, errW_some] <;> rfl) | (simp [*, errW_none, errW_some] <;> rfl), by repeat (first | (with_reducible first | exact HB.out | apply below_alloc | apply pw_below_drewN | apply below_drew1 | refine below_set ?_ GE134.out) | exact HB.out)⟩
                · rw [if_neg c18] at H
                  have c18b0 : (t138 == a1) = false := beq_eq_false_iff_ne.mpr c18
                  have c18b1 : (t138 != a1) = true := bne_iff_ne.mpr c18
                  obtain rfl := Option.some.inj H
                  have hcz20_0 : wc.cell? ⟨gb134, 0, none⟩ = some (.slice A0_0 l0_0.length c0_0) := (blk_cell BK134.out 0).trans rfl
                  have hcz20_1 : wc.cell? ⟨gb134, 1, none⟩ = some (.slice A0_1 l0_1.length c0_1) := (blk_cell BK134.out 1).trans rfl
                  have hcz20_2 : wc.cell? ⟨gb134, 2, none⟩ = some (.slice A0_2 l0_2.length c0_2) := (blk_cell BK134.out 2).trans rfl
                  have hfz20_0 := blk_frozen BK134.out 0
                  have hfz20_1 := blk_frozen BK134.out 1
                  have hfz20_2 := blk_frozen BK134.out 2
                  have p136 : 0 ≤ (a2 : Int) := of_decide_eq_true (by first | (with_reducible assumption) | assumption)
                  have q136 : a2 < (l0_1.length : Int) := of_decide_eq_true (by first | (with_reducible assumption) | assumption)
                  obtain ⟨ad136, A136_0, c136_0, e136, hx136_0, hl136_0, hi136_0⟩ := at_L4 HR0_1.out a2 p136 q136
                  cases e136
                  replace hx136_0 := (HB.out.cell (World.block_lt_of_cell? w _ hx136_0)).trans hx136_0
                  have HR136_0 := Aside0.mk hi136_0
                  have HC136_0 := Aside0.mk hl136_0
                  clear hi136_0 hl136_0
                  replace p136 := eq_true p136
                  replace q136 := eq_true q136
                  have p137 : 0 ≤ (a3 : Int) := of_decide_eq_true (by first | (with_reducible assumption) | assumption)
                  have q137 : a3 < ((rd_L4 l0_1 a2).length : Int) := of_decide_eq_true (by first | (with_reducible assumption) | assumption)
                  obtain ⟨ad137, e137, hx137_0⟩ := Kd.at_int HR136_0.out a3 p137 q137
                  cases e137
                  replace hx137_0 := (HB.out.cell (World.block_lt_of_cell? w _ hx137_0)).trans hx137_0
                  replace p137 := eq_true p137
                  replace q137 := eq_true q137
                  go_wp2_with (first | ((with_reducible refine gate_callee (f := 12) rfl ?_); refine goesL_ (some 35) rfl rfl Try.func12 (by kernel_rfl) rfl #[.int .i64 (rd (rd_L4 l0_1 a2) a3), .int .i64 (wrap64 (a1 + 1))] rfl (by (try simp only [List.map_toArray, List.map_cons, List.map_nil]); first | done | rfl | (simp only [List.length_drop, List.length_take]; rfl)) ?_; (with_reducible refine (larderlaw2_within.calls (rd (rd_L4 l0_1 a2) a3) (wrap64 (a1 + 1)) t138 _ A17.out).mono ?_); rintro e w' ⟨rfl, ⟨nd, rfl⟩⟩; refine ⟨_, rfl, ?_⟩))
                  go_ret
                  exact ⟨by first | rfl | (simp [errW_none, errW_some] <;> rfl) | (simp [*, errW_none, errW_some] <;> rfl), by repeat (first | (with_reducible first | exact HB.out | apply below_alloc | apply pw_below_drewN | apply below_drew1 | refine below_set ?_ GE134.out) | exact HB.out)⟩
              · rw [if_neg c16] at H
                exact absurd H (by simp)
            · rw [if_neg c15] at H
              exact absurd H (by simp)
          · rw [if_neg c14] at H
            exact absurd H (by simp)
        · rw [if_neg c13] at H
          exact absurd H (by simp)

end Go.Proofs.Ytgjcffjicbmkhaa.PF
end

section
/- ArenaMemory walked. -/
namespace Go.Proofs.Ytgjcffjicbmkhaa.MemW
open Go Go.RowKit Go.Proofs.YtgjcffjicbmkhaaW.PrintWords Go.Proofs.YtgjcffjicbmkhaaW.PrintLast Go.Proofs.YtgjcffjicbmkhaaW.PrintMore Go.Proofs.Ytgjcffjicbmkhaa.PF Go.Proofs.Ytgjcffjicbmkhaa.RowU Go.Proofs.Ytgjcffjicbmkhaa.ArS Go.Proofs.Ytgjcffjicbmkhaa.ArM Go.Proofs.Ytgjcffjicbmkhaa.ArW Go.Proofs.Ytgjcffjicbmkhaa.ArX Go.Proofs.Ytgjcffjicbmkhaa.ArY Go.Proofs.Ytgjcffjicbmkhaa.ArZ Go.Proofs.Ytgjcffjicbmkhaa.GenM Go.Proofs.Ytgjcffjicbmkhaa.TakS Go.Proofs.Ytgjcffjicbmkhaa.FillL Go.Proofs.Ytgjcffjicbmkhaa.MemI Go.Proofs.Ytgjcffjicbmkhaa.MemO Go.Proofs.Ytgjcffjicbmkhaa.ArV
set_option linter.unusedVariables false
set_option maxRecDepth 100000

theorem cell_new2 (wr : World) (o1 : Obj) (v : Value) (T : TypeId) : ((wr.alloc o1).alloc (.cells #[v] T)).drew.cell? ⟨wr.heap.size + 1, 0, none⟩ = some v := by
  have h := blk_new (wr.alloc o1) (.cells #[v] T)
  rw [show (wr.alloc o1).heap.size = wr.heap.size + 1 by simp] at h
  exact (blk_cell (w := ((wr.alloc o1).alloc (.cells #[v] T)).drew) h 0).trans rfl
theorem k3_ok : ShOk ⟨3, 1, 2⟩ := ⟨by decide, by decide, by decide, by decide, by decide, by decide⟩
set_option maxHeartbeats 8000000 in
theorem memory.calls (l1 : List S28) (lw : List (Int × Int × Int)) (A1 A2 : Option Addr) (c1 c2 : Nat) (W : World) (hC1 : Kd.C k28 W A1 l1.length l1) (hc1 : l1.length ≤ c1) (hl1 : l1.length ≤ 100000000000000)
    (hC2 : Kd.C kW W A2 lw.length lw) (hc2 : lw.length ≤ c2) (hl2 : lw.length ≤ 100000000000000) (hwf : ∀ x ∈ lw, gU x.2.2) :
    Calls Try.prog 3 #[.agg #[.slice A1 l1.length c1, .slice A2 lw.length c2]] W fun e w' => e = .returned (.bool true) ∧ Below W.heap.size W w' := by
  obtain ⟨lt, hlt, htl, htok⟩ := take_ok l1 hl1
  have HT := Aside0.mk (fun W2 (h : Kd.C k28 W2 A1 l1.length l1) => larderlaw2_take.calls 2001 A1 c1 l1 lt W2 h hc1 hlt)
  have HC1 := Aside0.mk hC1
  have HC2 := Aside0.mk hC2
  have HWF := Aside0.mk hwf
  have HOK := Aside0.mk htok
  clear hC1 hC2 hlt hwf htok
  go_enter Try.func3, Try.ntmps3
  go_wp2_with fail
  refine (HT.out _ (Kd.C_below HC1.out (below_alloc (Below.refl _ _) _))).mono ?_
  rintro e w2 ⟨v2, rfl, hR, hb⟩
  have HR := Aside0.mk hR
  have H2 := Aside0.mk (below_next (below_alloc (Below.refl W.heap.size W) _) hb)
  have hw1 : w2.cell? ⟨W.heap.size, 1, none⟩ = some (.slice A2 lw.length c2) := by
    refine (hb.cell (p := ⟨W.heap.size, 1, none⟩) (by simp)).trans ?_
    exact (blk_cell (blk_new W _) 1).trans rfl
  obtain ⟨b0, hb0⟩ : ∃ b0, b0 = (W.alloc (.cells #[.slice A1 l1.length c1, .slice A2 lw.length c2] 25)).heap.size := ⟨_, rfl⟩
  have HB0 : Aside0 (b0 ≤ w2.heap.size ∧ W.heap.size ≤ b0) := ⟨by rw [hb0]; exact hb.size, by rw [hb0]; exact (below_alloc (Below.refl W.heap.size W) _).size⟩
  rw [← hb0] at HR
  clear hR hb hb0 HT
  go_upto_region 4 with ((with_reducible refine gate_builtin (b := .append) (xs := #[.tmp 28, .tmp 30]) rfl ?_); at_builtin; refine Kd.R_append k28 (w0 := w2) b0 rfl (.tmp 28) (.tmp 30) 22 28 (.agg #[.int .i64 0, .int .i64 0, .int .i64 0]) 24 rfl Try.underlying22 info28 rfl (by decide) (by omega) v2 lt (⟨3, 1, 2⟩ : S28) [.int .i64 3, .int .i64 1, .int .i64 2] (fun _ => True) (fun _ => False) rfl (by first | (go_simp; done) | (go_simp; rfl)) ?aP (fun _ hk => hk.elim) (fun _ _ => trivial) ?aO ?aB ?aS ?aL ?_; (case aP => exact k28_mkM _ _ _ (⟨3, 1, 2⟩ : S28)); (case aO => exact HR.out); (case aB => exact Below.refl _ _); (case aS => exact HB0.out.1); (case aL => omega); intro v3 w3 ho hb hg hat; have HO := Aside0.mk ho; have H3 := Aside0.mk (Below.trans (H2.out.mono (Nat.le_refl _)) (hb.mono HB0.out.2)); clear ho hb hg hat)
  obtain ⟨A, c, rfl, hc, hC⟩ := Kd.R_reads HO.out
  have HOKl : Aside0 (∀ x ∈ lt ++ [(⟨3, 1, 2⟩ : S28)], ShOk x) := ⟨fun x hx => by
    rcases List.mem_append.1 hx with h | h
    · exact HOK.out x h
    · rw [List.mem_singleton.1 h]; exact k3_ok⟩
  have hll : (lt ++ [(⟨3, 1, 2⟩ : S28)]).length ≤ 2001 ∧ 0 < (lt ++ [(⟨3, 1, 2⟩ : S28)]).length := by simp; omega
  generalize lt ++ [(⟨3, 1, 2⟩ : S28)] = l at *
  obtain ⟨hlm, hl0⟩ := hll
  have HC := Aside0.mk hC
  have HFi := Aside0.mk (fill.calls l A c w3 hC hc HOKl.out hlm)
  clear hC HO HR HB0 HOK htl hw1 H2
  go_wp2_with fail
  refine HFi.out.mono ?_
  rintro e w4 ⟨g, gw, gf, va, rfl, hfi⟩
  have HSH : Aside0 (∀ i : Nat, i < l.length → ∃ k r s : Nat, l[i]? = some (⟨k, r, s⟩ : S28) ∧ rd_T28 l i = ⟨k, r, s⟩ ∧ 1 ≤ k ∧ k ≤ 255 ∧ r ≤ 24 ∧ s ≤ 24) := ⟨fun i hi => by
    have h1 := rd_get l i hi
    obtain ⟨k, r, s, h2, h3⟩ := sh_nat (HOKl.out _ (List.mem_of_getElem? h1))
    exact ⟨k, r, s, by rw [h1, h2], h2, h3⟩⟩
  have HMem : Aside0 (Mem w3 w4 l g gw gf va (.slice none 0 0) (obsOf l) []) := ⟨by
    refine ⟨hfi.ar, hfi.at_, ?_, by simp, fun j h o h1 _ => by simp at h1, fun i j h h1 _ => by simp at h1, fun h h1 => by simp at h1, fun j k r s h1 => ⟨newOb k r s, ?_, rfl, rfl, by simp [newOb], rfl⟩, fun _ => rfl, hfi.below, hfi.g0, hfi.gw0, hfi.gf0, hfi.v0, fun k hk => (by cases hk), by simp [obsOf]⟩
    · have : heldV l [] = [] := by unfold heldV; simp
      rw [this]; exact GV.nil _ _
    · unfold obsOf; rw [List.getElem?_map, h1]; simp [obOf]⟩
  clear hfi HFi
  go_wp2_with fail
  go_loopw [8, 9] (fun vh i wr => ∃ hs : List Nat, hs.length ≤ l.length ∧ i = .int .i64 (hs.length : Int) ∧ Aside0 (Mem w3 wr l g gw gf va vh (obsOf l) hs)) (fun _ i _ => l.length - (intOf i).toNat)
  case atStart => exact ⟨[], by simp, rfl, HMem⟩
  case round =>
    obtain ⟨hs, hi, rfl, HM⟩ := hrel
    rename World => wr
    obtain ⟨i, hie⟩ : ∃ i, i = hs.length := ⟨_, rfl⟩
    rw [← hie] at hi
    rw [← hie]
    have HI := Aside0.mk hie
    clear HMem hie
    by_cases hlt : i < l.length
    · have hlt' : (i : Int) < l.length := by omega
      obtain ⟨k, r, s, hx, hrd, h1, h2, h3, h4⟩ := HSH.out i hlt
      obtain ⟨ad, hA, hx0, hx1, hx2⟩ := cells3 (Kd.C_below HC.out HM.out.below) hlt hrd
      subst hA
      have HX := Aside0.mk hx
      obtain ⟨q, hq⟩ : ∃ q, q = r + s := ⟨_, rfl⟩
      have HQ := Aside0.mk hq
      have hmk := make_u64 q (by omega)
      obtain ⟨e1, f1⟩ := NumB.sum_i (r : Int) s q (by omega) (by omega)
      have HRD := Aside0.mk hrd
      clear hx hrd hq
      go_wp2_with fail
      go_region_held3 (fun w' => w'.cell? (ad.add (i * 3)) = some (.int .i64 (k : Int)) ∧ w'.cell? ⟨(ad.add (i * 3)).block, (ad.add (i * 3)).off + 1, none⟩ = some (.int .i64 (r : Int)) ∧ w'.cell? ⟨(ad.add (i * 3)).block, (ad.add (i * 3)).off + 2, none⟩ = some (.int .i64 (s : Int))) (first | exact ⟨hx0, hx1, hx2⟩ | exact HK.out | go_keep) (first | (refine step_gen _ rfl (.tmp 46) (.tmp 59) 33 34 rfl Try.underlying33 (.slice none 0 0) 24 (by kernel_rfl) rfl (by decide) u8 (heldV l hs) rfl ?hv ⟨_, 0, none⟩ (ownV wr.heap.size q) rfl ?hc rfl ?hb ?_; go_must ((case hv => exact HM.out.hv.upd (S := none_) (Upd.of_below (by repeat (first | (with_reducible first | exact Below.refl _ _ | apply below_alloc | apply pw_below_drewN | apply below_drew1) | exact Below.refl _ _))) (fun _ _ h => h))); go_must ((case hc => exact cell_new2 _ _ _ _)); go_must ((case hb => rw [heldV_len l hs (by rw [← HI.out]; exact hi)]; rw [← HI.out]; omega)); intro v7 w7 hv7 ho7 hu7; have R7 := Aside0.mk (And.intro hv7 (And.intro ho7 hu7)); clear hv7 ho7 hu7; have HM7 : Aside0 (Mem w3 w7 l g gw gf va v7 (obsOf l) (hs ++ [wr.heap.size])) := ⟨by have R := R7.out; rw [HQ.out] at R; exact Mem.grow HM.out (by rw [← HI.out]; exact HX.out) (by unfold maxLen; omega) rfl (by repeat (first | (with_reducible first | exact Below.refl _ _ | apply below_alloc | apply pw_below_drewN | apply below_drew1) | exact Below.refl _ _)) R.1 R.2.1 R.2.2⟩; have HK := Aside0.mk (cells3' (Kd.C_below HC.out HM7.out.below) hlt HRD.out)))
      go_wp2_with fail
      go_roundw
      case rel => exact ⟨hs ++ [wr.heap.size], by rw [List.length_append, ← HI.out]; simp; omega, by rw [List.length_append, ← HI.out]; simp, HM7⟩
      case measure => simp [intOf]; omega
    · obtain rfl : i = l.length := by omega
      have HHL : Aside0 (hs.length = l.length) := ⟨HI.out.symm⟩
      obtain ⟨gh, ch, hvh, hch⟩ := HM.out.hv.form (by rw [heldV_len l hs (Nat.le_of_eq HHL.out), HHL.out]; exact hl0)
      rw [heldV_len l hs (Nat.le_of_eq HHL.out), HHL.out] at hvh hch
      subst hvh
      obtain ⟨gp, cp, hva, hcp⟩ := HM.out.at_.form (by simp [placesV]; exact hl0)
      have hpl : (placesV l l.length).length = l.length := by simp [placesV]
      rw [hpl] at hva hcp
      subst hva
      clear hpl hlt HI
      go_wp2_with fail
      go_loopw [10] (fun i wr => ∃ k : Nat, k ≤ lw.length ∧ k ≤ 2000 ∧ i = .int .i64 k ∧ ∃ obs, Aside0 (Mem w3 wr l g gw gf (.slice (some ⟨gp, 0, none⟩) l.length cp) (.slice (some ⟨gh, 0, none⟩) l.length ch) obs hs)) (fun i _ => 2001 - (intOf i).toNat)
      case atStart => exact ⟨0, Nat.zero_le _, Nat.zero_le _, rfl, _, HM⟩
      case round =>
        obtain ⟨i, hi1, hi2, rfl, obs, HM2⟩ := hrel
        clear HM
        rename World => wr2
        by_cases hlt : i < lw.length
        · by_cases hlt2 : i < 2000
          · obtain ⟨x, hx⟩ : ∃ x, lw[i]? = some x := ⟨_, List.getElem?_eq_getElem hlt⟩
            obtain ⟨a, b, v⟩ := x
            obtain ⟨hv0, hv1⟩ := wf_u64 (HWF.out _ (List.mem_of_getElem? hx))
            obtain ⟨V, rfl⟩ := Int.eq_ofNat_of_zero_le hv0
            obtain ⟨ad, hA, hx0, hx1, hx2⟩ := write_at (Kd.C_below HC2.out (below_next H3.out HM2.out.below)) i _ hx
            subst hA
            have HX3 : Aside0 (∀ W2, Below w3.heap.size w3 W2 → W2.cell? (ad.add (i * 3)) = some (.int .i64 a) ∧ W2.cell? ⟨(ad.add (i * 3)).block, (ad.add (i * 3)).off + 1, none⟩ = some (.int .i64 b) ∧ W2.cell? ⟨(ad.add (i * 3)).block, (ad.add (i * 3)).off + 2, none⟩ = some (.int .u64 (V : Int))) := ⟨fun W2 hb => by
              obtain ⟨ad', hA', h0, h1, h2⟩ := write_at (Kd.C_below HC2.out (below_next H3.out hb)) i _ hx
              obtain rfl := Option.some.inj hA'
              exact ⟨h0, h1, h2⟩⟩
            obtain ⟨o, ho, _, HWo⟩ := within_calls a l.length hl0 (by omega)
            obtain ⟨k, r, s, hxo, hrd, h1, h2, h3, h4⟩ := HSH.out o ho
            obtain ⟨ob, hob, ob1, ob2, ob3, ob4⟩ := HM2.out.sh o k r s hxo
            obtain ⟨h, hh⟩ : ∃ h, hs[o]? = some h := ⟨_, List.getElem?_eq_getElem (by rw [HHL.out]; exact ho)⟩
            have hcell := HM2.out.hv.cell o _ (heldV_get l hs o k r s h hxo hh)
            unfold ownV at hcell
            obtain ⟨n, hn⟩ : ∃ n, n = r + s := ⟨_, rfl⟩
            rw [← hn] at hcell ob3
            have hilt : (i : Int) < lw.length := by omega
            have holt : (o : Int) < l.length := by omega
            have HOB := Aside0.mk (And.intro hxo (And.intro hob (And.intro ob1 (And.intro ob2 (And.intro ob3 (And.intro ob4 hh))))))
            have HHW := Aside0.mk HWo
            have HN := Aside0.mk hn
            have hnb : n ≤ 48 := by omega
            have HV1 : Aside0 (V < 18446744073709551616) := ⟨by have h' : (V : Int) < 18446744073709551616 := hv1; omega⟩
            clear hxo hob ob1 ob2 ob3 ob4 hh HWo hx hrd hn hv0 hv1
            go_wp2_with fail
            refine (HHW.out _).mono ?_
            rintro e w5 ⟨rfl, hb⟩
            have HM5 := Aside0.mk (HM2.out.move hb)
            have hcell5 := (hb.cell (p := ⟨gh, o, none⟩) (World.block_lt_of_cell? _ _ hcell)).trans hcell
            clear hb hcell hx0 hx1 hx2 HHW
            obtain ⟨hx0, hx1, hx2⟩ := HX3.out w5 HM5.out.below
            by_cases hn0 : n = 0
            · have hn0' : ((n : Int) == 0) = true := by rw [hn0]; rfl
              go_wp2_with fail
              go_roundw
              case rel => exact ⟨i + 1, by omega, by omega, by go_num, obs, HM5⟩
              case measure => simp [intOf]; omega
            · have hn0' : ((n : Int) == 0) = false := by simp; exact hn0
              obtain ⟨f, hf, _, HWf⟩ := within_calls b n (by omega) (by omega)
              have HHW := Aside0.mk HWf
              have hnf : (f : Int) < n := by omega
              clear HWf
              go_wp2_with fail
              refine (HHW.out _).mono ?_
              rintro e w6 ⟨rfl, hb⟩
              have HM6 := Aside0.mk (HM5.out.move hb)
              have hcell6 := (hb.cell (p := ⟨gh, o, none⟩) (World.block_lt_of_cell? _ _ hcell5)).trans hcell5
              clear hb hcell5 hx0 hx1 hx2 HHW
              obtain ⟨hx0, hx1, hx2⟩ := HX3.out w6 HM6.out.below
              have hpc := HM6.out.at_.cell o _ (placesV_get l l.length o ho)
              obtain ⟨p, hp⟩ : ∃ p, p = place (obsOf l) o := ⟨_, rfl⟩
              rw [← hp] at hpc
              have HSet := Aside0.mk (fun W2 (hA : ArAt W2 g gw gf (used (obsOf l)) obs) => set_yes hA HOB.out.2.1 HOB.out.2.2.2.2.2.1 f V (by rw [HOB.out.2.2.2.2.1]; omega) HV1.out p (by rw [hp]; exact (HM6.out.pl o).symm))
              have HP := Aside0.mk hp
              clear hp
              go_wp2_with fail
              go_region_held3 (fun w' => w'.cell? ⟨gp, o, none⟩ = some (.int .i64 (p : Int)) ∧ w'.cell? ⟨(ad.add (i * 3)).block, (ad.add (i * 3)).off + 2, none⟩ = some (.int .u64 (V : Int))) (first | exact ⟨hpc, hx2⟩ | exact HK.out | go_keep) (first | (go_at_call 13; refine (HSet.out _ (HM6.out.ar.below (Below.refl w6.heap.size w6).drew)).mono ?_; rintro e w7 ⟨rfl, hA7, hu7⟩; have HA7 := Aside0.mk hA7; have HU7 : Aside0 (Upd (fun b => b = gw) w6 w7) := ⟨((Upd.refl (fun b => b = gw) w6).drew).trans hu7⟩; clear hA7 hu7; have HB7 : Aside0 (Below w3.heap.size w3 w7) := ⟨Upd.to_below HM6.out.below HU7.out HM6.out.below.size (fun j hj => by rw [hj]; exact HM6.out.gw0)⟩; have HK : Aside0 (w7.cell? ⟨gp, o, none⟩ = some (.int .i64 (p : Int)) ∧ w7.cell? ⟨(ad.add (i * 3)).block, (ad.add (i * 3)).off + 2, none⟩ = some (.int .u64 (V : Int))) := ⟨(HM6.out.at_.upd HU7.out (fun k hk hg => gv_not_ar HM6.out.at_ HM6.out.ar (by decide) (by decide) k hk (.inr (.inl hg)))).cell o _ (by rw [HP.out]; exact placesV_get l l.length o ho), (HX3.out w7 HB7.out).2.2⟩))
              clear hx0 hx1 hx2 hpc hcell6
              obtain ⟨hx0, hx1, hx2⟩ := HX3.out w7 HB7.out
              have hcell7 := (HM6.out.hv.upd HU7.out (fun k hk hg => gv_not_ar HM6.out.hv HM6.out.ar (by decide) (by decide) k hk (.inr (.inl hg)))).cell o _ (heldV_get l hs o k r s h HOB.out.1 HOB.out.2.2.2.2.2.2)
              unfold ownV at hcell7
              rw [← HN.out] at hcell7
              have HW7 := Aside0.mk ((HM6.out.ws o h ob HOB.out.2.2.2.2.2.2 HOB.out.2.1).upd HU7.out (HM6.out.nw h (List.mem_of_getElem? HOB.out.2.2.2.2.2.2)).1)
              obtain ⟨x0, hx0'⟩ : ∃ x0, ob.fields[f]? = some x0 := ⟨_, List.getElem?_eq_getElem (by rw [HOB.out.2.2.2.2.1]; exact hf)⟩
              have hcf := HW7.out.get f x0 hx0'
              have hff := HW7.out.frozen f
              have HPut := Aside0.mk (HM6.out.put HOB.out.2.2.2.2.2.2 HOB.out.2.1 (f := f) (x := V) (by rw [HOB.out.2.2.2.2.1]; exact hf) HV1.out (HA7.out.below (Below.refl w7.heap.size w7).drew) HU7.out.drew)
              clear hx0'
              go_wp2_with fail
              refine (num.calls _ _).mono ?_
              rintro e w8 ⟨rfl, rfl⟩
              go_wp2_with fail
              go_still_tail 11, (by kernel_rfl)
              change wpList _ _ _ _ _ w8.drew
              go_wp2_with fail
              go_roundw
              case rel => exact ⟨i + 1, by omega, by omega, by go_num, _, HPut⟩
              case measure => simp [intOf]; omega
          · clear hi1 hi2
            go_wp2_with fail
            go_loopw [15] (fun i wr => ∃ k : Nat, k ≤ l.length ∧ i = .int .i64 k ∧ Aside0 (Mem w3 wr l g gw gf (.slice (some ⟨gp, 0, none⟩) l.length cp) (.slice (some ⟨gh, 0, none⟩) l.length ch) obs hs)) (fun i _ => l.length - (intOf i).toNat)
            case atStart => exact ⟨0, Nat.zero_le _, rfl, HM2⟩
            case round =>
              obtain ⟨j, hj, rfl, HM3⟩ := hrel
              clear HM2
              rename World => wr3
              by_cases hjl : j < l.length
              · obtain ⟨k, r, s, hxo, hrd, h1, h2, h3, h4⟩ := HSH.out j hjl
                obtain ⟨ob, hob, ob1, ob2, ob3, ob4⟩ := HM3.out.sh j k r s hxo
                obtain ⟨h, hh⟩ : ∃ h, hs[j]? = some h := ⟨_, List.getElem?_eq_getElem (by rw [HHL.out]; exact hjl)⟩
                have HCE : Aside0 (∀ W2, Mem w3 W2 l g gw gf (.slice (some ⟨gp, 0, none⟩) l.length cp) (.slice (some ⟨gh, 0, none⟩) l.length ch) obs hs → W2.cell? ⟨gh, j, none⟩ = some (.slice (some ⟨h, 0, none⟩) (r + s) (r + s)) ∧ W2.cell? ⟨gp, j, none⟩ = some (.int .i64 (place (obsOf l) j : Int)) ∧ WordsAt W2 h (r + s) ob.fields) := ⟨fun W2 hM => ⟨hM.hv.cell j _ (heldV_get l hs j k r s h hxo hh), hM.at_.cell j _ (placesV_get l l.length j hjl), by have := hM.ws j h ob hh hob; rw [ob3] at this; exact this⟩⟩
                obtain ⟨n, hn⟩ : ∃ n, n = r + s := ⟨_, rfl⟩
                obtain ⟨p, hp⟩ : ∃ p, p = place (obsOf l) j := ⟨_, rfl⟩
                rw [← hn, ← hp] at HCE
                obtain ⟨ad, hA, hx0, hx1, hx2⟩ := cells3 (Kd.C_below HC.out HM3.out.below) hjl hrd
                subst hA
                have HX3 : Aside0 (∀ W2, Below w3.heap.size w3 W2 → Cells3 W2 ad j k r s) := ⟨fun W2 hb => cells3' (Kd.C_below HC.out hb) hjl hrd⟩
                have HObj := Aside0.mk (fun W2 (hA : ArAt W2 g gw gf (used (obsOf l)) obs) => object_yes hA hob ob4 p (by rw [hp]; exact (HM3.out.pl j).symm) k r s ob1 ob2 ob3)
                have HGet := Aside0.mk (fun W2 (hA : ArAt W2 g gw gf (used (obsOf l)) obs) (f x : Nat) (hx : ob.fields[f]? = some x) => get_yes hA hob ob4 f x hx p (by rw [hp]; exact (HM3.out.pl j).symm))
                have HFL : Aside0 (ob.fields.length = n) := ⟨by rw [hn]; exact ob3⟩
                have hnb : n ≤ 48 := by omega
                have hjlt : (j : Int) < l.length := by omega
                obtain ⟨hcell, hpc, hwd⟩ := HCE.out _ HM3.out
                have HWD := Aside0.mk hwd
                clear hxo hrd hob ob1 ob2 ob3 ob4 hh hn hp hwd hx0 hx1 hx2
                go_wp2_with fail
                refine (HObj.out _ HM3.out.ar).mono ?_
                rintro e w5 ⟨rfl, hb⟩
                have HM5 := Aside0.mk (HM3.out.move hb)
                clear hb hcell hpc HWD HObj
                obtain ⟨hx0, hx1, hx2⟩ := HX3.out w5 HM5.out.below
                go_wp2_with fail
                refine (num.calls _ _).mono ?_
                rintro e w6 ⟨rfl, rfl⟩
                go_wp2_with fail
                clear hx0 hx1 hx2
                go_loopw [20] (fun i wr => ∃ f : Nat, f ≤ n ∧ i = .int .i64 f ∧ Aside0 (Mem w3 wr l g gw gf (.slice (some ⟨gp, 0, none⟩) l.length cp) (.slice (some ⟨gh, 0, none⟩) l.length ch) obs hs)) (fun i _ => n - (intOf i).toNat)
                case atStart => exact ⟨0, Nat.zero_le _, rfl, HM5⟩
                case round =>
                  obtain ⟨f, hf, rfl, HM6⟩ := hrel
                  clear HM5
                  rename World => wr6
                  obtain ⟨hcell, hpc, hwd⟩ := HCE.out _ HM6.out
                  have HWD := Aside0.mk hwd
                  clear hwd
                  by_cases hfn : f < n
                  · obtain ⟨x, hx⟩ : ∃ x, ob.fields[f]? = some x := ⟨_, List.getElem?_eq_getElem (by rw [HFL.out]; exact hfn)⟩
                    have HG := Aside0.mk (fun W2 hA => HGet.out W2 hA f x hx)
                    have HX := Aside0.mk hx
                    have hfn' : (f : Int) < n := by omega
                    clear hx
                    go_wp2_with fail
                    refine (HG.out _ HM6.out.ar).mono ?_
                    rintro e w7 ⟨rfl, hb⟩
                    have HM7 := Aside0.mk (HM6.out.move hb)
                    clear hb hcell hpc HWD HG
                    obtain ⟨hcell, hpc, hwd⟩ := HCE.out _ HM7.out
                    have hcx := hwd.get f x HX.out
                    clear hwd
                    go_wp2_with fail
                    refine (num.calls _ _).mono ?_
                    rintro e w8 ⟨rfl, rfl⟩
                    go_wp2_with fail
                    go_roundw
                    case rel => exact ⟨f + 1, by omega, by go_num, HM7⟩
                    case measure => simp [intOf]; omega
                  · go_wp2_with fail
                    go_roundw
                    case rel => exact ⟨j + 1, by omega, by go_num, HM6⟩
                    case measure => simp [intOf]; omega
              · go_wp2_with fail
                go_ret
                exact ⟨rfl, below_next H3.out HM3.out.below⟩
        · clear hi1 hi2
          go_wp2_with fail
          go_loopw [15] (fun i wr => ∃ k : Nat, k ≤ l.length ∧ i = .int .i64 k ∧ Aside0 (Mem w3 wr l g gw gf (.slice (some ⟨gp, 0, none⟩) l.length cp) (.slice (some ⟨gh, 0, none⟩) l.length ch) obs hs)) (fun i _ => l.length - (intOf i).toNat)
          case atStart => exact ⟨0, Nat.zero_le _, rfl, HM2⟩
          case round =>
            obtain ⟨j, hj, rfl, HM3⟩ := hrel
            clear HM2
            rename World => wr3
            by_cases hjl : j < l.length
            · obtain ⟨k, r, s, hxo, hrd, h1, h2, h3, h4⟩ := HSH.out j hjl
              obtain ⟨ob, hob, ob1, ob2, ob3, ob4⟩ := HM3.out.sh j k r s hxo
              obtain ⟨h, hh⟩ : ∃ h, hs[j]? = some h := ⟨_, List.getElem?_eq_getElem (by rw [HHL.out]; exact hjl)⟩
              have HCE : Aside0 (∀ W2, Mem w3 W2 l g gw gf (.slice (some ⟨gp, 0, none⟩) l.length cp) (.slice (some ⟨gh, 0, none⟩) l.length ch) obs hs → W2.cell? ⟨gh, j, none⟩ = some (.slice (some ⟨h, 0, none⟩) (r + s) (r + s)) ∧ W2.cell? ⟨gp, j, none⟩ = some (.int .i64 (place (obsOf l) j : Int)) ∧ WordsAt W2 h (r + s) ob.fields) := ⟨fun W2 hM => ⟨hM.hv.cell j _ (heldV_get l hs j k r s h hxo hh), hM.at_.cell j _ (placesV_get l l.length j hjl), by have := hM.ws j h ob hh hob; rw [ob3] at this; exact this⟩⟩
              obtain ⟨n, hn⟩ : ∃ n, n = r + s := ⟨_, rfl⟩
              obtain ⟨p, hp⟩ : ∃ p, p = place (obsOf l) j := ⟨_, rfl⟩
              rw [← hn, ← hp] at HCE
              obtain ⟨ad, hA, hx0, hx1, hx2⟩ := cells3 (Kd.C_below HC.out HM3.out.below) hjl hrd
              subst hA
              have HX3 : Aside0 (∀ W2, Below w3.heap.size w3 W2 → Cells3 W2 ad j k r s) := ⟨fun W2 hb => cells3' (Kd.C_below HC.out hb) hjl hrd⟩
              have HObj := Aside0.mk (fun W2 (hA : ArAt W2 g gw gf (used (obsOf l)) obs) => object_yes hA hob ob4 p (by rw [hp]; exact (HM3.out.pl j).symm) k r s ob1 ob2 ob3)
              have HGet := Aside0.mk (fun W2 (hA : ArAt W2 g gw gf (used (obsOf l)) obs) (f x : Nat) (hx : ob.fields[f]? = some x) => get_yes hA hob ob4 f x hx p (by rw [hp]; exact (HM3.out.pl j).symm))
              have HFL : Aside0 (ob.fields.length = n) := ⟨by rw [hn]; exact ob3⟩
              have hnb : n ≤ 48 := by omega
              have hjlt : (j : Int) < l.length := by omega
              obtain ⟨hcell, hpc, hwd⟩ := HCE.out _ HM3.out
              have HWD := Aside0.mk hwd
              clear hxo hrd hob ob1 ob2 ob3 ob4 hh hn hp hwd hx0 hx1 hx2
              go_wp2_with fail
              refine (HObj.out _ HM3.out.ar).mono ?_
              rintro e w5 ⟨rfl, hb⟩
              have HM5 := Aside0.mk (HM3.out.move hb)
              clear hb hcell hpc HWD HObj
              obtain ⟨hx0, hx1, hx2⟩ := HX3.out w5 HM5.out.below
              go_wp2_with fail
              refine (num.calls _ _).mono ?_
              rintro e w6 ⟨rfl, rfl⟩
              go_wp2_with fail
              clear hx0 hx1 hx2
              go_loopw [20] (fun i wr => ∃ f : Nat, f ≤ n ∧ i = .int .i64 f ∧ Aside0 (Mem w3 wr l g gw gf (.slice (some ⟨gp, 0, none⟩) l.length cp) (.slice (some ⟨gh, 0, none⟩) l.length ch) obs hs)) (fun i _ => n - (intOf i).toNat)
              case atStart => exact ⟨0, Nat.zero_le _, rfl, HM5⟩
              case round =>
                obtain ⟨f, hf, rfl, HM6⟩ := hrel
                clear HM5
                rename World => wr6
                obtain ⟨hcell, hpc, hwd⟩ := HCE.out _ HM6.out
                have HWD := Aside0.mk hwd
                clear hwd
                by_cases hfn : f < n
                · obtain ⟨x, hx⟩ : ∃ x, ob.fields[f]? = some x := ⟨_, List.getElem?_eq_getElem (by rw [HFL.out]; exact hfn)⟩
                  have HG := Aside0.mk (fun W2 hA => HGet.out W2 hA f x hx)
                  have HX := Aside0.mk hx
                  have hfn' : (f : Int) < n := by omega
                  clear hx
                  go_wp2_with fail
                  refine (HG.out _ HM6.out.ar).mono ?_
                  rintro e w7 ⟨rfl, hb⟩
                  have HM7 := Aside0.mk (HM6.out.move hb)
                  clear hb hcell hpc HWD HG
                  obtain ⟨hcell, hpc, hwd⟩ := HCE.out _ HM7.out
                  have hcx := hwd.get f x HX.out
                  clear hwd
                  go_wp2_with fail
                  refine (num.calls _ _).mono ?_
                  rintro e w8 ⟨rfl, rfl⟩
                  go_wp2_with fail
                  go_roundw
                  case rel => exact ⟨f + 1, by omega, by go_num, HM7⟩
                  case measure => simp [intOf]; omega
                · go_wp2_with fail
                  go_roundw
                  case rel => exact ⟨j + 1, by omega, by go_num, HM6⟩
                  case measure => simp [intOf]; omega
            · go_wp2_with fail
              go_ret
              exact ⟨rfl, below_next H3.out HM3.out.below⟩
end Go.Proofs.Ytgjcffjicbmkhaa.MemW
end

section
/- larderlaw2.ArenaCollect walked. -/
namespace Go.Proofs.Ytgjcffjicbmkhaa.ColW
open Go Go.RowKit Go.Proofs.YtgjcffjicbmkhaaW.PrintWords Go.Proofs.YtgjcffjicbmkhaaW.PrintLast Go.Proofs.YtgjcffjicbmkhaaW.PrintMore Go.Proofs.Ytgjcffjicbmkhaa.PF Go.Proofs.Ytgjcffjicbmkhaa.RowU Go.Proofs.Ytgjcffjicbmkhaa.ArS Go.Proofs.Ytgjcffjicbmkhaa.ArM Go.Proofs.Ytgjcffjicbmkhaa.ArX Go.Proofs.Ytgjcffjicbmkhaa.ArY Go.Proofs.Ytgjcffjicbmkhaa.ArT Go.Proofs.Ytgjcffjicbmkhaa.ArV Go.Proofs.Ytgjcffjicbmkhaa.ArP Go.Proofs.Ytgjcffjicbmkhaa.GenM Go.Proofs.Ytgjcffjicbmkhaa.TakS Go.Proofs.Ytgjcffjicbmkhaa.FillL Go.Proofs.Ytgjcffjicbmkhaa.RfdM Go.Proofs.Ytgjcffjicbmkhaa.ColS Go.Proofs.Ytgjcffjicbmkhaa.ColR Go.Proofs.Ytgjcffjicbmkhaa.LayW Go.Proofs.Ytgjcffjicbmkhaa.SeeW Go.Proofs.Ytgjcffjicbmkhaa.CopM Go.Proofs.Ytgjcffjicbmkhaa.CopW Go.Proofs.Ytgjcffjicbmkhaa.CpdW
set_option linter.unusedVariables false
set_option maxRecDepth 100000

def egI (E : List (List Int)) (n i k : Nat) : Int := (larderlaw2_edge.f 1 [] E [] (n : Int) (i : Int) (k : Int)).getD (-1)
def egO (E : List (List Int)) (n i k : Nat) : Option Nat := if egI E n i k < 0 then none else some (egI E n i k).toNat
theorem edge_ok (l0 : List S28) (E : List (List Int)) (l2 : List Int) (n i k : Nat) (hn : 0 < n) (hn2 : n ≤ 2001) : larderlaw2_edge.f 1 l0 E l2 (n : Int) (i : Int) (k : Int) = some (egI E n i k) ∧ (egI E n i k = -1 ∨ (0 ≤ egI E n i k ∧ egI E n i k < n)) := by
  have h : ∃ r, larderlaw2_edge.f 1 l0 E l2 (n : Int) (i : Int) (k : Int) = some r ∧ larderlaw2_edge.f 1 [] E [] (n : Int) (i : Int) (k : Int) = some r ∧ (r = -1 ∨ (0 ≤ r ∧ r < n)) := by
    unfold larderlaw2_edge.f
    by_cases h1 : (i : Int) ≥ (E.length : Int)
    · rw [if_pos h1, if_pos h1]
      exact ⟨-1, rfl, rfl, .inl rfl⟩
    · rw [if_neg h1, if_neg h1, if_pos (by omega), if_pos (by omega), if_pos (by omega), if_pos (by omega)]
      unfold larderlaw2_edge.j0
      dsimp only
      by_cases h2 : (k : Int) ≥ ((rd_L4 E (i : Int)).length : Int)
      · rw [if_pos (decide_eq_true h2)]
        exact ⟨-1, rfl, rfl, .inl rfl⟩
      · rw [if_neg (by simp; omega), if_pos (by omega), if_pos (by omega), if_pos (by omega), if_pos (by omega)]
        obtain ⟨r, h3, h4⟩ := within_ok (rd (rd_L4 E (i : Int)) (k : Int)) (n + 1) (by omega) (by omega)
        have h5 : wrap64 ((n : Int) + 1) = ((n + 1 : Nat) : Int) := by rw [ArW.w64_small _ (by omega) (by omega)]; omega
        rw [h5, h3]
        simp only [Option.bind_some]
        by_cases h6 : (r : Int) = n
        · rw [if_pos h6]; exact ⟨-1, rfl, rfl, .inl rfl⟩
        · rw [if_neg h6]; exact ⟨r, rfl, rfl, .inr ⟨by omega, by omega⟩⟩
  obtain ⟨r, h1, h2, h3⟩ := h
  have h4 : egI E n i k = r := by unfold egI; rw [h2]; rfl
  rw [h4]
  exact ⟨h1, h3⟩
theorem egO_lt {E : List (List Int)} {n i k t : Nat} (hn : 0 < n) (hn2 : n ≤ 2001) (h : egO E n i k = some t) : t < n := by
  unfold egO at h
  have := (edge_ok [] E [] n i k hn hn2).2
  split at h
  · cases h
  · obtain rfl := Option.some.inj h; omega
theorem egO_I {E : List (List Int)} {n i k : Nat} (hn : 0 < n) (hn2 : n ≤ 2001) : edI (egO E n i k) = egI E n i k := by
  have := (edge_ok [] E [] n i k hn hn2).2
  unfold egO
  split
  · show (-1 : Int) = _; omega
  · show ((egI E n i k).toNat : Int) = _; omega
/-- The graph of an argument. -/
def gpOf (l : List S28) (E : List (List Int)) : Gp := ⟨l.length, fun i => (rd_T28 l i).f0.toNat, fun i => (rd_T28 l i).f1.toNat, fun i => (rd_T28 l i).f2.toNat, egO E l.length, rawN⟩
theorem gpOf_ok {l : List S28} (E : List (List Int)) (h0 : 0 < l.length) (h1 : l.length ≤ 2001) (hok : ∀ x ∈ l, ShOk x) : (gpOf l E).ok ∧ Shp (gpOf l E) l := by
  have key : ∀ i : Nat, i < l.length → ∃ k r s : Nat, l[i]? = some (⟨k, r, s⟩ : S28) ∧ rd_T28 l i = ⟨k, r, s⟩ ∧ 1 ≤ k ∧ k ≤ 255 ∧ r ≤ 24 ∧ s ≤ 24 := fun i hi => by
    have h1 := rd_get l i hi
    obtain ⟨k, r, s, h2, h3⟩ := sh_nat (hok _ (List.mem_of_getElem? h1))
    exact ⟨k, r, s, by rw [h1, h2], h2, h3⟩
  refine ⟨⟨h1, fun i hi => ?_, fun i hi => ?_, fun i hi => ?_, fun i k t h => egO_lt h0 h1 h, fun i k => rawN_lt i k⟩, ⟨rfl, fun i hi => ?_⟩⟩
  · obtain ⟨k, r, s, a1, a2, a3, a4, a5, a6⟩ := key i hi
    show 1 ≤ (rd_T28 l i).f0.toNat ∧ (rd_T28 l i).f0.toNat ≤ 255
    rw [a2]; exact ⟨by simpa using a3, by simpa using a4⟩
  · obtain ⟨k, r, s, a1, a2, a3, a4, a5, a6⟩ := key i hi
    show (rd_T28 l i).f1.toNat ≤ 24
    rw [a2]; simpa using a5
  · obtain ⟨k, r, s, a1, a2, a3, a4, a5, a6⟩ := key i hi
    show (rd_T28 l i).f2.toNat ≤ 24
    rw [a2]; simpa using a6
  · obtain ⟨k, r, s, a1, a2, a3, a4, a5, a6⟩ := key i hi
    show l[i]? = some ⟨((rd_T28 l i).f0.toNat : Int), ((rd_T28 l i).f1.toNat : Int), ((rd_T28 l i).f2.toNat : Int)⟩
    rw [a1, a2]; simp
theorem edges_ok {W : World} {l0 l : List S28} {E : List (List Int)} {rs : List Int} {A0 A1 Ar : Option Addr} {c0 c1 cr : Nat} (h0 : Kd.C k28 W A0 l0.length l0) (b0 : l0.length ≤ c0) (h1 : Kd.C (Kd.slice 3 (Kd.int .i64)) W A1 E.length E) (b1 : E.length ≤ c1) (h2 : Kd.C (Kd.int .i64) W Ar rs.length rs) (b2 : rs.length ≤ cr) (hl : 0 < l.length) (hl2 : l.length ≤ 2001) :
    EdgesOk W (.slice A0 l0.length c0) (.slice A1 E.length c1) (.slice Ar rs.length cr) (gpOf l E) := by
  intro i k hi hk w' hb
  show Calls Try.prog 40 _ w' fun e w'' => e = .returned (.int .i64 (edI (egO E l.length i k))) ∧ _
  rw [egO_I hl hl2]
  exact larderlaw2_edge.calls 1 A0 c0 l0 A1 c1 E Ar cr rs (l.length : Int) i k _ w' (Kd.C_below h0 hb) b0 (Kd.C_below h1 hb) b1 (Kd.C_below h2 hb) b2 (edge_ok l0 E rs l.length i k hl hl2).1
theorem EdgesOk.move {W w : World} {v0 v1 v2 : Value} {G : Gp} (h : EdgesOk W v0 v1 v2 G) (hb : Below W.heap.size W w) : EdgesOk w v0 v1 v2 G := fun i k hi hk w' hb2 => h i k hi hk w' (below_next hb hb2)
theorem a_object {W : World} {G : Gp} {g gw gf sz : Nat} {o : List Nat} (hA : ArAt W g gw gf sz (G.aL o)) {t : Nat} (ht : t ∉ o) (htN : t < G.N) :
    Calls Try.prog 15 #[.pointer (some ⟨g, 0, none⟩), .int .i64 (G.pa t : Int)] W fun e w' => e = .returned (.tuple #[.int .i64 (G.K t : Int), .int .i64 (G.R t : Int), .int .i64 (G.S t : Int), .int .i64 0]) ∧ Below W.heap.size W w' :=
  object_yes hA (objs_get (G.aF o) htN) (by unfold Gp.aF; simp [ht]) (G.pa t) (G.place_a o (Nat.le_of_lt htN)).symm _ _ _ rfl rfl (G.aF_len o t)
/-- A laid graph, and a new block to copy into. -/
theorem copy_ready {w4 w5 w6 : World} {G : Gp} {ga gwa gfa gp cp gb gwb gfb sz : Nat} {v : Value} (hL : Laid w4 w5 G ga gwa gfa v) (hat : GenAt 3 w5 gp cp (plV G)) (hA : ArAt w6 gb gwb gfb sz []) (n2 : w5.heap.size ≤ gb) (n3 : w5.heap.size ≤ gwb) (n4 : w5.heap.size ≤ gfb) (hb : Below w5.heap.size w5 w6) :
    Pair w6 gb gwb gfb sz [] ga gwa gfa (G.pa G.N) (G.aL []) false ∧ GenAt 3 w6 gp cp (plV G) ∧ ¬ CS gb gwb gfb ga gwa gfa gp ∧ ∀ b, CS gb gwb gfb ga gwa gfa b → w4.heap.size ≤ b := by
  obtain ⟨l1, l2, l3⟩ := ArAt.lt3 hL.ar
  have h4 := hL.below.size
  have h5 := hL.g0
  have h6 := hL.gw0
  have h7 := hL.gf0
  have hgp := hat.lt
  have hna := gv_not_ar (T := 3) (v := .slice (some ⟨gp, 0, none⟩) (plV G).length cp) (lst := plV G) (.inr ⟨gp, cp, rfl, hat⟩) hL.ar (by decide) (by decide) gp rfl
  refine ⟨⟨hA, hL.ar.below hb, ?_⟩, hat.upd (S := none_) (Upd.of_below hb) (fun h => h), ?_, ?_⟩
  · show Sep gb gwb gfb ga gwa gfa
    rintro i (rfl | rfl | rfl) (h | h | h) <;> omega
  · rintro ((h | h | h) | h)
    · omega
    · omega
    · omega
    · exact hna h
  · rintro b ((rfl | rfl | rfl) | (rfl | rfl | rfl)) <;> omega
theorem k5_ok : ShOk ⟨5, 1, 1⟩ := ⟨by decide, by decide, by decide, by decide, by decide, by decide⟩
set_option maxHeartbeats 16000000 in
theorem collect.calls (l0 : List S28) (E : List (List Int)) (rs : List Int) (A0 A1 Ar : Option Addr) (c0 c1 cr : Nat) (W : World) (hC0 : Kd.C k28 W A0 l0.length l0) (hc0 : l0.length ≤ c0) (hl0 : l0.length ≤ 1048576)
    (hC1 : Kd.C (Kd.slice 3 (Kd.int .i64)) W A1 E.length E) (hc1 : E.length ≤ c1) (hC2 : Kd.C (Kd.int .i64) W Ar rs.length rs) (hc2 : rs.length ≤ cr) (hl2 : rs.length ≤ 1048576) :
    Calls Try.prog 5 #[.agg #[.slice A0 l0.length c0, .slice A1 E.length c1, .slice Ar rs.length cr]] W fun e w' => e = .returned (.bool true) ∧ Below W.heap.size W w' := by
  obtain ⟨lt, hlt, htl, htok⟩ := take_ok l0 (by omega)
  have HT := Aside0.mk (fun W2 (h : Kd.C k28 W2 A0 l0.length l0) => larderlaw2_take.calls 2001 A0 c0 l0 lt W2 h hc0 hlt)
  have HC0 := Aside0.mk hC0
  have HEO := Aside0.mk (fun (l : List S28) (hl : 0 < l.length) (hl2 : l.length ≤ 2001) => edges_ok (l := l) hC0 hc0 hC1 hc1 hC2 hc2 hl hl2)
  have HC2 := Aside0.mk hC2
  have HOK := Aside0.mk htok
  clear hC0 hC1 hC2 hlt htok hc0 hc1 hc2 hl0
  obtain ⟨v1, hv1⟩ : ∃ v, v = Value.slice A1 E.length c1 := ⟨_, rfl⟩
  rw [← hv1] at HEO
  rw [← hv1]
  clear hv1
  go_enter Try.func5, Try.ntmps5
  go_wp2_with fail
  refine (HT.out _ (Kd.C_below HC0.out (below_alloc (Below.refl _ _) _))).mono ?_
  rintro e w2 ⟨v2, rfl, hR, hb⟩
  have HR := Aside0.mk hR
  have H2 := Aside0.mk (below_next (below_alloc (Below.refl W.heap.size W) _) hb)
  have HBX2 := Aside0.mk (blk_below (blk_new W (.cells #[.slice A0 l0.length c0, v1, .slice Ar rs.length cr] 52)) hb)
  obtain ⟨b0, hb0⟩ : ∃ b0, b0 = (W.alloc (.cells #[.slice A0 l0.length c0, v1, .slice Ar rs.length cr] 52)).heap.size := ⟨_, rfl⟩
  have HB0 : Aside0 (b0 ≤ w2.heap.size ∧ W.heap.size ≤ b0 ∧ W.heap.size < b0) := ⟨by rw [hb0]; exact hb.size, by rw [hb0]; exact (below_alloc (Below.refl W.heap.size W) _).size, by rw [hb0]; simp⟩
  rw [← hb0] at HR
  clear hR hb hb0 HT
  go_upto_region 3 with ((with_reducible refine gate_builtin (b := .append) (xs := #[.tmp 28, .tmp 30]) rfl ?_); at_builtin; refine Kd.R_append k28 (w0 := w2) b0 rfl (.tmp 28) (.tmp 30) 22 28 (.agg #[.int .i64 0, .int .i64 0, .int .i64 0]) 24 rfl Try.underlying22 info28 rfl (by decide) (by omega) v2 lt (⟨5, 1, 1⟩ : S28) [.int .i64 5, .int .i64 1, .int .i64 1] (fun _ => True) (fun _ => False) rfl (by first | (go_simp; done) | (go_simp; rfl)) ?aP (fun _ hk => hk.elim) (fun _ _ => trivial) ?aO ?aB ?aS ?aL ?_; (case aP => exact k28_mkM _ _ _ (⟨5, 1, 1⟩ : S28)); (case aO => exact HR.out); (case aB => exact Below.refl _ _); (case aS => exact HB0.out.1); (case aL => omega); intro v3 w3 ho hb hg hat; have HO := Aside0.mk ho; have HBX3 := Aside0.mk ((hb.block W.heap.size HB0.out.2.2).trans HBX2.out); have H3 := Aside0.mk (Below.trans (H2.out.mono (Nat.le_refl _)) (hb.mono HB0.out.2.1)); clear ho hb hg hat)
  obtain ⟨A, c, rfl, hc, hC⟩ := Kd.R_reads HO.out
  have hokl : ∀ x ∈ lt ++ [(⟨5, 1, 1⟩ : S28)], ShOk x := fun x hx => by
    rcases List.mem_append.1 hx with h | h
    · exact HOK.out x h
    · rw [List.mem_singleton.1 h]; exact k5_ok
  have hll : (lt ++ [(⟨5, 1, 1⟩ : S28)]).length ≤ 2001 ∧ 0 < (lt ++ [(⟨5, 1, 1⟩ : S28)]).length := by simp; omega
  generalize lt ++ [(⟨5, 1, 1⟩ : S28)] = l at *
  obtain ⟨hlm, hl0'⟩ := hll
  obtain ⟨hGok, hGS⟩ := gpOf_ok E hl0' hlm hokl
  have HEd := Aside0.mk (HEO.out l hl0' hlm)
  have hraw : (gpOf l E).raw = rawN := rfl
  have hNl : l.length = (gpOf l E).N := rfl
  obtain ⟨v0, hv0⟩ : ∃ v, v = Value.slice A0 l0.length c0 := ⟨_, rfl⟩
  rw [← hv0] at HBX3 HEd ⊢
  clear hv0
  generalize gpOf l E = G at *
  have HG := Aside0.mk hGok
  have HS := Aside0.mk hGS
  have HRW := Aside0.mk hraw
  have HOKl := Aside0.mk hokl
  have HC := Aside0.mk hC
  have hpos : 0 < G.N := by omega
  have hN := hGok.n1
  rw [hNl] at hc ⊢
  obtain ⟨bx, hbx⟩ : ∃ bx, bx = W.heap.size := ⟨_, rfl⟩
  rw [← hbx] at HBX3 ⊢
  have hbxW : W.heap.size ≤ bx := Nat.le_of_eq hbx.symm
  have HBX : Aside0 (∀ w, Below w3.heap.size w3 w → ∀ j u, (gArr v0 v1 (.slice Ar rs.length cr))[j]? = some u → w.cell? ((⟨bx, 0, none⟩ : Addr).add j) = some u) := ⟨fun w hb j u hu => by
    rw [Addr.add_lit, Nat.zero_add, blk_cell (blk_below HBX3.out hb) j]
    simpa [gArr] using hu⟩
  have HS3 := Aside0.mk (show (Try.prog.info? 52).map (·.size) = some 3 by kernel_rfl)
  clear hGok hGS hraw hokl hC hNl hlm hl0' hbx HO HR HB0 HOK htl H2 HBX2 HEO HC0
  have HRe := Aside0.mk (reached.calls G HG.out l HS.out hpos A c v0 v1 Ar rs cr w3 HC.out hc (Kd.C_below HC2.out H3.out) hl2 (EdgesOk.move HEd.out H3.out))
  go_upto_region 4 with ((with_reducible refine gate_dst (N := 33) rfl ?_); refine wpList_load_at rfl 52 (.tmp 1) rfl ⟨bx, 0, none⟩ rfl (gArr v0 v1 (.slice Ar rs.length cr)) _ (HBX.out _ (Below.refl _ _)) Try.underlying52 rfl HS3.out ?_)
  refine HRe.out.mono ?_
  rintro e w4 ⟨gs, P, rfl, hsn, hgs, hP, hb⟩
  have H4 := Aside0.mk hb
  have HSN := Aside0.mk (And.intro hsn (And.intro hgs hP))
  clear hsn hgs hP hb HRe
  have HLa := Aside0.mk (fun w (hb : Below w3.heap.size w3 w) => lay.calls G HG.out HRW.out l HS.out hpos HOKl.out A c v0 v1 (.slice Ar rs.length cr) w (Kd.C_below HC.out hb) hc (EdgesOk.move HEd.out (below_next H3.out hb)))
  go_upto_region 5 with ((with_reducible refine gate_dst (N := 39) rfl ?_); refine wpList_load_at rfl 52 (.tmp 1) rfl ⟨bx, 0, none⟩ rfl (gArr v0 v1 (.slice Ar rs.length cr)) _ (HBX.out _ H4.out) Try.underlying52 rfl HS3.out ?_)
  refine (HLa.out w4 H4.out).mono ?_
  rintro e w5 ⟨ga, gwa, gfa, gp, cp, rfl, hL, hat⟩
  have HL := Aside0.mk (And.intro hL hat)
  have H5 := Aside0.mk (below_next H4.out hL.below)
  clear hL hat
  obtain ⟨T, hT⟩ : ∃ T, T = G.tot P G.N := ⟨_, rfl⟩
  obtain ⟨T1, hT1⟩ : ∃ T1, T1 = 1 + T := ⟨_, rfl⟩
  have htl := Gp.tot_le HG.out P G.N (Nat.le_refl _)
  rw [← hT] at htl
  have HE1 := Aside0.mk (NumB.sum_i (1 : Int) T T1 (by omega) (by omega))
  have HNw := Aside0.mk (new.calls w5 T1 (by omega) (by omega))
  rw [← hT]
  have HTT := Aside0.mk (And.intro hT hT1)
  obtain ⟨e1, f1⟩ := HE1.out
  clear hT hT1 htl
  go_wp2_with fail
  clear e1 f1
  refine HNw.out.mono ?_
  rintro e w6 ⟨gb, gwb0, gfb0, rfl, n1, n2, n3, n4, n5⟩
  have HR6 := Aside0.mk (copy_ready HL.out.1 HL.out.2 n1 n2 n3 n4 n5)
  have H6 := Aside0.mk (below_next H5.out n5)
  have HCS : Aside0 (∀ b, CS gb gwb0 gfb0 ga gwa gfa b → w3.heap.size ≤ b) := ⟨fun b hb => Nat.le_trans H4.out.size (HR6.out.2.2.2 b hb)⟩
  have HCo := Aside0.mk (copyAll.calls G HG.out l HS.out hpos A c v0 v1 Ar rs cr w6 hc hl2 gp cp T1 ga gwa gfa gb gwb0 gfb0 HR6.out.1 HR6.out.2.1 HR6.out.2.2.1 (fun w' hu => Kd.C_below HC2.out (Upd.to_below (below_next H3.out H6.out) hu (below_next H3.out H6.out).size (fun b hb => Nat.le_trans H3.out.size (HCS.out b hb)))))
  have HCS4 : Aside0 ((∀ b, CS gb gwb0 gfb0 ga gwa gfa b → w4.heap.size ≤ b) ∧ Below w4.heap.size w4 w6) := ⟨HR6.out.2.2.2, below_next HL.out.1.below n5⟩
  clear n1 n2 n3 n4 n5 HNw HR6
  go_wp2_with fail
  refine (num.calls _ _).mono ?_
  rintro e w7 ⟨rfl, rfl⟩
  go_upto_region 10 with ((with_reducible refine gate_dst (N := 61) rfl ?_); (try (refine gate_guard (by rfl) ?_; dsimp only)); refine wpList_load_at rfl 52 (.tmp 1) rfl ⟨bx, 0, none⟩ rfl (gArr v0 v1 (.slice Ar rs.length cr)) _ (HBX.out _ H6.out) Try.underlying52 rfl HS3.out ?_)
  refine HCo.out.mono ?_
  rintro e w8 ⟨r, o, s, k, gwb, gfb, rfl, hq, hr⟩
  have HQ := Aside0.mk hq
  have H8 : Aside0 (Below w3.heap.size w3 w8) := ⟨Upd.to_below H6.out hq.upd H6.out.size HCS.out⟩
  have HSN8 : Aside0 (GenAt 4 w8 gs G.N (boolsV P G.N)) := ⟨by
    have h1 : Below w4.heap.size w4 w8 := Upd.to_below HCS4.out.2 hq.upd HCS4.out.2.size HCS4.out.1
    exact HSN.out.1.upd (S := none_) (Upd.of_below h1) (fun h => h)⟩
  have hr0 : r = 0 ∧ s = o.length ∧ k = 0 ∧ ∀ t ∈ rootsOf rs G.N, t ∈ o := by
    rcases hr with h | ⟨_, t, h1, h2, h3, h4⟩
    · exact h
    · have := hq.cop.fits h1 h2 h3 (P := P) HSN.out.2.2
      have := HTT.out
      omega
  obtain ⟨rfl, rfl, rfl, hro⟩ := hr0
  have hin : G.inv o o.length 0 := hq.inv
  have hsz := hq.cop.size hro hin (P := P) HSN.out.2.2
  have hsz1 : G.pb o o.length = T1 := by rw [hsz, HTT.out.2, HTT.out.1]
  have HUs := Aside0.mk hq.used
  rw [hsz1] at HUs
  have HF := Aside0.mk (And.intro hro (And.intro hin hsz))
  obtain ⟨e1, f1⟩ := HE1.out
  clear hq hr hro hin hsz hsz1 HCo
  go_wp2_with fail
  refine HUs.out.mono ?_
  rintro e w9 ⟨rfl, hb⟩
  have HB9 := Aside0.mk hb
  clear hb HUs HCS4
  go_wp2_with fail
  clear e1 f1
  go_loopw [11] (fun i wc => ∃ (n : Nat), n ≤ G.N ∧ i = .int .i64 n ∧ Aside0 (Below w8.heap.size w8 wc)) (fun i _ => G.N - (intOf i).toNat)
  case atStart => exact ⟨0, by omega, rfl, HB9⟩
  case round =>
    obtain ⟨i, hi, rfl, HB⟩ := hrel
    clear HB9
    rename World => wc
    have HBB := Aside0.mk (below_next H8.out HB.out)
    by_cases hlt : i < G.N
    · have hlt' : (i : Int) < G.N := by omega
      have hi0 : (0 : Int) ≤ (i : Int) := by omega
      have hsn := (HSN8.out.upd (S := none_) (Upd.of_below HB.out) (fun h => h)).get i _ (boolsV_get P hlt)
      have hwh := HQ.out.cop.whole HF.out.1 HF.out.2.1 i
      have hPi := HSN.out.2.2 i
      cases hp : P i with
      | true =>
        rw [hp] at hsn
        have hio : i ∈ o := hwh.2 (hPi.1 hp)
        have HCd := Aside0.mk (copied.calls G HG.out HRW.out l HS.out A c v0 v1 (.slice Ar rs.length cr) wc (Kd.C_below HC.out HBB.out) hc (EdgesOk.move HEd.out (below_next H3.out HBB.out)) gp cp T1 ga gwa gfa gb gwb gfb o (HQ.out.pair.below HB.out) (HQ.out.at_.upd (S := none_) (Upd.of_below HB.out) (fun h => h)) HF.out.2.1 HQ.out.cop.lt i hio)
        clear hwh hPi hp hio
        go_upto_region 15 with ((with_reducible refine gate_dst (N := 86) rfl ?_); refine wpList_load_at rfl 52 (.tmp 1) rfl ⟨bx, 0, none⟩ rfl (gArr v0 v1 (.slice Ar rs.length cr)) _ (HBX.out _ HBB.out) Try.underlying52 rfl HS3.out ?_)
        refine HCd.out.mono ?_
        rintro e w10 ⟨rfl, hb⟩
        have HB10 := Aside0.mk (below_next HB.out hb)
        clear hb HCd hsn
        go_wp2_with fail
        exact ⟨⟨i + 1, by omega, by rw [Int.natCast_succ], HB10⟩, by simp only [intOf]; omega⟩
      | false =>
        rw [hp] at hsn
        have hio : i ∉ o := fun h => by have := hPi.2 (hwh.1 h); rw [hp] at this; cases this
        have HMv := Aside0.mk (fun w' (hb : Below w8.heap.size w8 w') => moved_no (HQ.out.pair.S.below hb) hio hlt)
        have HOb := Aside0.mk (fun w' (hb : Below w8.heap.size w8 w') => a_object (HQ.out.pair.S.below hb) hio hlt)
        have HAt := Aside0.mk (fun w' (hb : Below w8.heap.size w8 w') => (HQ.out.at_.upd (S := none_) (Upd.of_below hb) (fun h => h)).get i _ (plV_get G hlt))
        have hat := HAt.out wc HB.out
        clear hwh hPi hp hio
        go_wp2_with fail
        refine (HMv.out wc HB.out).mono ?_
        rintro e w10 ⟨rfl, hb⟩
        have HB10 := Aside0.mk (below_next HB.out hb)
        clear hb hsn hat
        have hat := HAt.out w10 HB10.out
        go_wp2_with fail
        refine (HOb.out w10 HB10.out).mono ?_
        rintro e w11 ⟨rfl, hb⟩
        have HB11 := Aside0.mk (below_next HB10.out hb)
        clear hb hat HAt HMv HOb
        obtain ⟨ad, rfl, hx0, hx1, hx2⟩ := shp_cells HS.out (Kd.C_below HC.out (below_next H8.out HB11.out)) hlt
        clear hx1 hx2
        go_wp2_with fail
        refine (num.calls _ _).mono ?_
        rintro e w12 ⟨rfl, rfl⟩
        go_wp2_with fail
        refine (num.calls _ _).mono ?_
        rintro e w13 ⟨rfl, rfl⟩
        go_wp2_with fail
        exact ⟨⟨i + 1, by omega, by rw [Int.natCast_succ], HB11⟩, by simp only [intOf]; omega⟩
    · obtain rfl : i = G.N := by omega
      have HB9 := Aside0.mk HB.out
      clear hlt
      by_cases hT0 : T = 0
      · have hT0' : ((T : Int) == 0) = true := by rw [hT0]; rfl
        have HW := Aside0.mk (below_next H3.out (below_next H8.out HB9.out))
        clear hT0
        go_wp2_with fail
        go_ret
        exact ⟨rfl, HW.out⟩
      · have hT0' : ((T : Int) == 0) = false := beq_eq_false_iff_ne.2 (by omega)
        have HBB9 := Aside0.mk (below_next H8.out HB9.out)
        have htb : T ≤ 1048576 := by
          have h1 := Gp.tot_le HG.out P G.N (Nat.le_refl _)
          have h2 := HTT.out.1
          omega
        clear HB HBB
        go_upto_region 24 with ((with_reducible refine gate_dst (N := 139) rfl ?_); refine wpList_load_at rfl 52 (.tmp 1) rfl ⟨bx, 0, none⟩ rfl (gArr v0 v1 (.slice Ar rs.length cr)) _ (HBX.out _ HBB9.out) Try.underlying52 rfl HS3.out ?_)
        refine (HLa.out wc HBB9.out).mono ?_
        rintro e w10 ⟨ga2, gwa2, gfa2, gp2, cp2, rfl, hL, hat⟩
        have HL2 := Aside0.mk (And.intro hL hat)
        have H10 := Aside0.mk (below_next HBB9.out hL.below)
        clear hL hat
        have HNw := Aside0.mk (new.calls w10 T (by omega) htb)
        go_wp2_with fail
        refine HNw.out.mono ?_
        rintro e w11 ⟨gb2, gwb2, gfb2, rfl, n1, n2, n3, n4, n5⟩
        have HR11 := Aside0.mk (copy_ready HL2.out.1 HL2.out.2 n1 n2 n3 n4 n5)
        have H11 := Aside0.mk (below_next H10.out n5)
        have HCS2 : Aside0 (∀ b, CS gb2 gwb2 gfb2 ga2 gwa2 gfa2 b → w3.heap.size ≤ b) := ⟨fun b hb => Nat.le_trans HBB9.out.size (HR11.out.2.2.2 b hb)⟩
        have HCo := Aside0.mk (copyAll.calls G HG.out l HS.out hpos A c v0 v1 Ar rs cr w11 hc hl2 gp2 cp2 T ga2 gwa2 gfa2 gb2 gwb2 gfb2 HR11.out.1 HR11.out.2.1 HR11.out.2.2.1 (fun w' hu => Kd.C_below HC2.out (Upd.to_below (below_next H3.out H11.out) hu (below_next H3.out H11.out).size (fun b hb => Nat.le_trans H3.out.size (HCS2.out b hb)))))
        clear n1 n2 n3 n4 n5 HNw HR11
        go_wp2_with fail
        refine (num.calls _ _).mono ?_
        rintro e w12 ⟨rfl, rfl⟩
        go_upto_region 26 with ((with_reducible refine gate_dst (N := 161) rfl ?_); (try (refine gate_guard (by rfl) ?_; dsimp only)); refine wpList_load_at rfl 52 (.tmp 1) rfl ⟨bx, 0, none⟩ rfl (gArr v0 v1 (.slice Ar rs.length cr)) _ (HBX.out _ H11.out) Try.underlying52 rfl HS3.out ?_)
        refine HCo.out.mono ?_
        rintro e w13 ⟨r, o2, s2, k2, gwb3, gfb3, rfl, hq, hr⟩
        have HW : Aside0 (Below W.heap.size W w13) := ⟨below_next H3.out (Upd.to_below H11.out hq.upd H11.out.size HCS2.out)⟩
        have hr22 : r = 22 := by
          rcases hr with ⟨_, rfl, rfl, hro⟩ | ⟨h, _⟩
          · have h1 := hq.cop.size hro hq.inv (P := P) HSN.out.2.2
            have h2 := hq.fit.1
            have h3 := HTT.out.1
            omega
          · exact h
        subst hr22
        clear hq hr
        go_wp2_with fail
        go_ret
        exact ⟨rfl, HW.out⟩
end Go.Proofs.Ytgjcffjicbmkhaa.ColW
end

section
/- Opening an argument of the second form: as Open, with the bulk's bound (1,048,576) handed inwards; a slice's length is within it. No function of the program. -/
namespace Go.Proofs.Ytgjcffjicbmkhaa.OpenB
open Go Go.RowKit Go.ChangeShapes Go.Proofs.YtgjcffjicbmkhaaW.PrintWords Go.Proofs.Ytgjcffjicbmkhaa.Open

/-- What is read as data of type t, with at most F steps inwards, is of kind kd. -/
structure OpensAt {α : Type} (F : Nat) (P : Program) (t : TypeId) (kd : Kd α) (good : α → Prop) : Prop where
  sz : kd.sz = P.cellsOf t
  op : ∀ {H : Type} {enc : TypeId × Value → H} {W : World} {base : Nat} {spare : Nat → Bool} {held : Bool} {fuel : Nat} {cs : List Value} {x : DataW H × List MemPlace},
    fuel ≤ F → DataW.trod enc P W base spare held fuel t cs = some x → (∀ m ∈ x.1.weights P t, m ≤ reachBytes) → Rows.uptoBulk x.1 ≤ 1048576 → ∃ y : α, kd.K W y cs ∧ good y

def Opens {α : Type} (P : Program) (t : TypeId) (kd : Kd α) (good : α → Prop) : Prop := ∀ F, OpensAt F P t kd good

theorem one_le {H : Type} (d : DataW H) : 1 ≤ Rows.uptoBulk d := by
  cases d with
  | lit l => cases l <;> simp [Rows.uptoBulk]
  | nil => simp [Rows.uptoBulk]
  | ptr d => simp [Rows.uptoBulk]
  | slice elems spare => simp [Rows.uptoBulk]
  | agg parts => simp [Rows.uptoBulk]
  | iface t d => simp [Rows.uptoBulk]
  | map entries => simp [Rows.uptoBulk]
  | held h => simp [Rows.uptoBulk]
theorem part_le {H : Type} {d : DataW H} {l : List (DataW H)} (h : d ∈ l) : Rows.uptoBulk d ≤ Rows.uptoBulkAll l := by
  induction l with
  | nil => cases h
  | cons x r ih =>
    simp only [Rows.uptoBulkAll]
    cases List.mem_cons.1 h with
    | inl e => subst e; omega
    | inr e => have := ih e; omega
theorem length_le {H : Type} (l : List (DataW H)) : l.length ≤ Rows.uptoBulkAll l := by
  induction l with
  | nil => simp [Rows.uptoBulkAll]
  | cons x r ih => have := one_le x; simp only [Rows.uptoBulkAll, List.length_cons]; omega
theorem slice_le {H : Type} (elems spare : List (DataW H)) : Rows.uptoBulkAll elems + 1 ≤ Rows.uptoBulk (.slice elems spare) := by
  simp only [Rows.uptoBulk]
  omega
theorem bound {H : Type} {l : List (DataW H)} (hk : Rows.uptoSmall H l = true) : Rows.uptoBulkAll l ≤ 1048576 := of_decide_eq_true hk

variable {P : Program} {t e : TypeId} {F : Nat}

theorem at_int {k : IntKind} (hu : P.underlying t = some (.int k)) (hc : P.cellsOf t = 1) : OpensAt F P t (Kd.int k) (fun x => (Lit.int k x).wf = true) where
  sz := hc.symm
  op := fun _ h _ _ => by
    obtain ⟨n, rfl, _, hw⟩ := DataW.trod_int hu h
    exact ⟨n, rfl, hw⟩

theorem at_bool (hu : P.underlying t = some .bool) (hc : P.cellsOf t = 1) : OpensAt F P t Kd.bool (fun _ => True) where
  sz := hc.symm
  op := fun _ h _ _ => by
    obtain ⟨n, rfl, _⟩ := DataW.trod_bool hu h
    exact ⟨n, rfl, trivial⟩

/-- The bound on a slice's length, and its elements. -/
def GoodB {α : Type} (B : Nat) (g : α → Prop) (ys : List α) : Prop := ys.length ≤ 1048576 ∧ GoodL B g ys

theorem at_slice {α : Type} {kd : Kd α} {g : α → Prop} {B : Nat} (hu : P.underlying t = some (.slice e)) (hc : P.cellsOf t = 1) (hB : P.bytesOf e = B) (he : OpensAt F P e kd g) :
    OpensAt (F + 1) P t (Kd.slice e kd) (GoodB B g) where
  sz := hc.symm
  op := by
    intro H enc W base spare held fuel cs x hf h hw hk
    rcases DataW.trod_slice hu h with ⟨rfl, rfl⟩ | ⟨a, len, cap, elems, rest, n, rfl, rfl, rfl, hb, hl, hm, hlen, hel, _⟩
    · exact ⟨[], ⟨none, 0, rfl, Nat.le_refl _, Kd.C_nil kd W⟩, by simp [GoodB, GoodL]⟩
    · have hwt : ∀ m ∈ (elems.length + rest.length) * P.bytesOf e :: (DataW.weightsAll P e (elems.map (·.1)) ++ DataW.weightsAll P e (rest.map (·.1))), m ≤ reachBytes := by
        intro m hm'
        refine hw m ?_
        show m ∈ DataW.weights P t (DataW.slice (elems.map (·.1)) (rest.map (·.1)))
        simp only [DataW.weights, hu, List.length_map]
        exact hm'
      have each : ∀ i, i < len → ∃ y, g y ∧ ∃ c, c.length = kd.sz ∧ kd.K W y c ∧ ∀ j u, c[j]? = some u → W.cell? (a.add (i * kd.sz + j)) = some u := by
        intro i hi
        have h1 := hel i hi
        obtain ⟨x1, hx1⟩ : ∃ x1, elems[i]? = some x1 := ⟨elems[i]'(by omega), List.getElem?_eq_getElem (by omega)⟩
        rw [hx1, Option.bind_eq_some_iff] at h1
        obtain ⟨c, hcs, htr⟩ := h1
        obtain ⟨y, hy, hg⟩ := he.op (by omega) htr (fun m hm' => hwt m (List.mem_cons_of_mem _ (List.mem_append_left _
          (weightsAll_mem (List.mem_map.2 ⟨x1, List.mem_of_getElem? hx1, rfl⟩) m hm'))))
          (Nat.le_trans (part_le (List.mem_map.2 ⟨x1, List.mem_of_getElem? hx1, rfl⟩)) (Nat.le_of_succ_le (Nat.le_trans (slice_le _ _) hk)))
        refine ⟨y, hg, c, kd.K_len hy, hy, fun j u hj => ?_⟩
        unfold World.cells? at hcs
        split at hcs
        · have hjl : j < c.length := (List.getElem?_eq_some_iff.1 hj).1
          have hcl := kd.K_len hy
          have := mapM_some_get hcs j j (List.getElem?_range (by rw [← he.sz]; omega))
          rw [hj, Addr.add_add, ← he.sz] at this
          exact this
        · cases hcs
      obtain ⟨ys, hyl, hys⟩ := choose_list len _ each
      refine ⟨ys, ⟨some a, cap, by rw [hyl], by omega, ?_⟩, ?_, ?_, ?_⟩
      · refine ⟨rfl, by simp only [maxLen] at hm; omega, fun _ => ⟨a, rfl, fun j p hp => ?_⟩⟩
        obtain ⟨_, c, h1, h2, h3⟩ := hys j p hp
        exact ⟨c, h1, h2, h3⟩
      · have h1 := length_le (elems.map (·.1))
        have h2 := slice_le (elems.map (·.1)) (rest.map (·.1))
        rw [List.length_map] at h1
        have hk' : Rows.uptoBulk (DataW.slice (elems.map (·.1)) (rest.map (·.1))) ≤ 1048576 := hk
        omega
      · have := hwt _ (List.mem_cons_self ..)
        rw [hB] at this
        rw [hyl, ← hlen]
        have h2 : elems.length * B ≤ (elems.length + rest.length) * B := Nat.mul_le_mul_right _ (by omega)
        simp only [reachBytes] at this
        omega
      · intro y hy
        obtain ⟨i, hi⟩ := List.getElem?_of_mem hy
        exact (hys i y hi).1

/-- The fields of a struct, from the cell o on. -/
def FieldsAt {α : Type} (F : Nat) (P : Program) (fs : List Field) (o : Nat) (kd : Kd α) (good : α → Prop) : Prop :=
  ∀ {H : Type} {enc : TypeId × Value → H} {W : World} {base : Nat} {spare : Nat → Bool} {held : Bool} {n : Nat} {cs : List Value} {xs : List (DataW H × List MemPlace)},
    n ≤ F → cs.length = o + kd.sz → xs.length = fs.length →
    (∀ (i : Nat) (f : Field), fs[i]? = some f → DataW.trod enc P W base spare held n f.type ((cs.drop f.offset).take (P.cellsOf f.type)) = xs[i]?) →
    (∀ m ∈ DataW.weightsEach P (fs.map (·.type)) (xs.map (·.1)), m ≤ reachBytes) → Rows.uptoBulkAll (xs.map (·.1)) ≤ 1048576 → ∃ y : α, kd.K W y (cs.drop o) ∧ good y

theorem fields_one {α : Type} {f : Field} {o : Nat} {kd : Kd α} {g : α → Prop} (ho : f.offset = o) (h : OpensAt F P f.type kd g) : FieldsAt F P [f] o kd g := by
  intro H enc W base spare held n cs xs hn hl hx hf hw hk
  have h1 := hf 0 f rfl
  match xs, hx with
  | [x], _ =>
    rw [ho, List.take_of_length_le (by rw [List.length_drop, ← h.sz]; omega)] at h1
    exact h.op hn h1 (fun m hm => hw m (by simp only [List.map, DataW.weightsEach]; exact List.mem_append_left _ hm)) (Nat.le_trans (part_le (by simp)) hk)

theorem fields_cons {α β : Type} {f : Field} {fs : List Field} {o : Nat} {kd : Kd α} {kd' : Kd β} {g : α → Prop} {g' : β → Prop} (ho : f.offset = o) (h : OpensAt F P f.type kd g)
    (h' : FieldsAt F P fs (o + kd.sz) kd' g') : FieldsAt F P (f :: fs) o (Kd.pair kd kd') (fun y => g y.1 ∧ g' y.2) := by
  intro H enc W base spare held n cs xs hn hl hx hf hw hk
  match xs, hx with
  | x :: xs, hx =>
    have h1 := hf 0 f rfl
    rw [ho] at h1
    obtain ⟨y, hy, hg⟩ := h.op hn h1 (fun m hm => hw m (by simp only [List.map, DataW.weightsEach]; exact List.mem_append_left _ hm)) (Nat.le_trans (part_le (by simp)) hk)
    have hsz : (Kd.pair kd kd').sz = kd.sz + kd'.sz := rfl
    obtain ⟨z, hz, hg'⟩ := h' (xs := xs) hn (by rw [hl, hsz]; omega) (by simpa using hx) (fun i f' hf' => by simpa using hf (i + 1) f' (by simpa using hf'))
      (fun m hm => hw m (by simp only [List.map, DataW.weightsEach]; exact List.mem_append_right _ hm)) (by
      simp only [List.map, Rows.uptoBulkAll] at hk
      omega)
    refine ⟨(y, z), ⟨_, _, ?_, hy, hz⟩, hg, hg'⟩
    rw [← h.sz, ← List.drop_drop, List.take_append_drop]

theorem at_struct {α : Type} {fs : Array Field} {fl : List Field} {kd : Kd α} {g : α → Prop} (hu : P.underlying t = some (.struct fs)) (hl : fs.toList = fl) (hc : P.cellsOf t = kd.sz) (h : FieldsAt F P fl 0 kd g) : OpensAt (F + 1) P t kd g where
  sz := hc.symm
  op := by
    intro H enc W base spare held fuel cs x hf h0 hw hk
    obtain ⟨xs, n, rfl, rfl, hcl, hxl, hx⟩ := DataW.trod_struct hu h0
    have := h (xs := xs) (n := n) (by omega) (by rw [hcl, hc]; omega) (by rw [hxl, ← hl]; simp) (fun i f hf => hx i f (by rw [← hl] at hf; simpa using hf)) (fun m hm => hw m (by
      simp only [DataW.weights, hu]
      rw [hl]
      exact hm)) (by
      simp only [Rows.uptoBulk] at hk
      omega)
    simpa using this

theorem OpensAt.good_imp {α : Type} {kd : Kd α} {g g' : α → Prop} (h : OpensAt F P t kd g) (hg : ∀ x, g x → g' x) : OpensAt F P t kd g' where
  sz := h.sz
  op := fun hf h0 hw hk => by
    obtain ⟨y, hy, hgy⟩ := h.op hf h0 hw hk
    exact ⟨y, hy, hg y hgy⟩

theorem OpensAt.weaken {α : Type} {kd : Kd α} {g : α → Prop} (h : OpensAt (F + 1) P t kd g) : OpensAt F P t kd g where
  sz := h.sz
  op := fun hf h0 hw hk => h.op (Nat.le_succ_of_le hf) h0 hw hk

theorem opens_int {k : IntKind} (hu : P.underlying t = some (.int k)) (hc : P.cellsOf t = 1) : Opens P t (Kd.int k) (fun x => (Lit.int k x).wf = true) := fun _ => at_int hu hc
theorem opens_bool (hu : P.underlying t = some .bool) (hc : P.cellsOf t = 1) : Opens P t Kd.bool (fun _ => True) := fun _ => at_bool hu hc
theorem opens_slice {α : Type} {kd : Kd α} {g : α → Prop} {B : Nat} (hu : P.underlying t = some (.slice e)) (hc : P.cellsOf t = 1) (hB : P.bytesOf e = B) (he : Opens P e kd g) :
    Opens P t (Kd.slice e kd) (GoodB B g) := fun F => (at_slice hu hc hB (he F)).weaken
def Fields {α : Type} (P : Program) (fs : List Field) (o : Nat) (kd : Kd α) (good : α → Prop) : Prop := ∀ F, FieldsAt F P fs o kd good
theorem fields1 {α : Type} {f : Field} {o : Nat} {kd : Kd α} {g : α → Prop} (ho : f.offset = o) (h : Opens P f.type kd g) : Fields P [f] o kd g := fun F => fields_one ho (h F)
theorem fields2 {α β : Type} {f : Field} {fs : List Field} {o : Nat} {kd : Kd α} {kd' : Kd β} {g : α → Prop} {g' : β → Prop} (ho : f.offset = o) (h : Opens P f.type kd g)
    (h' : Fields P fs (o + kd.sz) kd' g') : Fields P (f :: fs) o (Kd.pair kd kd') (fun y => g y.1 ∧ g' y.2) := fun F => fields_cons ho (h F) (h' F)
theorem opens_struct {α : Type} {fs : Array Field} {fl : List Field} {kd : Kd α} {g : α → Prop} (hu : P.underlying t = some (.struct fs)) (hl : fs.toList = fl) (hc : P.cellsOf t = kd.sz) (h : Fields P fl 0 kd g) : Opens P t kd g :=
  fun F => (at_struct hu hl hc (h F)).weaken

/-- An argument, opened. -/
theorem open_arg {α : Type} {kd : Kd α} {g : α → Prop} (h : ∀ F, OpensAt F P t kd g) {H : Type} {enc : TypeId × Value → H} {W : World} {base : Nat} {spare : Nat → Bool} {held : Bool} {v : Value} {d : DataW H} {ps : List MemPlace}
    {ts : List TypeId} {ds : List (DataW H)} {j : Nat} (hsz : (DataW.weightsEach P ts ds).all (· ≤ reachBytes) = true) (ht : ts[j]? = some t) (hd : ds[j]? = some d) (hk : Rows.uptoBulkAll ds ≤ 1048576)
    (hr : DataW.Trod enc P W base spare held t v d ps) : ∃ y : α, kd.K W y v.cells.toList ∧ g y := by
  obtain ⟨fuel, hf⟩ := hr
  exact (h fuel).op (Nat.le_refl _) hf (fun m hm => by
    have := List.all_eq_true.1 hsz m (DataW.weights_mem_each ht hd m hm)
    simpa using this) (Nat.le_trans (part_le (List.mem_of_getElem? hd)) hk)

end Go.Proofs.Ytgjcffjicbmkhaa.OpenB
end

section
/- ArenaCollect: for every argument that can be read, of bulk at most the row's bound. -/
namespace Go.Proofs.Ytgjcffjicbmkhaa.ColL
open Go Go.RowKit Go.Proofs.YtgjcffjicbmkhaaW.PrintWords Go.Proofs.Ytgjcffjicbmkhaa.PF Go.Proofs.Ytgjcffjicbmkhaa.MemO Go.Proofs.Ytgjcffjicbmkhaa.OpenB
set_option maxRecDepth 100000
theorem b_int : OpenB.Opens Try.prog 3 (Kd.int .i64) gI := OpenB.opens_int Try.underlying3 (by kernel_rfl)
theorem b_shape : OpenB.Opens Try.prog 28 k28 (fun _ => True) := fun F => by
  have h := OpenB.opens_struct Try.underlying28 rfl (by kernel_rfl) (OpenB.fields2 rfl b_int (OpenB.fields2 rfl b_int (OpenB.fields1 rfl b_int))) F
  exact ⟨h.sz, fun hf hx hw hk => by
    obtain ⟨y, hy, _⟩ := h.op hf hx hw hk
    exact ⟨⟨y.1, y.2.1, y.2.2⟩, hy, trivial⟩⟩
/-- Shapes, Edges, Roots -/
def kGr : Kd (List S28 × List (List Int) × List Int) := Kd.pair (Kd.slice 28 k28) (Kd.pair (Kd.slice 30 (Kd.slice 3 (Kd.int .i64))) (Kd.slice 3 (Kd.int .i64)))
def gGr (y : List S28 × List (List Int) × List Int) : Prop := GoodB 24 (fun _ => True) y.1 ∧ GoodB 24 (fun l => GoodB 8 gI l) y.2.1 ∧ GoodB 8 gI y.2.2
theorem b_ints : OpenB.Opens Try.prog 30 (Kd.slice 3 (Kd.int .i64)) (fun l => GoodB 8 gI l) := OpenB.opens_slice Try.underlying30 (by kernel_rfl) (by kernel_rfl) b_int
theorem b_gr : OpenB.Opens Try.prog 52 kGr gGr :=
  OpenB.opens_struct Try.underlying52 rfl (by kernel_rfl) (OpenB.fields2 rfl (OpenB.opens_slice Try.underlying22 (by kernel_rfl) (by kernel_rfl) b_shape) (OpenB.fields2 rfl (OpenB.opens_slice Try.underlying50 (by kernel_rfl) (by kernel_rfl) b_ints) (OpenB.fields1 rfl b_ints)))
theorem walk (y : List S28 × List (List Int) × List Int) (ca : Array Value) (W : World) (hK : kGr.K W y ca.toList) (hg : gGr y) :
    Calls Try.prog 5 #[.agg ca] W fun e w' => e = .returned (.bool true) ∧ Below W.heap.size W w' := by
  obtain ⟨l0, E, rs⟩ := y
  obtain ⟨c1, c2, hca, ⟨A0, n0, rfl, h0, hC0⟩, c3, c4, rfl, ⟨A1, n1, rfl, h1, hC1⟩, ⟨Ar, nr, rfl, h2, hC2⟩⟩ := hK
  obtain rfl : ca = #[.slice A0 l0.length n0, .slice A1 E.length n1, .slice Ar rs.length nr] := by cases ca; simp_all
  have g1 := hg.1
  have g2 := hg.2.2
  exact ColW.collect.calls l0 E rs A0 A1 Ar n0 n1 nr W hC0 h0 g1.1 hC1 h1 hC2 h2 g2.1
end Go.Proofs.Ytgjcffjicbmkhaa.ColL
end

section
/- The law ArenaCollect as its given statement says it: for every argument that can be read as data the call returns true, and what the argument leads to reads as before. Condition: the argument's bulk is at most the row's bound. -/
namespace Go.Proofs.Ytgjcffjicbmkhaa.LawArenaCollect
open Go.ChangeShapes Go.WideShapes Go.ChangeAt Go.RowKit
theorem own : ownKnob Try.prog.godebug = none := by kernel_rfl
theorem laidOut : laidOutB Try.prog = true := by kernel_rfl
set_option maxRecDepth 100000 in
theorem contract (H : Type) (enc : TypeId × Value → H) (W : World) (base : Nat) (args : Array Value) (ds gs : List (DataW H)) (before : List MemPlace)
    (hval0 : ∀ (j : Nat) t v, Try.f5.params[j]? = some t → args[j]? = some v → Value.okWide Try.prog W .any base t v)
    (hW : DataW.Whole enc Try.prog Try.f5.params.toList Rows.arenaCollectSpec.vars false W args.toList ds gs before)
    (hsz0 : (DataW.weightsEach Try.prog (Try.f5.params.toList ++ (OpenSpec.ofChange Rows.arenaCollectSpec).bare.plain.varTypes Try.prog) (ds ++ gs)).all (· ≤ reachBytes) = true) (hL : laidMetH Try.prog Rows.arenaCollectUptoRow.laid W) (hk : Rows.uptoSmall H (ds ++ gs) = true) :
    Calls Try.prog 5 args W fun e W' => ∃ v, e = .returned v ∧ Rows.arenaCollectSpec.post enc Try.prog Try.f5 false true false false W args v W' := by
  have hsz : (DataW.weightsEach Try.prog (Try.f5.params.toList ++ Rows.arenaCollectSpec.plain.varTypes Try.prog) (ds ++ gs)).all (· ≤ reachBytes) = true := hsz0
  have hval : ∀ (j : Nat) t v, Try.f5.params[j]? = some t → args[j]? = some v → Value.okWide Try.prog W .any base t v := hval0
  have hW' := hW
  obtain ⟨p, q, hA0, hV, rfl, _, _⟩ := hW
  have hA : DataW.TrodAll enc Try.prog W 0 (fun _ => true) true Try.f5.params.toList args.toList ds p := hA0
  rw [Try.params5] at hA hval hsz
  obtain ⟨v0, vs0, d0, ds0, p0, q0, hargs, rfl, rfl, h0, r0⟩ := trodAll_cons hA
  obtain ⟨rfl, rfl, rfl⟩ := trodAll_nil r0
  obtain rfl : args = #[v0] := by cases args; simp_all
  obtain ⟨rfl, rfl⟩ := trodVars_none hV
  have k0 := h0
  have lt0 : ∀ x ∈ p0, x.block < W.heap.size := by obtain ⟨m, hm⟩ := k0; exact DataW.trod_lt m _ _ _ hm
  have hk0 : Rows.uptoBulkAll [d0] ≤ 1048576 := OpenB.bound (by simpa only [List.append_nil] using hk)
  obtain ⟨y, hK, hg⟩ := OpenB.open_arg ColL.b_gr hsz (j := 0) rfl rfl hk0 h0
  obtain ⟨ca, rfl, _⟩ := okWide_struct Try.underlying52 (hval 0 _ v0 rfl rfl)
  clear hA0 hval0 hsz0 hsz
  refine (ColL.walk y ca W hK hg).mono fun e W' ⟨he, bel⟩ => ?_
  subst he
  exact ⟨_, rfl, _, _, _, [], _, [], hW', trodAll_mk1 (shut_bool Try.underlying4 _), (trodAll_cons_mk (Below.trod laidOut (by kernel_rfl) (of_decide_eq_true (by kernel_rfl)) k0 bel lt0) trodAll_mk0), rfl, bel.frame _, fun h => by cases h⟩
/-- A world for the witness: the settled one. -/
noncomputable def laidWorld (os : Os) : World := World.holding Try.prog os ⟨#[], #[], []⟩
theorem laid_met (os : Os) : laidMet Try.prog Rows.arenaCollectUptoRow.laid ((laidWorld os).forCall (fun _ _ => 0) ⟨#[], #[.agg #[.slice none 0 0, .slice none 0 0, .slice none 0 0]], []⟩).memory :=
  laidMet_of_run' 8 (by kernel_rfl) (by kernel_rfl)
theorem reads (os : Os) {H : Type} (enc : TypeId × Value → H) : ∃ places, DataW.whole enc Try.prog ((laidWorld os).forCall (fun _ _ => 0) ⟨#[], #[.agg #[.slice none 0 0, .slice none 0 0, .slice none 0 0]], []⟩).memory Try.f5.params.toList Rows.arenaCollectSpec.vars false (#[.agg #[.slice none 0 0, .slice none 0 0, .slice none 0 0]] : Array Value).toList 8 = some ([.agg [.nil, .nil, .nil]], [], places) :=
  ⟨[], by kernel_rfl⟩
set_option maxRecDepth 100000 in
theorem lifted (os : Os) (started : os.Started) (H : Type) (enc : TypeId × Value → H) (F : Stop.Interp) :
    ReturnsInHanded {} Try.checked os 5 .any ((Rows.OpenSpec.upto Rows.arenaCollectSpec).preRow enc Try.prog Try.f5 Rows.arenaCollectUptoRow.domain false Rows.arenaCollectUptoRow.laid) (((Rows.OpenSpec.upto Rows.arenaCollectSpec).at F).post enc Try.prog Try.f5 false true false false) := by
  obtain ⟨places, hx⟩ := reads os enc
  refine returnsInHanded_of_row (C := Try.checked) (s := Rows.OpenSpec.upto Rows.arenaCollectSpec) own started (by kernel_rfl) Try.func5
    (witness_row_at (enc := enc) (C := Try.checked) false (laidWorld os) #[.agg #[.slice none 0 0, .slice none 0 0, .slice none 0 0]] rfl (by kernel_rfl) (by kernel_rfl) (by kernel_rfl)
      (OpenSpec.preRow_of_cond 8 hx (by kernel_rfl) (fun k hk => by cases hk; kernel_rfl) (by kernel_rfl) (laid_met os))) ?_
  intro W base args ds gs before hval hW _ hcond hsz hL _ _
  exact contract H enc W base args ds gs before hval hW hsz hL (hcond _ rfl)
theorem said : Rows.ArenaCollectUptoSaid :=
  OpenClaim.holds_of_cond 5 Try.f5 rfl rfl rfl rfl rfl rfl rfl ⟨rfl, rfl, rfl, rfl, rfl⟩ rfl rfl rfl rfl rfl (by kernel_rfl) Try.func5 (by kernel_rfl)
    (of_decide_eq_true (by kernel_rfl)) (by unfold Func.isWrapper; first | (rw [if_pos (by decide +kernel)]; kernel_rfl) | (rw [if_neg (by decide +kernel)]; exact ⟨rfl, rfl⟩))
    (fun os started H enc _ F => by rw [OpenClaim.pre_eq_preRow]; exact lifted os started H enc F)
#print axioms said
end Go.Proofs.Ytgjcffjicbmkhaa.LawArenaCollect
namespace Go.Proofs.Ytgjcffjicbmkhaa
/-- The row, under a short name, for the claim. -/
theorem arenaCollect_holds : Rows.ArenaCollectUptoSaid := LawArenaCollect.said
end Go.Proofs.Ytgjcffjicbmkhaa
end
