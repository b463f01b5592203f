-- JOINED by tailmerge.py: RowB BytO OpO RfdM RfdW RfdL LawArenaRefused
import Derived.Test.YtgjcffjicbmkhaaArC
import Derived.Test.YtgjcffjicbmkhaaPFx16
import Derived.Test.YtgjcffjicbmkhaaMemO
import Derived.Test.YtgjcffjicbmkhaaFillL
import Derived.Test.YtgjcffjicbmkhaaRefW
import Derived.Test.YtgjcffjicbmkhaaSamW
import Derived.Laws.Tables
import Derived.Laws.CopyOwn
import Derived.Test.YtgjcffjicbmkhaaRows
import Derived.WalkKit
import Derived.ProofKit
import Derived.OpenShut
import Derived.ShutString
import Derived.ChangeOld
import Derived.Below
import Derived.SizedLaws

section
/- larderlaw2.rowBytes walked: an object whose bytes are those of a row. -/
namespace Go.Proofs.Ytgjcffjicbmkhaa.RowB
open Go Go.RowKit Go.Proofs.YtgjcffjicbmkhaaW.PrintWords Go.Proofs.YtgjcffjicbmkhaaW.PrintLast Go.Proofs.YtgjcffjicbmkhaaW.PrintMore Go.Proofs.Ytgjcffjicbmkhaa.PF Go.Proofs.Ytgjcffjicbmkhaa.RowU Go.Proofs.Ytgjcffjicbmkhaa.ArS Go.Proofs.Ytgjcffjicbmkhaa.ArM Go.Proofs.Ytgjcffjicbmkhaa.ArW Go.Proofs.Ytgjcffjicbmkhaa.ArX Go.Proofs.Ytgjcffjicbmkhaa.ArY Go.Proofs.Ytgjcffjicbmkhaa.ArZ Go.Proofs.Ytgjcffjicbmkhaa.GenM Go.Proofs.Ytgjcffjicbmkhaa.ArV Go.Proofs.Ytgjcffjicbmkhaa.ArB Go.Proofs.Ytgjcffjicbmkhaa.ArC
set_option linter.unusedVariables false
set_option maxRecDepth 100000

/-- n bytes from one on, as whole numbers. -/
def intsOf (f : Nat → Nat) (from_ n : Nat) : List Int := (List.range n).map fun j => (f (from_ + j) : Int)
theorem intsOf_len (f : Nat → Nat) (from_ n : Nat) : (intsOf f from_ n).length = n := by simp [intsOf]
theorem reads_of {W : World} {g cap m : Nat} {f : Nat → Nat} (h : GenAt 5 W g cap (bytesV f m m)) (off n : Nat) (hn : off + n ≤ m) (hm : m ≤ 100000000) (A : Option Addr) (hA : 0 < n → A = some ⟨g, off, none⟩) : Kd.C (Kd.int .u8) W A (intsOf f off n).length (intsOf f off n) := by
  rw [intsOf_len]
  refine ⟨intsOf_len f off n, by omega, fun h0 => ⟨_, hA h0, fun j p hp => ⟨[.int .u8 p], rfl, rfl, fun i u hu => ?_⟩⟩⟩
  have hjn : j < n := by have := (List.getElem?_eq_some_iff.1 hp).1; rw [intsOf_len] at this; exact this
  have hp2 : p = (f (off + j) : Int) := by
    unfold intsOf at hp
    rw [List.getElem?_map, List.getElem?_range hjn] at hp
    exact (Option.some.inj hp).symm
  cases i with
  | zero =>
    simp at hu
    subst hu
    have := h.get (off + j) _ (bytesV_get f m m (off + j) (by omega))
    rw [if_pos (by omega)] at this
    rw [hp2, Addr.add_lit, show (Kd.int IntKind.u8).sz = 1 from rfl]
    simpa using this
  | succ i => simp at hu
theorem same_calls (l : List Int) (A0 A1 : Option Addr) (c0 c1 n : Nat) (hl : l.length = n) (w : World) (h0 : Kd.C (Kd.int .u8) w A0 l.length l) (h1 : Kd.C (Kd.int .u8) w A1 l.length l) (hc0 : n ≤ c0) (hc1 : n ≤ c1) :
    Calls Try.prog 45 #[.slice A0 n c0, .slice A1 n c1] w fun e w' => e = .returned (.bool true) ∧ Below w.heap.size w w' := by
  subst hl
  exact (larderlaw2_sameBytes.calls A0 c0 l A1 c1 l true w h0 hc0 h1 hc1 (by unfold larderlaw2_sameBytes.f; simp)).mono fun e w' ⟨he, hd⟩ => ⟨he, hd.below⟩
/-- One step of joining bytes. -/
theorem join_step (x i : Nat) (hx : x < 18446744073709551616) (hi : i < 8) : bits BinOp.or IntKind.u64 (IntKind.u64.wrap (((x / 2 ^ (8 * (i + 1)) : Nat) : Int) * 256)) ((NumB.byteAt x (8 * i) : Nat) : Int) = ((x / 2 ^ (8 * i) : Nat) : Int) := by
  have hp : 2 ^ (8 * (i + 1)) = 256 * 2 ^ (8 * i) := by rw [show 8 * (i + 1) = 8 + 8 * i by omega, Nat.pow_add]
  have hb := NumB.byte_lt x (8 * i)
  have h1 : x / 2 ^ (8 * (i + 1)) = x / 2 ^ (8 * i) / 256 := by rw [hp, Nat.mul_comm, ← Nat.div_div_eq_div_mul]
  have h2 : x / 2 ^ (8 * i) < 18446744073709551616 := Nat.lt_of_le_of_lt (Nat.div_le_self _ _) hx
  unfold NumB.byteAt at *
  rw [h1]
  generalize x / 2 ^ (8 * i) = y at *
  rw [show IntKind.u64.wrap (((y / 256 : Nat) : Int) * 256) = ((y / 256 * 256 : Nat) : Int) by rw [IntKind.wrap_u64]; omega]
  rw [NumA.or_u64 8 ((y / 256 * 256 : Nat) : Int) ((y % 256 : Nat) : Int) (by omega) (by rw [show (2 : Int) ^ 8 = 256 from rfl]; omega) (by omega) (by omega) (by rw [show (2 : Int) ^ 8 = 256 from rfl]; omega) (by omega)]
  omega
/-- What rowBytes is handed. -/
structure RowSt (W0 wr : World) (g gw gf sz gr m : Nat) (l : List Ob) (o : Ob) : Prop where
  ar : ArAt wr g gw gf sz l
  row : GenAt 5 wr gr m (bytesV (Ob.byte o) m m)
  below : Below W0.heap.size W0 wr
theorem RowSt.move {W0 wr w' : World} {g gw gf sz gr m : Nat} {l : List Ob} {o : Ob} (h : RowSt W0 wr g gw gf sz gr m l o) (hb : Below wr.heap.size wr w') : RowSt W0 w' g gw gf sz gr m l o :=
  ⟨h.ar.below hb, h.row.upd (S := none_) (Upd.of_below hb) (fun h => h), below_next h.below hb⟩
set_option maxHeartbeats 8000000 in
theorem rowBytes.calls {W : World} {g gw gf sz gr : Nat} {l : List Ob} {k : Nat} {o : Ob} (p r s m cut : Nat) (hS : RowSt W W g gw gf sz gr m l o) (h : l[k]? = some o) (hg : o.gone = none) (hp : p = place l k) (h1 : o.refs = r) (h2 : o.fields.length = r + s) (hs48 : s ≤ 100) (hm : m = 8 * s) (hcut : cut ≤ m) :
    Calls Try.prog 27 #[.pointer (some ⟨g, 0, none⟩), .int .i64 (p : Int), .int .i64 (r : Int), .slice (some ⟨gr, 0, none⟩) m m, .int .i64 (cut : Int)] W fun e w' => e = .returned (.bool true) ∧ Below W.heap.size W w' := by
  have HBy := Aside0.mk (fun (W2 : World) (hA : ArAt W2 g gw gf sz l) (f n : Nat) (hn : f + n ≤ 8 * s) => bytes.yes hA h hg p hp r s h1 h2 f n hn)
  have HGet := Aside0.mk (fun (W2 : World) (hA : ArAt W2 g gw gf sz l) (i : Nat) (hi : i < o.fields.length) => get_yes hA h hg i (o.fields.getD i 0) (by rw [List.getD_eq_getElem?_getD, List.getElem?_eq_getElem hi]; rfl) p hp)
  obtain ⟨hok, _, _, hrb⟩ := raws_lt hS.ar h
  have hrb : r ≤ 1048576 := by omega
  have HOK := Aside0.mk (And.intro hok (And.intro h1 (And.intro h2 hm)))
  have HS := Aside0.mk hS
  have hmb : m ≤ 800 := by omega
  obtain ⟨z, hz⟩ : ∃ z, z = m - cut := ⟨_, rfl⟩
  have HZ := Aside0.mk hz
  have hcutm : (cut : Int) ≤ m := by omega
  have B1 : Aside0 (∀ W2, ArAt W2 g gw gf sz l → Calls Try.prog 44 #[.pointer (some ⟨g, 0, none⟩), .int .i64 (p : Int), .int .i64 0, .int .i64 (m : Int)] W2 fun e' w' => ∃ gb, e' = .returned (.tuple #[.slice (some ⟨gb, 0, none⟩) m m, .int .i64 0]) ∧ ArC.Told W2 w' o 0 m gb) := ⟨fun W2 hA => HBy.out W2 hA 0 m (by omega)⟩
  have B2 : Aside0 (∀ W2, ArAt W2 g gw gf sz l → Calls Try.prog 44 #[.pointer (some ⟨g, 0, none⟩), .int .i64 (p : Int), .int .i64 0, .int .i64 (cut : Int)] W2 fun e' w' => ∃ gb, e' = .returned (.tuple #[.slice (some ⟨gb, 0, none⟩) cut cut, .int .i64 0]) ∧ ArC.Told W2 w' o 0 cut gb) := ⟨fun W2 hA => HBy.out W2 hA 0 cut (by omega)⟩
  have B3 : Aside0 (∀ W2, ArAt W2 g gw gf sz l → Calls Try.prog 44 #[.pointer (some ⟨g, 0, none⟩), .int .i64 (p : Int), .int .i64 (cut : Int), .int .i64 (z : Int)] W2 fun e' w' => ∃ gb, e' = .returned (.tuple #[.slice (some ⟨gb, 0, none⟩) z z, .int .i64 0]) ∧ ArC.Told W2 w' o cut z gb) := ⟨fun W2 hA => HBy.out W2 hA cut z (by omega)⟩
  have HE := Aside0.mk (NumB.dif_i (m : Int) cut z (by omega) (by omega))
  clear HBy h hg hp h1 h2 hS hok hm hz
  go_enter Try.func27, Try.ntmps27
  go_wp2_with fail
  refine (B1.out _ HS.out.ar).mono ?_
  rintro e w2 ⟨g1, rfl, t1⟩
  have T1 := Aside0.mk t1
  have HS2 := Aside0.mk (HS.out.move t1.below)
  clear t1 B1
  go_wp2_with fail
  refine (B2.out _ HS2.out.ar).mono ?_
  rintro e w3 ⟨g2, rfl, t2⟩
  have T2 := Aside0.mk t2
  have HS3 := Aside0.mk (HS2.out.move t2.below)
  have T1b := Aside0.mk (T1.out.at_.upd (S := none_) (Upd.of_below t2.below) (fun h => h))
  clear t2 B2
  obtain ⟨e1, f1⟩ := HE.out
  go_wp2_with fail
  refine (B3.out _ HS3.out.ar).mono ?_
  rintro e w4 ⟨g3, rfl, t3⟩
  have T3 := Aside0.mk t3
  have HS4 := Aside0.mk (HS3.out.move t3.below)
  have T1c := Aside0.mk (T1b.out.upd (S := none_) (Upd.of_below t3.below) (fun h => h))
  have T2c := Aside0.mk (T2.out.at_.upd (S := none_) (Upd.of_below t3.below) (fun h => h))
  clear t3 B3
  go_wp2_with fail
  refine (num.calls _ _).mono ?_
  rintro e w5 ⟨rfl, rfl⟩
  go_wp2_with fail
  refine (num.calls _ _).mono ?_
  rintro e w6 ⟨rfl, rfl⟩
  go_wp2_with fail
  refine (num.calls _ _).mono ?_
  rintro e w7 ⟨rfl, rfl⟩
  go_wp2_with fail
  have hf1 : (fun i => Ob.byte o (0 + i)) = Ob.byte o := funext fun i => by rw [Nat.zero_add]
  have T1d := T1c.out
  rw [hf1] at T1d
  have T2d := T2c.out
  rw [hf1] at T2d
  have hmb' : m ≤ 100000000 := by clear e1 f1; omega
  have S1 := Aside0.mk (fun w => same_calls (intsOf (Ob.byte o) 0 m) (some ⟨g1, 0, none⟩) (some ⟨gr, 0, none⟩) m m m (intsOf_len _ _ _) w)
  have R1 := Aside0.mk (And.intro (reads_of T1d 0 m (by clear e1 f1; omega) hmb' _ (fun _ => rfl)) (reads_of HS4.out.row 0 m (by clear e1 f1; omega) hmb' _ (fun _ => rfl)))
  have S2 := Aside0.mk (fun w => same_calls (intsOf (Ob.byte o) 0 cut) (some ⟨g2, 0, none⟩) (some ⟨gr, 0, none⟩) cut m cut (intsOf_len _ _ _) w)
  have R2 := Aside0.mk (And.intro (reads_of T2d 0 cut (by clear e1 f1; omega) (by clear e1 f1; omega) _ (fun _ => rfl)) (reads_of HS4.out.row 0 cut (by clear e1 f1; omega) hmb' _ (fun _ => rfl)))
  have hi3 : intsOf (fun i => Ob.byte o (cut + i)) 0 z = intsOf (Ob.byte o) cut z := by unfold intsOf; simp
  have r3 := reads_of T3.out.at_ 0 z (by clear e1 f1; omega) (by have := HZ.out; clear e1 f1; omega) (some ⟨g3, 0, none⟩) (fun _ => rfl)
  rw [hi3] at r3
  have S3 := Aside0.mk (fun A w => same_calls (intsOf (Ob.byte o) cut z) (some ⟨g3, 0, none⟩) A z z z (intsOf_len _ _ _) w)
  have R3 := Aside0.mk (And.intro r3 (fun A hA => reads_of HS4.out.row cut z (by have := HZ.out; clear e1 f1; omega) hmb' A hA))
  have HZ0 : Aside0 (m = cut → ¬ 0 < z) := ⟨fun h => by have := HZ.out; clear e1 f1; omega⟩
  clear T1d T2d hi3 r3 hf1 T1 T1b T1c T2 T2c T3 HS HS2 HS3
  go_wp2_with fail
  refine (S1.out _ R1.out.1 R1.out.2 (Nat.le_refl _) (Nat.le_refl _)).mono ?_
  rintro e w8 ⟨rfl, hb⟩
  have HS5 := Aside0.mk (HS4.out.move hb)
  have R2b := Aside0.mk (And.intro (Kd.C_below R2.out.1 hb) (Kd.C_below R2.out.2 hb))
  have R3b := Aside0.mk (And.intro (Kd.C_below R3.out.1 hb) (fun A hA => Kd.C_below (R3.out.2 A hA) hb))
  clear hb S1 R1 R2 R3
  go_wp2_with fail
  refine (S2.out _ R2b.out.1 R2b.out.2 (Nat.le_refl _) hcut).mono ?_
  rintro e w9 ⟨rfl, hb⟩
  have HS6 := Aside0.mk (HS5.out.move hb)
  have R3c := Aside0.mk (And.intro (Kd.C_below R3b.out.1 hb) (fun A hA => Kd.C_below (R3b.out.2 A hA) hb))
  clear hb S2 R2b R3b
  by_cases hcm : m = cut
  · have hz0 : z = 0 := by have := HZ.out; clear e1 f1; omega
    subst hz0
    subst hcm
    go_wp2_with fail
    refine (S3.out _ _ R3c.out.1 (R3c.out.2 _ (fun h0 => absurd h0 (Nat.lt_irrefl 0))) (Nat.le_refl _) (Nat.le_refl _)).mono ?_
    rintro e w10 ⟨rfl, hb⟩
    have HS7 := Aside0.mk (HS6.out.move hb)
    clear hb S3 R3c e1 f1
    go_wp2_with fail
    go_loopw [17] (fun i wr => ∃ k2 : Nat, k2 ≤ s ∧ i = .int .i64 k2 ∧ Aside0 (RowSt W wr g gw gf sz gr m l o)) (fun i _ => s - (intOf i).toNat)
    case atStart => exact ⟨0, Nat.zero_le _, rfl, HS7⟩
    case round =>
      obtain ⟨q, hq, rfl, HI⟩ := hrel
      clear HS7
      rename World => wr
      obtain ⟨y, hy⟩ : ∃ y, y = 8 * q := ⟨_, rfl⟩
      have HY := Aside0.mk hy
      have HEY := Aside0.mk (NumB.mul_i 8 (q : Int) y (by omega) (by omega))
      by_cases hqs : q < s
      · have hym : y < m := by have := HOK.out.2.2.2; omega
        have hym' : (y : Int) < m := by omega
        have HG := Aside0.mk (fun W2 hA => HGet.out W2 hA (r + q) (by rw [HOK.out.2.2.1]; omega))
        obtain ⟨x, hx⟩ : ∃ x, x = o.fields.getD (r + q) 0 := ⟨_, rfl⟩
        have HX := Aside0.mk (And.intro hx (show x < 18446744073709551616 by rw [hx]; exact getD_lt HOK.out.1 _))
        rw [← hx] at HG
        obtain ⟨rq, hrq⟩ : ∃ rq, rq = r + q := ⟨_, rfl⟩
        rw [← hrq] at HG
        have HRQ := Aside0.mk hrq
        have HER := Aside0.mk (NumB.sum_i (r : Int) (q : Int) rq (by omega) (by omega))
        have HQm : Aside0 (y + 7 < m ∧ ∀ i, i < 8 → Ob.byte o (y + i) = NumB.byteAt x (8 * i)) := ⟨by have := HOK.out.2.2.2; omega, fun i hi => by
          unfold Ob.byte
          rw [HX.out.1, HOK.out.2.1, hy, show (8 * q + i) / 8 = q by omega, show (8 * q + i) % 8 = i by omega]⟩
        clear hx hy hrq
        obtain ⟨e1, f1⟩ := HEY.out
        obtain ⟨e2, f2⟩ := HER.out
        go_wp2_with fail
        refine (HG.out _ HI.out.ar).mono ?_
        rintro e w11 ⟨rfl, hb⟩
        have HI2 := Aside0.mk (HI.out.move hb)
        clear hb HG e2 f2
        go_wp2_with fail
        go_loopw [20, 21] (fun v j wr => ∃ i : Nat, i ≤ 8 ∧ v = .int .u64 ((x / 2 ^ (8 * i) : Nat) : Int) ∧ j = .int .i64 ((i : Int) - 1) ∧ Aside0 (RowSt W wr g gw gf sz gr m l o)) (fun _ j _ => ((intOf j) + 1).toNat)
        case atStart => exact ⟨8, Nat.le_refl _, by rw [Nat.div_eq_of_lt (by have := HX.out.2; exact this)]; rfl, rfl, HI2⟩
        case round =>
          obtain ⟨i, hi, rfl, rfl, HI3⟩ := hrel
          clear HI2
          rename World => wr3
          by_cases hi0 : i = 0
          · subst hi0
            go_wp2_with fail
            refine (num.calls _ _).mono ?_
            rintro e w12 ⟨rfl, rfl⟩
            have hxx : x / 2 ^ (8 * 0) = x := by simp
            rw [hxx]
            have hbe : ((x : Int) == (x : Int)) = true := by simp
            go_wp2_with fail
            go_roundw
            case rel => exact ⟨q + 1, by omega, by go_num, HI3⟩
            case measure => simp [intOf]; omega
          · obtain ⟨i', rfl⟩ : ∃ i', i = i' + 1 := ⟨i - 1, by omega⟩
            have hje : ((i' + 1 : Nat) : Int) - 1 = (i' : Int) := by omega
            rw [hje]
            obtain ⟨yi, hyi⟩ : ∃ yi, yi = y + i' := ⟨_, rfl⟩
            have hym3 : yi < m := by have := HQm.out.1; clear e1 f1; omega
            have hym4 : (yi : Int) < m := by clear e1 f1; omega
            have hi8 : i' < 8 := by clear e1 f1; omega
            have hcb := HI3.out.row.get yi _ (bytesV_get (Ob.byte o) m m yi hym3)
            rw [if_pos hym3, hyi, HQm.out.2 i' hi8, ← hyi] at hcb
            have hjs := join_step x i' HX.out.2 hi8
            have hbl := NumB.byte_lt x (8 * i')
            have hcv : IntKind.u64.wrap ((NumB.byteAt x (8 * i') : Nat) : Int) = ((NumB.byteAt x (8 * i') : Nat) : Int) := by rw [IntKind.wrap_u64]; omega
            obtain ⟨e3, f3⟩ := NumB.sum_i (y : Int) (i' : Int) yi (by clear e1 f1; omega) (by clear e1 f1; omega)
            generalize x / 2 ^ (8 * (i' + 1)) = w1 at *
            generalize NumB.byteAt x (8 * i') = b1 at *
            generalize hx0 : x / 2 ^ (8 * i') = w0 at *
            clear hyi hbl
            go_wp2_with fail
            clear e1 f1 e3 f3
            go_roundw
            case rel => exact ⟨i', by omega, by rw [hx0], by go_num, HI3⟩
            case measure => simp [intOf]
      · have hym' : ¬ (y : Int) < m := by have := HOK.out.2.2.2; omega
        clear hy
        obtain ⟨e1, f1⟩ := HEY.out
        go_wp2_with fail
        go_ret
        exact ⟨rfl, HI.out.below⟩
  · have hmz : m - cut = z := HZ.out.symm
    go_wp2_with fail
    refine (S3.out _ _ R3c.out.1 (R3c.out.2 _ (fun _ => rfl)) (Nat.le_refl _) (Nat.le_refl _)).mono ?_
    rintro e w10 ⟨rfl, hb⟩
    have HS7 := Aside0.mk (HS6.out.move hb)
    clear hb S3 R3c e1 f1 hmz
    go_wp2_with fail
    go_loopw [17] (fun i wr => ∃ k2 : Nat, k2 ≤ s ∧ i = .int .i64 k2 ∧ Aside0 (RowSt W wr g gw gf sz gr m l o)) (fun i _ => s - (intOf i).toNat)
    case atStart => exact ⟨0, Nat.zero_le _, rfl, HS7⟩
    case round =>
      obtain ⟨q, hq, rfl, HI⟩ := hrel
      clear HS7
      rename World => wr
      obtain ⟨y, hy⟩ : ∃ y, y = 8 * q := ⟨_, rfl⟩
      have HY := Aside0.mk hy
      have HEY := Aside0.mk (NumB.mul_i 8 (q : Int) y (by omega) (by omega))
      by_cases hqs : q < s
      · have hym : y < m := by have := HOK.out.2.2.2; omega
        have hym' : (y : Int) < m := by omega
        have HG := Aside0.mk (fun W2 hA => HGet.out W2 hA (r + q) (by rw [HOK.out.2.2.1]; omega))
        obtain ⟨x, hx⟩ : ∃ x, x = o.fields.getD (r + q) 0 := ⟨_, rfl⟩
        have HX := Aside0.mk (And.intro hx (show x < 18446744073709551616 by rw [hx]; exact getD_lt HOK.out.1 _))
        rw [← hx] at HG
        obtain ⟨rq, hrq⟩ : ∃ rq, rq = r + q := ⟨_, rfl⟩
        rw [← hrq] at HG
        have HRQ := Aside0.mk hrq
        have HER := Aside0.mk (NumB.sum_i (r : Int) (q : Int) rq (by omega) (by omega))
        have HQm : Aside0 (y + 7 < m ∧ ∀ i, i < 8 → Ob.byte o (y + i) = NumB.byteAt x (8 * i)) := ⟨by have := HOK.out.2.2.2; omega, fun i hi => by
          unfold Ob.byte
          rw [HX.out.1, HOK.out.2.1, hy, show (8 * q + i) / 8 = q by omega, show (8 * q + i) % 8 = i by omega]⟩
        clear hx hy hrq
        obtain ⟨e1, f1⟩ := HEY.out
        obtain ⟨e2, f2⟩ := HER.out
        go_wp2_with fail
        refine (HG.out _ HI.out.ar).mono ?_
        rintro e w11 ⟨rfl, hb⟩
        have HI2 := Aside0.mk (HI.out.move hb)
        clear hb HG e2 f2
        go_wp2_with fail
        go_loopw [20, 21] (fun v j wr => ∃ i : Nat, i ≤ 8 ∧ v = .int .u64 ((x / 2 ^ (8 * i) : Nat) : Int) ∧ j = .int .i64 ((i : Int) - 1) ∧ Aside0 (RowSt W wr g gw gf sz gr m l o)) (fun _ j _ => ((intOf j) + 1).toNat)
        case atStart => exact ⟨8, Nat.le_refl _, by rw [Nat.div_eq_of_lt (by have := HX.out.2; exact this)]; rfl, rfl, HI2⟩
        case round =>
          obtain ⟨i, hi, rfl, rfl, HI3⟩ := hrel
          clear HI2
          rename World => wr3
          by_cases hi0 : i = 0
          · subst hi0
            go_wp2_with fail
            refine (num.calls _ _).mono ?_
            rintro e w12 ⟨rfl, rfl⟩
            have hxx : x / 2 ^ (8 * 0) = x := by simp
            rw [hxx]
            have hbe : ((x : Int) == (x : Int)) = true := by simp
            go_wp2_with fail
            go_roundw
            case rel => exact ⟨q + 1, by omega, by go_num, HI3⟩
            case measure => simp [intOf]; omega
          · obtain ⟨i', rfl⟩ : ∃ i', i = i' + 1 := ⟨i - 1, by omega⟩
            have hje : ((i' + 1 : Nat) : Int) - 1 = (i' : Int) := by omega
            rw [hje]
            obtain ⟨yi, hyi⟩ : ∃ yi, yi = y + i' := ⟨_, rfl⟩
            have hym3 : yi < m := by have := HQm.out.1; clear e1 f1; omega
            have hym4 : (yi : Int) < m := by clear e1 f1; omega
            have hi8 : i' < 8 := by clear e1 f1; omega
            have hcb := HI3.out.row.get yi _ (bytesV_get (Ob.byte o) m m yi hym3)
            rw [if_pos hym3, hyi, HQm.out.2 i' hi8, ← hyi] at hcb
            have hjs := join_step x i' HX.out.2 hi8
            have hbl := NumB.byte_lt x (8 * i')
            have hcv : IntKind.u64.wrap ((NumB.byteAt x (8 * i') : Nat) : Int) = ((NumB.byteAt x (8 * i') : Nat) : Int) := by rw [IntKind.wrap_u64]; omega
            obtain ⟨e3, f3⟩ := NumB.sum_i (y : Int) (i' : Int) yi (by clear e1 f1; omega) (by clear e1 f1; omega)
            generalize x / 2 ^ (8 * (i' + 1)) = w1 at *
            generalize NumB.byteAt x (8 * i') = b1 at *
            generalize hx0 : x / 2 ^ (8 * i') = w0 at *
            clear hyi hbl
            go_wp2_with fail
            clear e1 f1 e3 f3
            go_roundw
            case rel => exact ⟨i', by omega, by rw [hx0], by go_num, HI3⟩
            case measure => simp [intOf]
      · have hym' : ¬ (y : Int) < m := by have := HOK.out.2.2.2; omega
        clear hy
        obtain ⟨e1, f1⟩ := HEY.out
        go_wp2_with fail
        go_ret
        exact ⟨rfl, HI.out.below⟩
end Go.Proofs.Ytgjcffjicbmkhaa.RowB
end

section
/- ArenaBytes' parameter, opened; what its walk keeps. -/
namespace Go.Proofs.Ytgjcffjicbmkhaa.BytO
open Go Go.RowKit Go.Proofs.YtgjcffjicbmkhaaW.PrintWords Go.Proofs.YtgjcffjicbmkhaaW.PrintLast Go.Proofs.YtgjcffjicbmkhaaW.PrintMore Go.Proofs.Ytgjcffjicbmkhaa.Open Go.Proofs.Ytgjcffjicbmkhaa.PF Go.Proofs.Ytgjcffjicbmkhaa.MemO Go.Proofs.Ytgjcffjicbmkhaa.RowU Go.Proofs.Ytgjcffjicbmkhaa.ArS Go.Proofs.Ytgjcffjicbmkhaa.ArM Go.Proofs.Ytgjcffjicbmkhaa.ArW Go.Proofs.Ytgjcffjicbmkhaa.ArX Go.Proofs.Ytgjcffjicbmkhaa.ArY Go.Proofs.Ytgjcffjicbmkhaa.ArZ Go.Proofs.Ytgjcffjicbmkhaa.GenM Go.Proofs.Ytgjcffjicbmkhaa.ArV Go.Proofs.Ytgjcffjicbmkhaa.ArB Go.Proofs.Ytgjcffjicbmkhaa.ArC Go.Proofs.Ytgjcffjicbmkhaa.RowB Go.Proofs.Ytgjcffjicbmkhaa.TakS Go.Proofs.Ytgjcffjicbmkhaa.FillL
set_option linter.unusedVariables false
set_option maxRecDepth 100000

def gBytes (l : List Int) : Prop := GoodL 1 (fun x => (Lit.int .u8 x).wf = true) l
theorem o_u8 : Opens Try.prog 5 (Kd.int .u8) (fun x => (Lit.int .u8 x).wf = true) := opens_int Try.underlying5 (by kernel_rfl)
theorem o_bytes : Opens Try.prog 67 (Kd.slice 5 (Kd.int .u8)) gBytes := opens_slice Try.underlying67 (by kernel_rfl) (by kernel_rfl) o_u8
theorem wf_u8 {x : Int} (h : (Lit.int .u8 x).wf = true) : 0 ≤ x ∧ x < 256 := by
  simp [Lit.wf, IntKind.min, IntKind.max, IntKind.signed, IntKind.bits] at h; omega
/-- At, D -/
def kP : Kd (Int × List Int) := Kd.pair (Kd.int .i64) (Kd.slice 5 (Kd.int .u8))
theorem o_piece : Opens Try.prog 69 kP (fun y => gI y.1 ∧ gBytes y.2) :=
  opens_struct Try.underlying69 rfl (by kernel_rfl) (fields2 rfl o_int (fields1 rfl o_bytes))
/-- Refs, Raws, Pieces, Cut -/
def kRow : Kd (Int × Int × List (Int × List Int) × Int) := Kd.pair (Kd.int .i64) (Kd.pair (Kd.int .i64) (Kd.pair (Kd.slice 69 kP) (Kd.int .i64)))
def gRow (y : Int × Int × List (Int × List Int) × Int) : Prop := gI y.1 ∧ gI y.2.1 ∧ GoodL 32 (fun y => gI y.1 ∧ gBytes y.2) y.2.2.1 ∧ gI y.2.2.2
theorem o_row : Opens Try.prog 66 kRow gRow :=
  opens_struct Try.underlying66 rfl (by kernel_rfl) (fields2 rfl o_int (fields2 rfl o_int (fields2 rfl (opens_slice Try.underlying64 (by kernel_rfl) (by kernel_rfl) o_piece) (fields1 rfl o_int))))
theorem kP_open {w : World} {x : Int × List Int} {cs : List Value} (h : kP.K w x cs) : ∃ A c, cs = [.int .i64 x.1, .slice A x.2.length c] ∧ x.2.length ≤ c ∧ Kd.C (Kd.int .u8) w A x.2.length x.2 := by
  obtain ⟨c1, c2, rfl, h1, A, c, rfl, h2, h3⟩ := h
  obtain rfl : c1 = _ := h1
  exact ⟨A, c, rfl, h2, h3⟩
/-- One piece's cells. -/
theorem piece_at {W : World} {A : Option Addr} {l : List (Int × List Int)} (h : Kd.C kP W A l.length l) (i : Nat) (x : Int × List Int) (hx : l[i]? = some x) : ∃ ad B c, A = some ad ∧ W.cell? (ad.add (i * 2)) = some (.int .i64 x.1) ∧ W.cell? ⟨(ad.add (i * 2)).block, (ad.add (i * 2)).off + 1, none⟩ = some (.slice B x.2.length c) ∧ x.2.length ≤ c ∧ Kd.C (Kd.int .u8) W B x.2.length x.2 := by
  have hi := (List.getElem?_eq_some_iff.1 hx).1
  obtain ⟨ad, c, e, _, hK, hc0⟩ := Kd.C_get h (0, []) i (by omega) (by omega)
  have hc : ∀ j u, c[j]? = some u → W.cell? (ad.add (i * 2 + j)) = some u := hc0
  have hd : l.getD ((i : Int)).toNat (0, []) = x := by rw [Int.toNat_natCast, List.getD_eq_getElem?_getD, hx]; rfl
  rw [hd] at hK
  obtain ⟨B, c', rfl, h2, h3⟩ := kP_open hK
  exact ⟨ad, B, c', e, hc 0 _ rfl, by rw [← add_field _ _ 1 (by omega)]; exact hc 1 _ rfl, h2, h3⟩
/-- Bytes as naturals. -/
theorem byte_nat (l : List Int) (h : ∀ x ∈ l, 0 ≤ x ∧ x < 256) : ∃ bs : List Nat, l = bs.map (fun x : Nat => (x : Int)) ∧ ∀ c ∈ bs, c < 256 := by
  induction l with
  | nil => exact ⟨[], rfl, fun c hc => by simp at hc⟩
  | cons x l ih =>
    obtain ⟨bs, hb, hc⟩ := ih (fun y hy => h y (List.mem_cons_of_mem _ hy))
    obtain ⟨h0, h1⟩ := h x (List.mem_cons_self ..)
    obtain ⟨n, rfl⟩ := Int.eq_ofNat_of_zero_le h0
    refine ⟨n :: bs, by rw [hb]; rfl, fun c hc' => ?_⟩
    rcases List.mem_cons.1 hc' with rfl | h2
    · omega
    · exact hc c h2
theorem byte_cell {W : World} {A : Option Addr} {bs : List Nat} (h : Kd.C (Kd.int .u8) W A (bs.map (fun x : Nat => (x : Int))).length (bs.map (fun x : Nat => (x : Int)))) (i x : Nat) (hx : bs[i]? = some x) : ∃ ad, A = some ad ∧ W.cell? (ad.add i) = some (.int .u8 (x : Int)) := by
  have hi := (List.getElem?_eq_some_iff.1 hx).1
  obtain ⟨ad, c, e, _, hK, hc0⟩ := Kd.C_get h 0 i (by omega) (by rw [List.length_map]; omega)
  have hd : (bs.map (fun x : Nat => (x : Int))).getD ((i : Int)).toNat 0 = (x : Int) := by rw [Int.toNat_natCast, List.getD_eq_getElem?_getD, List.getElem?_map, hx]; rfl
  rw [hd] at hK
  have hc : ∀ j u, c[j]? = some u → W.cell? (ad.add (i * 1 + j)) = some u := hc0
  have hK' : c = [.int .u8 (x : Int)] := hK
  subst hK'
  have := hc 0 _ rfl
  rw [Nat.mul_one, Nat.add_zero] at this
  exact ⟨ad, e, this⟩
/-- copy of bytes onto a block of bytes. -/
theorem oper_copyB {o : Oper} {a : Act} {K : Act → World → Prop} {Q : Exit → Act → World → Prop} (w : World) (d s : Operand)
    (hop : o.op = Op.call { callee := Callee.builtin Builtin.copy, args := #[d, s], argTypes := #[67, 67] })
    (dp : Option Addr) (g off dLen dCap : Nat) (hd : a.eval d = .slice dp dLen dCap) (sp : Option Addr) (sLen sCap : Nat) (hs : a.eval s = .slice sp sLen sCap)
    (cap : Nat) (l : List Value) (hw : GenAt 5 w g cap l) (l2 : List Value) (hl2 : l2.length = sLen) (hle : sLen ≤ dLen) (hfit : off + dLen ≤ l.length) (hc : ∀ j y, l2[j]? = some y → ∃ ad, sp = some ad ∧ w.cell? (ad.add j) = some y) (h1 : ∀ y ∈ l2, y.oneCell' = true) (hdp : 0 < sLen → dp = some ⟨g, off, none⟩)
    (hK : ∀ w', GenAt 5 w' g cap (l.take off ++ l2 ++ l.drop (off + sLen)) → Upd (fun k => k = g) w w' → K (a.put o.dst (.int .i64 (sLen : Int))) w') :
    Oper.wp Try.prog o a w K Q := by
  have hsz : (Try.prog.info? 5).map (·.size) = some 1 := by kernel_rfl
  by_cases h0 : sLen = 0
  · subst h0
    obtain rfl : l2 = [] := List.eq_nil_of_length_eq_zero hl2
    have hrun := run_copy_none (P := Try.prog) w 67 67 o.type 5 dp sp dLen dCap 0 sCap Try.underlying67 hsz (Nat.zero_min _)
    unfold Oper.wp
    simp [execOp, hop, resolve, invoke, builtin, hd, hs, hrun, Result.andThen]
    refine hK w ?_ (Upd.refl _ w)
    simpa using hw
  · obtain rfl := hdp (by omega)
    obtain ⟨y0, hy0⟩ : ∃ y, l2[0]? = some y := ⟨_, List.getElem?_eq_getElem (by omega)⟩
    obtain ⟨ad, rfl, _⟩ := hc 0 y0 hy0
    obtain ⟨cur, k1, k2, k3, k4, k5⟩ := hw
    have hrun := run_copy_row (P := Try.prog) w 67 67 o.type 5 g off dLen dCap ad sLen sCap cur.toArray 5 l2 Try.underlying67 hsz k1 (by rw [hl2]; exact (Nat.min_eq_left hle).symm) (by
      intro j u hu
      obtain ⟨ad', h1, h2⟩ := hc j u hu
      obtain rfl := Option.some.inj h1
      exact h2) (by simp; omega) h1
    unfold Oper.wp
    simp [execOp, hop, resolve, invoke, builtin, hd, hs, hrun, Result.andThen, goInt, hl2]
    refine hK (w.setRow g (cur.take off ++ (l2 ++ cur.drop (off + sLen))).toArray) ?wa ?up
    case wa =>
      refine ⟨cur.take off ++ (l2 ++ cur.drop (off + sLen)), ?_, ?_, ?_, k4, ?_⟩
      · exact setRow_heap w g _ _ _ _ k1
      · simp; omega
      · simp; omega
      · have e1 : (cur.take off) = (l.take off) := by
          rw [← k5, List.take_take, Nat.min_eq_left (by omega)]
        have e2 : (cur.drop (off + sLen)).take (l.length - (off + sLen)) = (l.drop (off + sLen)) := by
          conv => rhs; rw [← k5, List.drop_take]
        have ll : (l.take off ++ l2 ++ l.drop (off + sLen)).length = off + (sLen + (l.length - (off + sLen))) := by simp; omega
        rw [ll, List.append_assoc, ← e1, ← e2]
        rw [List.take_append, List.take_append]
        congr 1
        · exact List.take_of_length_le (by simp; omega)
        · congr 1
          · exact List.take_of_length_le (by simp; omega)
          · congr 1
            simp
            omega
    case up => exact ⟨rfl, rfl, rfl, by simp [World.setRow], fun k hk hn => setRow_other w g k _ hn⟩
/-- A fresh object's bytes are 0. -/
theorem byte_new (k r s j : Nat) : Ob.byte (newOb k r s) j = 0 := by
  unfold Ob.byte
  have : (newOb k r s).fields.getD ((newOb k r s).refs + j / 8) 0 = 0 := by
    rw [List.getD_eq_getElem?_getD]
    show (List.replicate (r + s) 0)[_]?.getD 0 = 0
    rw [List.getElem?_replicate]
    split <;> rfl
  rw [this]
  simp [NumB.byteAt]
/-- What the bytes are behind a piece. -/
theorem byte_putBs (bs : List Nat) (hbs : ∀ c ∈ bs, c < 256) : ∀ {o : Ob} (f : Nat), o.ok → (∀ j, f ≤ j → j < f + bs.length → o.refs + j / 8 < o.fields.length) → ∀ i, Ob.byte (putBs o f bs) i = if f ≤ i ∧ i < f + bs.length then bs.getD (i - f) 0 else Ob.byte o i := by
  induction bs with
  | nil => intro o f _ _ i; rw [if_neg (fun h => by have h1 := h.1; have h2 := h.2; rw [List.length_nil] at h2; omega)]; rfl
  | cons c l ih =>
    intro o f ho hj i
    have hc := hbs c (List.mem_cons_self ..)
    have ho2 := putB_ok ho f c hc
    obtain ⟨s1, s2, s3, s4⟩ := putB_same o f c
    have hj0 := hj f (Nat.le_refl _) (by simp)
    show Ob.byte (putBs (Ob.putB o f c) (f + 1) l) i = _
    rw [ih (fun x hx => hbs x (List.mem_cons_of_mem _ hx)) (f + 1) ho2 (fun j h1 h2 => by rw [s2, s3]; exact hj j (by omega) (by simp; omega)) i]
    rw [byte_putB ho f c i hj0 hc]
    by_cases h1 : i = f
    · subst h1
      rw [if_neg (by omega), if_pos rfl, if_pos (by simp)]
      simp
    · rw [if_neg h1]
      by_cases h2 : f + 1 ≤ i ∧ i < f + 1 + l.length
      · rw [if_pos h2, if_pos (by simp; omega), show i - f = (i - (f + 1)) + 1 by omega]
        simp
      · rw [if_neg h2, if_neg (by simp; omega)]
theorem bytes_splice {o : Ob} (bs : List Nat) (hbs : ∀ c ∈ bs, c < 256) (f m : Nat) (ho : o.ok) (hfm : f + bs.length ≤ m) (hj : ∀ j, j < m → o.refs + j / 8 < o.fields.length) :
    (bytesV (Ob.byte o) m m).take f ++ bs.map (fun x : Nat => Value.int .u8 (x : Int)) ++ (bytesV (Ob.byte o) m m).drop (f + bs.length) = bytesV (Ob.byte (putBs o f bs)) m m := by
  have hb := byte_putBs bs hbs f ho (fun j _ h2 => hj j (by omega))
  apply List.ext_getElem?
  intro j
  by_cases hjm : j < m
  · rw [bytesV_get _ m m j hjm, if_pos hjm, hb j]
    by_cases h1 : j < f
    · rw [if_neg (by omega), List.append_assoc, List.getElem?_append_left (by rw [List.length_take, bytesV_len]; omega), List.getElem?_take, if_pos h1, bytesV_get _ m m j hjm, if_pos hjm]
    · by_cases h2 : j < f + bs.length
      · rw [if_pos ⟨by omega, h2⟩, List.append_assoc, List.getElem?_append_right (by rw [List.length_take, bytesV_len]; omega), List.length_take, bytesV_len, Nat.min_eq_left (by omega), List.getElem?_append_left (by rw [List.length_map]; omega), List.getElem?_map, List.getElem?_eq_getElem (by omega)]
        simp only [Option.map_some, List.getD_eq_getElem?_getD]
        rw [List.getElem?_eq_getElem (by omega)]
        rfl
      · rw [if_neg (by omega), List.getElem?_append_right (by simp [bytesV_len]; omega), List.getElem?_drop]
        have e : f + bs.length + (j - ((bytesV (Ob.byte o) m m).take f ++ bs.map (fun x : Nat => Value.int .u8 (x : Int))).length) = j := by simp [bytesV_len]; omega
        rw [e, bytesV_get _ m m j hjm, if_pos hjm]
  · rw [List.getElem?_eq_none (by simp [bytesV_len]; omega), List.getElem?_eq_none (by rw [bytesV_len]; omega)]
/-- The refs stay. -/
theorem field_putBs (bs : List Nat) : ∀ {o : Ob} (f i : Nat), i < o.refs → (putBs o f bs).fields[i]? = o.fields[i]? := by
  induction bs with
  | nil => intro o f i _; rfl
  | cons c l ih =>
    intro o f i hi
    show (putBs (Ob.putB o f c) (f + 1) l).fields[i]? = _
    rw [ih (f + 1) i (show i < (Ob.putB o f c).refs from hi)]
    show (o.fields.set (o.refs + f / 8) _)[i]? = _
    rw [List.getElem?_set_ne (by omega)]
end Go.Proofs.Ytgjcffjicbmkhaa.BytO
end

section
/- The parameters of layer 2's laws on scripts, opened: arrays of three numbers, steps. -/
namespace Go.Proofs.Ytgjcffjicbmkhaa.OpO
open Go Go.RowKit Go.Proofs.YtgjcffjicbmkhaaW.PrintWords Go.Proofs.Ytgjcffjicbmkhaa.Open Go.Proofs.Ytgjcffjicbmkhaa.MemO Go.Proofs.Ytgjcffjicbmkhaa.BytO
set_option linter.unusedVariables false
set_option maxRecDepth 100000

/-- Three whole numbers in an array. -/
def kThree : Kd (Int × Int × Int) := Kd.pair (Kd.int .i64) (Kd.pair (Kd.int .i64) (Kd.int .i64))
theorem o_ints3 {P : Program} {t e : TypeId} (hu : P.underlying t = some (.array 3 e)) (he : P.underlying e = some (.int .i64)) (hc : P.cellsOf t = 3) (hce : P.cellsOf e = 1) : Opens P t kThree (fun _ => True) := fun F => {
  sz := hc.symm
  op := by
    intro H enc W base spare held fuel cs x hf h hw
    obtain ⟨xs, m, rfl, rfl, hcl, hxl, hx⟩ := DataW.trod_array hu h
    rw [hc] at hcl
    match cs, hcl with
    | [c0, c1, c2], _ =>
      match xs, hxl with
      | [x0, x1, x2], _ =>
        have h0 := hx 0 (by omega)
        have h1 := hx 1 (by omega)
        have h2 := hx 2 (by omega)
        rw [hce] at h0 h1 h2
        obtain ⟨n0, e0, _⟩ := DataW.trod_int he (show DataW.trod enc P W base spare held m e [c0] = some x0 from h0)
        obtain ⟨n1, e1, _⟩ := DataW.trod_int he (show DataW.trod enc P W base spare held m e [c1] = some x1 from h1)
        obtain ⟨n2, e2, _⟩ := DataW.trod_int he (show DataW.trod enc P W base spare held m e [c2] = some x2 from h2)
        simp only [List.cons.injEq, and_true] at e0 e1 e2
        subst e0 e1 e2
        exact ⟨(n0, n1, n2), ⟨[.int .i64 n0], [.int .i64 n1, .int .i64 n2], rfl, rfl, ⟨[.int .i64 n1], [.int .i64 n2], rfl, rfl, rfl⟩⟩, trivial⟩ }
/-- Kind, Blk, Src, A, B, C, V, D -/
def kOp : Kd (Int × Int × Int × Int × Int × Int × Int × List Int) := Kd.pair (Kd.int .i64) (Kd.pair (Kd.int .i64) (Kd.pair (Kd.int .i64) (Kd.pair (Kd.int .i64) (Kd.pair (Kd.int .i64) (Kd.pair (Kd.int .i64) (Kd.pair (Kd.int .u64) (Kd.slice 5 (Kd.int .u8))))))))
def gOp (y : Int × Int × Int × Int × Int × Int × Int × List Int) : Prop := gI y.1 ∧ gI y.2.1 ∧ gI y.2.2.1 ∧ gI y.2.2.2.1 ∧ gI y.2.2.2.2.1 ∧ gI y.2.2.2.2.2.1 ∧ gU y.2.2.2.2.2.2.1 ∧ gBytes y.2.2.2.2.2.2.2
theorem o_op : Opens Try.prog 80 kOp gOp :=
  opens_struct Try.underlying80 rfl (by kernel_rfl) (fields2 rfl o_int (fields2 rfl o_int (fields2 rfl o_int (fields2 rfl o_int (fields2 rfl o_int (fields2 rfl o_int (fields2 rfl o_u64 (fields1 rfl o_bytes))))))))
/-- Sizes, Script -/
def kThr : Kd ((Int × Int × Int) × List (Int × Int × Int × Int × Int × Int × Int × List Int)) := Kd.pair kThree (Kd.slice 80 kOp)
def gThr (y : (Int × Int × Int) × List (Int × Int × Int × Int × Int × Int × Int × List Int)) : Prop := True ∧ GoodL 80 gOp y.2
theorem o_thr : Opens Try.prog 76 kThr gThr :=
  opens_struct Try.underlying76 rfl (by kernel_rfl) (fields2 rfl (o_ints3 Try.underlying73 Try.underlying3 (by kernel_rfl) (by kernel_rfl)) (fields1 rfl (opens_slice Try.underlying74 (by kernel_rfl) (by kernel_rfl) o_op)))
/-- A script alone. -/
theorem o_script : Opens Try.prog 74 (Kd.slice 80 kOp) (GoodL 80 gOp) := opens_slice Try.underlying74 (by kernel_rfl) (by kernel_rfl) o_op
end Go.Proofs.Ytgjcffjicbmkhaa.OpO
end

section
/- What stands in memory while ArenaRefused runs. -/
namespace Go.Proofs.Ytgjcffjicbmkhaa.RfdM
open Go Go.RowKit Go.Proofs.Ytgjcffjicbmkhaa.Open Go.Proofs.Ytgjcffjicbmkhaa.MemO Go.Proofs.Ytgjcffjicbmkhaa.BytO Go.Proofs.YtgjcffjicbmkhaaW.PrintWords Go.Proofs.YtgjcffjicbmkhaaW.PrintLast Go.Proofs.YtgjcffjicbmkhaaW.PrintMore Go.Proofs.Ytgjcffjicbmkhaa.PF Go.Proofs.Ytgjcffjicbmkhaa.RowU Go.Proofs.Ytgjcffjicbmkhaa.ArS Go.Proofs.Ytgjcffjicbmkhaa.ArM Go.Proofs.Ytgjcffjicbmkhaa.ArW Go.Proofs.Ytgjcffjicbmkhaa.ArX Go.Proofs.Ytgjcffjicbmkhaa.ArY Go.Proofs.Ytgjcffjicbmkhaa.ArT Go.Proofs.Ytgjcffjicbmkhaa.ArV Go.Proofs.Ytgjcffjicbmkhaa.ArB Go.Proofs.Ytgjcffjicbmkhaa.ArC Go.Proofs.Ytgjcffjicbmkhaa.ArP Go.Proofs.Ytgjcffjicbmkhaa.ArQ Go.Proofs.Ytgjcffjicbmkhaa.BegW Go.Proofs.Ytgjcffjicbmkhaa.RefW Go.Proofs.Ytgjcffjicbmkhaa.OpO
set_option linter.unusedVariables false
set_option maxRecDepth 100000

/-- The pointer to block j, of which the first k are made. -/
def pv (d : Nat → ArD) (k j : Nat) : Value := if j < k then .pointer (some ⟨(d j).g, 0, none⟩) else .pointer none
def kOn (k : Nat) : Nat → Bool := fun j => decide (j < k)
theorem within400 (x : Int) (w : World) : Calls Try.prog 12 #[.int .i64 x, .int .i64 400] w fun e w' => ∃ r : Nat, r < 400 ∧ e = .returned (.int .i64 (r : Int)) ∧ Below w.heap.size w w' := by
  obtain ⟨r, hr, _, h⟩ := within_calls x 400 (by omega) (by omega)
  exact (h w).mono fun e w' ⟨he, hb⟩ => ⟨r, hr, he, hb⟩
theorem new_any (w : World) (r : Nat) (hr : r < 400) : Calls Try.prog 22 #[.int .i64 (1 + (r : Int))] w fun e w' => ∃ g gw gf, e = .returned (.tuple #[.pointer (some ⟨g, 0, none⟩), .int .i64 0]) ∧ ArAt w' g gw gf (1 + r) [] ∧ w.heap.size ≤ g ∧ w.heap.size ≤ gw ∧ w.heap.size ≤ gf ∧ Below w.heap.size w w' := by
  have := new.calls w (1 + r) (by omega) (by omega)
  rw [show ((1 + r : Nat) : Int) = 1 + (r : Int) by omega] at this
  exact this
/-- The sizes asked for. -/
def szAt (s0 s1 s2 : Int) (k : Nat) : Int := if k = 0 then s0 else if k = 1 then s1 else s2
/-- Amidst the making. -/
structure Mk (W wr : World) (s0 s1 s2 : Int) (A : Option Addr) (n c bt bp : Nat) (d : Nat → ArD) (k : Nat) : Prop where
  st : Three wr d (kOn k)
  bt_ : wr.heap[bt]? = some (.cells #[.int .i64 s0, .int .i64 s1, .int .i64 s2, .slice A n c] 76 (0, 0))
  bp_ : wr.heap[bp]? = some (.cells #[pv d k 0, pv d k 1, pv d k 2] 78 (0, 0))
  ge : ∀ j, j < k → ∀ b, (d j).blk b → bp < b
  gp : bt < bp
  gt : W.heap.size ≤ bt
  below : Below W.heap.size W wr
theorem Mk.cell {W wr : World} {s0 s1 s2 : Int} {A : Option Addr} {n c bt bp : Nat} {d : Nat → ArD} {k : Nat} (h : Mk W wr s0 s1 s2 A n c bt bp d k) (j : Nat) (hj : j < 3) : wr.cell? ⟨bt, j, none⟩ = some (.int .i64 (szAt s0 s1 s2 j)) := by
  rcases j with _ | _ | _ | j
  · exact (blk_cell h.bt_ 0).trans rfl
  · exact (blk_cell h.bt_ 1).trans rfl
  · exact (blk_cell h.bt_ 2).trans rfl
  · omega
theorem Mk.pcell {W wr : World} {s0 s1 s2 : Int} {A : Option Addr} {n c bt bp : Nat} {d : Nat → ArD} {k : Nat} (h : Mk W wr s0 s1 s2 A n c bt bp d k) (j : Nat) (hj : j < 3) : wr.cell? ⟨bp, j, none⟩ = some (pv d k j) := by
  rcases j with _ | _ | _ | j
  · exact (blk_cell h.bp_ 0).trans rfl
  · exact (blk_cell h.bp_ 1).trans rfl
  · exact (blk_cell h.bp_ 2).trans rfl
  · omega
theorem Mk.move {W wr w' : World} {s0 s1 s2 : Int} {A : Option Addr} {n c bt bp : Nat} {d : Nat → ArD} {k : Nat} (h : Mk W wr s0 s1 s2 A n c bt bp d k) (hb : Below wr.heap.size wr w') : Mk W w' s0 s1 s2 A n c bt bp d k :=
  ⟨h.st.below hb, blk_below h.bt_ hb, blk_below h.bp_ hb, h.ge, h.gp, h.gt, below_next h.below hb⟩
theorem _root_.Go.Proofs.Ytgjcffjicbmkhaa.ArQ.Three.apart {W W' : World} {d : Nat → ArD} {on : Nat → Bool} (h : Three W d on) {S : Nat → Prop} (hu : Upd S W W') (hs : ∀ i, i < 3 → on i = true → ∀ b, (d i).blk b → ¬ S b) : Three W' d on :=
  ⟨fun i hi ho => ArD.upd (h.at_ i hi ho) hu (hs i hi ho), h.sep⟩
theorem pv_next (d : Nat → ArD) (k j g gw gf n : Nat) (hj : j < 3) : pv (putD d k ⟨g, gw, gf, n, []⟩) (k + 1) j = if j = k then .pointer (some ⟨g, 0, none⟩) else pv d k j := by
  unfold pv putD
  by_cases h : j = k
  · subst h; simp
  · rw [if_neg h, if_neg h]
    by_cases h2 : j < k
    · rw [if_pos h2, if_pos (by omega)]
    · rw [if_neg h2, if_neg (by omega)]
theorem Mk.make {W wr w' : World} {s0 s1 s2 : Int} {A : Option Addr} {m c bt bp : Nat} {d : Nat → ArD} {k : Nat} (h : Mk W wr s0 s1 s2 A m c bt bp d k) (hk : k < 3) {g gw gf n : Nat} (hA : ArAt w' g gw gf n []) (h0 : wr.heap.size ≤ g) (h1 : wr.heap.size ≤ gw) (h2 : wr.heap.size ≤ gf) (hb : Below wr.heap.size wr w') :
    Mk W (w'.setCell ⟨bp, k, none⟩ (.pointer (some ⟨g, 0, none⟩))) s0 s1 s2 A m c bt bp (putD d k ⟨g, gw, gf, n, []⟩) (k + 1) := by
  have hlt := cell_lt h.bp_
  have hon : (fun j => if j = k then true else kOn k j) = kOn (k + 1) := by
    funext j
    unfold kOn
    by_cases hj : j = k
    · subst hj; simp
    · rw [if_neg hj]
      by_cases h2 : j < k
      · simp [h2]; omega
      · simp [h2]; omega
  have hge : ∀ j, j < k + 1 → ∀ b, (putD d k ⟨g, gw, gf, n, []⟩ j).blk b → bp < b := by
    intro j hj b hb
    by_cases hjk : j = k
    · subst hjk
      rw [putD_self] at hb
      rcases hb with rfl | rfl | rfl
      · exact Nat.lt_of_lt_of_le hlt h0
      · exact Nat.lt_of_lt_of_le hlt h1
      · exact Nat.lt_of_lt_of_le hlt h2
    · rw [putD_other _ _ _ _ hjk] at hb
      exact h.ge j (by omega) b hb
  have hT := h.st.fresh hk hA h0 h1 h2 hb
  rw [hon] at hT
  refine ⟨hT.apart (S := fun b => b = bp) (Upd.put (S := fun b => b = bp) (Upd.refl _ w') (.inl rfl) k _) (fun i hi ho b hb2 he => ?_), ?_, ?_, hge, h.gp, h.gt, below_put (below_next h.below hb) (Nat.le_trans h.gt (Nat.le_of_lt h.gp)) _ _⟩
  · subst he
    have := hge i (by unfold kOn at ho; simpa using ho) b hb2
    omega
  · have := blk_below h.bt_ hb
    exact (Below.heap_setCell w' ⟨bp, k, none⟩ _ bt (by show bt ≠ bp; have := h.gp; omega)).trans this
  · have := blk_set (blk_below h.bp_ hb) k (.pointer (some ⟨g, 0, none⟩))
    rw [this, pv_next _ _ _ _ _ _ _ (by omega), pv_next _ _ _ _ _ _ _ (by omega), pv_next _ _ _ _ _ _ _ (by omega)]
    rcases k with _ | _ | _ | k
    · rfl
    · rfl
    · rfl
    · omega
theorem add_add (a : Addr) (m j : Nat) : (a.add m).add j = a.add (m + j) := by
  by_cases hm : m = 0
  · subst hm; simp [Addr.add]
  · by_cases hj : j = 0
    · subst hj; simp [Addr.add, hm]
    · simp [Addr.add, hm, hj, Nat.add_assoc]
theorem run_loadVar_at {P : Program} (w : World) (A : Addr) (ty : TypeId) (cs : List Value) (d : TypeDesc) (hc : ∀ j v, cs[j]? = some v → w.cell? (A.add j) = some v)
    (hu : P.underlying ty = some d) (hd : (match d with | .struct _ | .array _ _ => true | _ => false) = true) (hi : (P.info? ty).map (·.size) = some cs.length) :
    (loadVar ty A).run P w = .ok (.agg cs.toArray) w := by
  have hl : (loadCells A cs.length).run P w = .ok cs.toArray w := run_loadCells_list (P := P) w A cs hc
  cases hq : P.info? ty with
  | none => simp [hq] at hi
  | some i =>
    have hs : i.size = cs.length := by simpa [hq] using hi
    have hagg : (isAgg ty).run P w = .ok true w := by
      unfold isAgg
      rw [Sem.run_bind, run_underlying hu w]
      cases d <;> simp_all
    simp [loadVar, Sem.run_bind, hagg, sizeOf, typeInfo, hq, hs, hl]
theorem wpList_load_at {P : Program} {ops : Array Oper} {rest : List Oper} {o : Oper} {a : Act} {w : World} {Q : Exit → Act → World → Prop} (hgd : o.guard = none) (ty : TypeId) (x : Operand) (ho : o.op = .load ty x)
    (A : Addr) (hx : a.eval x = .pointer (some A)) (cs : List Value) (d : TypeDesc) (hc : ∀ j v, cs[j]? = some v → w.cell? (A.add j) = some v)
    (hu : P.underlying ty = some d) (hd : (match d with | .struct _ | .array _ _ => true | _ => false) = true) (hi : (P.info? ty).map (·.size) = some cs.length)
    (h : wpList P ops Q rest (a.put o.dst (.agg cs.toArray)) w) : wpList P ops Q (o :: rest) a w :=
  wpList_plain hgd fun K hK => by
    unfold Oper.wp execOp
    simp only [ho, hx, Instr.loadAt, Instr.sureAddr, Sem.run_bind, Sem.run_pure, Result.andThen_ok, run_loadVar_at w A ty cs d hc hu hd hi]
    exact hK _ _ h
/-- Between two steps of the script. -/
structure Lp (W wr : World) (bp : Nat) (d : Nat → ArD) : Prop where
  st : Three wr d allOn
  bp_ : wr.heap[bp]? = some (.cells #[.pointer (some ⟨(d 0).g, 0, none⟩), .pointer (some ⟨(d 1).g, 0, none⟩), .pointer (some ⟨(d 2).g, 0, none⟩)] 78 (0, 0))
  ge : ∀ j, j < 3 → ∀ b, (d j).blk b → bp < b
  gp : W.heap.size ≤ bp
  below : Below W.heap.size W wr
theorem Mk.lp {W wr : World} {s0 s1 s2 : Int} {A : Option Addr} {n c bt bp : Nat} {d : Nat → ArD} (h : Mk W wr s0 s1 s2 A n c bt bp d 3) : Lp W wr bp d :=
  ⟨⟨fun i hi _ => h.st.at_ i hi (by unfold kOn; simpa using hi), fun i j hi hj hij _ _ => h.st.sep i j hi hj hij (by unfold kOn; simpa using hi) (by unfold kOn; simpa using hj)⟩, h.bp_, h.ge, Nat.le_trans h.gt (Nat.le_of_lt h.gp), h.below⟩
theorem Lp.move {W wr w' : World} {bp : Nat} {d : Nat → ArD} (h : Lp W wr bp d) (hb : Below wr.heap.size wr w') : Lp W w' bp d :=
  ⟨h.st.below hb, blk_below h.bp_ hb, h.ge, h.gp, below_next h.below hb⟩
theorem Lp.cell {W wr : World} {bp : Nat} {d : Nat → ArD} (h : Lp W wr bp d) (j : Nat) (hj : j < 3) : wr.cell? ⟨bp, j, none⟩ = some (.pointer (some ⟨(d j).g, 0, none⟩)) := by
  rcases j with _ | _ | _ | j
  · exact (blk_cell h.bp_ 0).trans rfl
  · exact (blk_cell h.bp_ 1).trans rfl
  · exact (blk_cell h.bp_ 2).trans rfl
  · omega
def opCells (K Bk Sr A B C V : Int) (Ad : Option Addr) (n c : Nat) : List Value := [.int .i64 K, .int .i64 Bk, .int .i64 Sr, .int .i64 A, .int .i64 B, .int .i64 C, .int .u64 V, .slice Ad n c]
theorem op_cells {w : World} {A : Option Addr} {n : Nat} {ls : List (Int × Int × Int × Int × Int × Int × Int × List Int)} (h : kOp.C w A n ls) (i : Nat) (hi : i < ls.length) :
    ∃ ad K Bk Sr x y z V D Ad c, A = some ad ∧ ls[i]? = some (K, Bk, Sr, x, y, z, V, D) ∧ D.length ≤ c ∧ (Kd.int .u8).C w Ad D.length D ∧ ∀ j u, (opCells K Bk Sr x y z V Ad D.length c)[j]? = some u → w.cell? ((ad.add (i * 8)).add j) = some u := by
  have hn : ls.length = n := h.1
  obtain ⟨⟨K, Bk, Sr, x, y, z, V, D⟩, hy⟩ : ∃ t, ls[i]? = some t := ⟨_, List.getElem?_eq_getElem hi⟩
  obtain ⟨ad, c, hh, hc, hK, hcells⟩ := Kd.C_get h (K, Bk, Sr, x, y, z, V, D) (i : Int) (by omega) (by omega)
  rw [Int.toNat_natCast] at hK hcells
  have he : ls.getD i (K, Bk, Sr, x, y, z, V, D) = (K, Bk, Sr, x, y, z, V, D) := by rw [List.getD_eq_getElem?_getD, hy]; rfl
  rw [he] at hK
  obtain ⟨b0, b1, rfl, h0, c0, c1, rfl, h1, d0, d1, rfl, h2, e0, e1, rfl, h3, f0, f1, rfl, h4, g0, g1, rfl, h5, i0, i1, rfl, h6, ⟨Ad, cc, rfl, hl, hC⟩⟩ := hK
  have a0 : b0 = [_] := h0
  have a1 : c0 = [_] := h1
  have a2 : d0 = [_] := h2
  have a3 : e0 = [_] := h3
  have a4 : f0 = [_] := h4
  have a5 : g0 = [_] := h5
  have a6 : i0 = [_] := h6
  subst a0 a1 a2 a3 a4 a5 a6
  refine ⟨ad, K, Bk, Sr, x, y, z, V, D, Ad, cc, hh, hy, hl, hC, fun j u hj => ?_⟩
  rw [add_add]
  exact hcells j u hj
/-- A step, with its bytes as naturals. -/
theorem op_open {W : World} {A : Option Addr} {n : Nat} {ls : List (Int × Int × Int × Int × Int × Int × Int × List Int)} (h : kOp.C W A n ls) (hg : ∀ y ∈ ls, gOp y) (i : Nat) (hi : i < ls.length) :
    ∃ (ad : Addr) (K Bk Sr x y z : Int) (V : Nat) (bs : List Nat) (Ad : Option Addr) (c : Nat), A = some ad ∧ V < 18446744073709551616 ∧ (∀ b ∈ bs, b < 256) ∧ bs.length ≤ 9000000000000000 ∧ (∀ (i x : Nat), bs[i]? = some x → ∃ ad, Ad = some ad ∧ W.cell? (ad.add i) = some (.int .u8 (x : Int))) ∧ ∀ j u, (opCells K Bk Sr x y z V Ad bs.length c)[j]? = some u → W.cell? ((ad.add (i * 8)).add j) = some u := by
  obtain ⟨ad, K, Bk, Sr, x, y, z, V, D, Ad, c, hA, hy, hl, hC, hc⟩ := op_cells h i hi
  obtain ⟨_, _, _, _, _, _, gV, gD⟩ := hg _ (List.mem_of_getElem? hy)
  obtain ⟨v0, v1⟩ := wf_u64 gV
  obtain ⟨bs, hbs, hb⟩ := byte_nat D (fun q hq => wf_u8 (gD.2 q hq))
  have gl := gD.1
  simp only at v0 v1 gl
  obtain ⟨Vn, rfl⟩ := Int.eq_ofNat_of_zero_le v0
  subst hbs
  refine ⟨ad, K, Bk, Sr, x, y, z, Vn, bs, Ad, c, hA, by omega, hb, by rw [List.length_map] at gl; omega, fun j q hq => byte_cell hC j q hq, fun j u hu => hc j u ?_⟩
  rw [List.length_map]
  exact hu
/-- The image k, of which the first n are made. -/
def iv (d : Nat → ArD) (g c : Nat → Nat) (n j : Nat) : Value := if j < n then .slice (some ⟨g j, 0, none⟩) (used (d j).l) (c j) else .slice none 0 0
structure Im (W wq : World) (bp ga bw : Nat) (op : Array Value) (d : Nat → ArD) (g c : Nat → Nat) (n : Nat) : Prop where
  lp : Lp W wq bp d
  op_ : wq.heap[ga]? = some (.cells op 80 (0, 0))
  bw_ : wq.heap[bw]? = some (.cells #[iv d g c n 0, iv d g c n 1, iv d g c n 2] 81 (0, 0))
  img : ∀ j, j < n → j < 3 → WordsAt wq (g j) (c j) (words (d j).l) ∧ bw < g j
  lt : ∀ j, j < 3 → ∀ b, (d j).blk b → b < ga
  gab : ga < bw
  bpa : bp < ga
  inc : ∀ i j, i < j → j < n → j < 3 → g i < g j
theorem Im.cell {W wq : World} {bp ga bw : Nat} {op : Array Value} {d : Nat → ArD} {g c : Nat → Nat} {n : Nat} (h : Im W wq bp ga bw op d g c n) (j : Nat) (hj : j < 3) : wq.cell? ⟨bw, j, none⟩ = some (iv d g c n j) := by
  rcases j with _ | _ | _ | j
  · exact (blk_cell h.bw_ 0).trans rfl
  · exact (blk_cell h.bw_ 1).trans rfl
  · exact (blk_cell h.bw_ 2).trans rfl
  · omega
theorem iv_next (d : Nat → ArD) (g c : Nat → Nat) (n j gi ci : Nat) (hj : j < 3) : iv d (fun i => if i = n then gi else g i) (fun i => if i = n then ci else c i) (n + 1) j = if j = n then .slice (some ⟨gi, 0, none⟩) (used (d n).l) ci else iv d g c n j := by
  unfold iv
  by_cases h : j = n
  · subst h; simp
  · simp only [h, if_false]
    by_cases h2 : j < n
    · rw [if_pos h2, if_pos (by omega)]
    · rw [if_neg h2, if_neg (by omega)]
theorem Im.make {W wq w' : World} {bp ga bw : Nat} {op : Array Value} {d : Nat → ArD} {g c : Nat → Nat} {n : Nat} (h : Im W wq bp ga bw op d g c n) (hn : n < 3) {gi ci : Nat} (hw : WordsAt w' gi ci (words (d n).l)) (hg : wq.heap.size ≤ gi) (hb : Below wq.heap.size wq w') :
    Im W (w'.setCell ⟨bw, n, none⟩ (.slice (some ⟨gi, 0, none⟩) (used (d n).l) ci)) bp ga bw op d (fun i => if i = n then gi else g i) (fun i => if i = n then ci else c i) (n + 1) := by
  have hlt := cell_lt h.bw_
  have hge : W.heap.size ≤ bw := by have := h.lp.gp; have := h.bpa; have := h.gab; omega
  have hW : ∀ gx cx lx, WordsAt w' gx cx lx → bw < gx → WordsAt (w'.setCell ⟨bw, n, none⟩ (.slice (some ⟨gi, 0, none⟩) (used (d n).l) ci)) gx cx lx := by
    rintro gx cx lx ⟨cur, k1, k2⟩ hx
    exact ⟨cur, (Below.heap_setCell w' ⟨bw, n, none⟩ _ gx (by show gx ≠ bw; omega)).trans k1, k2⟩
  have hU : Upd (fun b => b = bw) w' (w'.setCell ⟨bw, n, none⟩ (.slice (some ⟨gi, 0, none⟩) (used (d n).l) ci)) := Upd.put (S := fun b => b = bw) (Upd.refl _ w') (.inl rfl) n _
  have L := h.lp.move hb
  refine ⟨⟨L.st.apart hU (fun i hi _ b hb2 he => ?_), blk_upd L.bp_ hU ?_, L.ge, L.gp, below_put L.below hge _ _⟩, blk_upd (blk_below h.op_ hb) hU ?_, ?_, fun j hj hj3 => ?_, h.lt, h.gab, h.bpa, fun i j hij hj hj3 => ?_⟩
  · have := h.lt i hi b hb2; have := h.gab; subst he; omega
  · intro he; have := h.bpa; have := h.gab; omega
  · intro he; have := h.gab; omega
  · have := blk_set (blk_below h.bw_ hb) n (.slice (some ⟨gi, 0, none⟩) (used (d n).l) ci)
    rw [this, iv_next _ _ _ _ _ _ _ (by omega), iv_next _ _ _ _ _ _ _ (by omega), iv_next _ _ _ _ _ _ _ (by omega)]
    rcases n with _ | _ | _ | n
    · rfl
    · rfl
    · rfl
    · omega
  · by_cases hjn : j = n
    · subst hjn
      simp only [if_true]
      exact ⟨hW _ _ _ hw (by omega), by omega⟩
    · simp only [hjn, if_false]
      obtain ⟨k1, k2⟩ := h.img j (by omega) hj3
      exact ⟨hW _ _ _ (k1.below hb) k2, k2⟩
  · by_cases hjn : j = n
    · subst hjn
      have hin : i ≠ j := by omega
      simp only [if_true, hin, if_false]
      obtain ⟨⟨cur, k1, _⟩, _⟩ := h.img i (by omega) (by omega)
      have := cell_lt k1
      omega
    · have hin : i ≠ n := by omega
      simp only [hjn, hin, if_false]
      exact h.inc i j hij (by omega) hj3
/-- While the images are compared: those from k on are as they were made. -/
structure Cp (W w : World) (bp ga bw : Nat) (op : Array Value) (d d' : Nat → ArD) (g c : Nat → Nat) (k : Nat) : Prop where
  lp : Lp W w bp d'
  op_ : w.heap[ga]? = some (.cells op 80 (0, 0))
  bw_ : w.heap[bw]? = some (.cells #[iv d g c 3 0, iv d g c 3 1, iv d g c 3 2] 81 (0, 0))
  img : ∀ j, k ≤ j → j < 3 → WordsAt w (g j) (c j) (words (d j).l)
  ne : ∀ j m, j < 3 → m < 3 → ¬ (d' m).blk (g j)
  inc : ∀ i j, i < j → j < 3 → g i < g j
  bwg : ∀ j, j < 3 → bw < g j
  gab : ga < bw
  bpa : bp < ga
theorem Cp.move {W w w' : World} {bp ga bw : Nat} {op : Array Value} {d d' : Nat → ArD} {g c : Nat → Nat} {k k' : Nat} (h : Cp W w bp ga bw op d d' g c k) (hb : Below w.heap.size w w') (hk : k ≤ k') : Cp W w' bp ga bw op d d' g c k' :=
  ⟨h.lp.move hb, blk_below h.op_ hb, blk_below h.bw_ hb, fun j hj hj3 => (h.img j (by omega) hj3).below hb, h.ne, h.inc, h.bwg, h.gab, h.bpa⟩
theorem Cp.cell {W w : World} {bp ga bw : Nat} {op : Array Value} {d d' : Nat → ArD} {g c : Nat → Nat} {k : Nat} (h : Cp W w bp ga bw op d d' g c k) (j : Nat) (hj : j < 3) : w.cell? ⟨bw, j, none⟩ = some (.slice (some ⟨g j, 0, none⟩) (used (d j).l) (c j)) := by
  rcases j with _ | _ | _ | j
  · exact (blk_cell h.bw_ 0).trans rfl
  · exact (blk_cell h.bw_ 1).trans rfl
  · exact (blk_cell h.bw_ 2).trans rfl
  · omega
/-- One word of the image k is written anew. -/
theorem Cp.put {W w : World} {bp ga bw : Nat} {op : Array Value} {d d' : Nat → ArD} {g c : Nat → Nat} {k : Nat} (h : Cp W w bp ga bw op d d' g c k) (hk : k < 3) (n : Nat) (v : Value) : Cp W (w.setCell ⟨g k, n, none⟩ v) bp ga bw op d d' g c (k + 1) := by
  have hU : Upd (fun b => b = g k) w (w.setCell ⟨g k, n, none⟩ v) := Upd.put (S := fun b => b = g k) (Upd.refl _ w) (.inl rfl) n _
  have h1 := h.bwg k hk
  have h2 := h.gab
  have h3 := h.bpa
  have h4 := h.lp.gp
  refine ⟨⟨h.lp.st.apart hU (fun i hi _ b hb2 he => ?_), blk_upd h.lp.bp_ hU (by omega), h.lp.ge, h4, below_put h.lp.below (by omega) _ _⟩, blk_upd h.op_ hU (by omega), blk_upd h.bw_ hU (by omega), fun j hj hj3 => (h.img j (by omega) hj3).other ?_ n v, h.ne, h.inc, h.bwg, h2, h3⟩
  · subst he; exact h.ne k i hk hi hb2
  · have := h.inc k j (by omega) hj3; omega
/-- The images are made, the call is through. -/
theorem Im.cp {W wq w' : World} {bp ga bw : Nat} {op : Array Value} {d d' : Nat → ArD} {g c : Nat → Nat} (h : Im W wq bp ga bw op d g c 3) {r : Bool} {i j : Nat} {K A : Int} (ha : After wq w' d d' r i j K A) : Cp W w' bp ga bw op d d' g c 0 := by
  have hge : ∀ k, k < 3 → ∀ b, (d' k).blk b → bp < b := by
    intro k hk b hb
    rcases ha.new k hk b hb with h1 | h1
    · exact h.lp.ge k hk b h1
    · have := cell_lt h.lp.bp_; omega
  have hnot : ∀ b, (b = bp ∨ b = ga ∨ b = bw ∨ ∃ j, j < 3 ∧ b = g j) → ¬ ∃ k, k < 3 ∧ (d k).blk b := by
    rintro b hb ⟨k, hk, hk2⟩
    have h1 := h.lp.ge k hk b hk2
    have h2 := h.lt k hk b hk2
    have h3 := h.gab
    have h4 := h.bpa
    rcases hb with rfl | rfl | rfl | ⟨j, hj, rfl⟩
    · omega
    · omega
    · omega
    · have := (h.img j hj hj).2; omega
  have hlt : ∀ j, j < 3 → g j < wq.heap.size := fun j hj => by
    obtain ⟨cur, h1, _⟩ := (h.img j hj hj).1
    exact cell_lt h1
  have hgp := h.lp.gp
  refine ⟨⟨ha.st, ?_, hge, h.lp.gp, h.lp.below.trans (ha.upd.below W.heap.size h.lp.below.size (fun b hb => ?_))⟩, blk_upd h.op_ ha.upd (hnot _ (.inr (.inl rfl))), blk_upd h.bw_ ha.upd (hnot _ (.inr (.inr (.inl rfl)))), fun j _ hj => ?_, fun j m hj hm hb => ?_, fun i j hij hj => h.inc i j hij hj hj, fun j hj => (h.img j hj hj).2, h.gab, h.bpa⟩
  · rw [ha.g 0 (by omega), ha.g 1 (by omega), ha.g 2 (by omega)]
    exact blk_upd h.lp.bp_ ha.upd (hnot _ (.inl rfl))
  · obtain ⟨k, hk, hk2⟩ := hb
    have := h.lp.ge k hk b hk2
    omega
  · obtain ⟨cur, h1, h2⟩ := (h.img j hj hj).1
    exact ⟨cur, blk_upd h1 ha.upd (hnot _ (.inr (.inr (.inr ⟨j, hj, rfl⟩)))), h2⟩
  · rcases ha.new m hm _ hb with h1 | h1
    · exact hnot _ (.inr (.inr (.inr ⟨j, hj, rfl⟩))) ⟨m, hm, h1⟩
    · have := hlt j hj; omega
theorem After.words_same {W w' : World} {d d' : Nat → ArD} {r : Bool} {i j : Nat} {K A : Int} (h : After W w' d d' r i j K A) {k : Nat} (hk : k < 3) (hn : ¬ (k = i ∧ r = false)) (hm : ¬ (K = 8 ∧ r = false ∧ k = j ∧ 0 < A ∧ A < (used (d k).l : Int))) : (d' k).l = (d k).l := by
  cases r with
  | true => exact h.no rfl k hk
  | false =>
    have hki : k ≠ i := fun e => hn ⟨e, rfl⟩
    refine h.yes1 rfl k hk hki ?_
    by_cases hK : K = 8
    · refine .inr fun hkj => ?_
      subst hkj
      obtain ⟨n, o, t, h1, h2, _⟩ := h.yes2 rfl hki hK
      have := place_pos (d k).l n
      have := place_lt h1
      exact hm ⟨hK, rfl, rfl, by omega, by omega⟩
    · exact .inl hK
theorem After.words_put {W w' : World} {d d' : Nat → ArD} {i j : Nat} {K A : Int} (h : After W w' d d' false i j K A) (hj : j < 3) (hji : j ≠ i) (hK : K = 8) :
    ∃ n t : Nat, A = (n : Int) ∧ n < used (d j).l ∧ t ≤ 1048576 ∧ movR (d' j).l A = ((t : Int), true, 0) ∧ words (d' j).l = (words (d j).l).set n (9223372036854775808 + t) ∧ used (d' j).l = used (d j).l := by
  obtain ⟨n, o, t, h1, rfl, h3⟩ := h.yes2 rfl hji hK
  have hkl := (List.getElem?_eq_some_iff.1 h1).1
  have hget : (d' j).l[n]? = some (Ob.went o t) := by rw [h3, List.getElem?_set_self hkl]
  have hpl : place (d' j).l n = place (d j).l n := by rw [h3]; exact place_set (o' := Ob.went o t) h1 rfl n
  refine ⟨place (d j).l n, t, rfl, place_lt h1, ?_, ?_, ?_, ?_⟩
  · obtain ⟨cw, cf, fs, hA⟩ := h.st.at_ j hj rfl
    exact (hA.ok _ (List.mem_of_getElem? hget)).g1 t rfl
  · unfold movR
    rw [← hpl, obAt_of hget]
    rfl
  · rw [h3]; exact words_gone h1 t
  · rw [h3]; exact used_set (o' := Ob.went o t) h1 rfl
end Go.Proofs.Ytgjcffjicbmkhaa.RfdM
end

section
/- ArenaRefused walked. -/
namespace Go.Proofs.Ytgjcffjicbmkhaa.RfdW
open Go Go.RowKit Go.Proofs.Ytgjcffjicbmkhaa.Open Go.Proofs.Ytgjcffjicbmkhaa.MemO Go.Proofs.Ytgjcffjicbmkhaa.BytO Go.Proofs.YtgjcffjicbmkhaaW.PrintWords Go.Proofs.YtgjcffjicbmkhaaW.PrintLast Go.Proofs.YtgjcffjicbmkhaaW.PrintMore Go.Proofs.Ytgjcffjicbmkhaa.PF Go.Proofs.Ytgjcffjicbmkhaa.RowU Go.Proofs.Ytgjcffjicbmkhaa.ArS Go.Proofs.Ytgjcffjicbmkhaa.ArM Go.Proofs.Ytgjcffjicbmkhaa.ArW Go.Proofs.Ytgjcffjicbmkhaa.ArX Go.Proofs.Ytgjcffjicbmkhaa.ArY Go.Proofs.Ytgjcffjicbmkhaa.ArT Go.Proofs.Ytgjcffjicbmkhaa.ArV Go.Proofs.Ytgjcffjicbmkhaa.ArB Go.Proofs.Ytgjcffjicbmkhaa.ArC Go.Proofs.Ytgjcffjicbmkhaa.ArP Go.Proofs.Ytgjcffjicbmkhaa.ArQ Go.Proofs.Ytgjcffjicbmkhaa.BegW Go.Proofs.Ytgjcffjicbmkhaa.RefW Go.Proofs.Ytgjcffjicbmkhaa.OpO Go.Proofs.Ytgjcffjicbmkhaa.RfdM
set_option linter.unusedVariables false
set_option maxRecDepth 100000

set_option maxHeartbeats 8000000 in
theorem refused_law.calls (s0 s1 s2 : Int) (ls : List (Int × Int × Int × Int × Int × Int × Int × List Int)) (A : Option Addr) (c : Nat) (W : World) (hC : Kd.C kOp W A ls.length ls) (hc : ls.length ≤ c) (hl : ls.length ≤ 100000000000000) (hg : ∀ y ∈ ls, gOp y) :
    Calls Try.prog 7 #[.agg #[.int .i64 s0, .int .i64 s1, .int .i64 s2, .slice A ls.length c]] W fun e w' => e = .returned (.bool true) ∧ Below W.heap.size W w' := by
  have HC := Aside0.mk hC
  have HG := Aside0.mk hg
  clear hC hg
  go_enter Try.func7, Try.ntmps7
  go_wp2_with fail
  refine (begun.calls _).mono ?_
  rintro e w1 ⟨rfl, hb⟩
  have hbk := blk_below (blk_new W (.cells #[.int .i64 s0, .int .i64 s1, .int .i64 s2, .slice A ls.length c] 76)) hb
  have HB1 := Aside0.mk (below_next (below_alloc (Below.refl W.heap.size W) _) hb)
  clear hb
  obtain ⟨bt, hbt⟩ : ∃ bt, bt = W.heap.size := ⟨_, rfl⟩
  rw [← hbt] at hbk ⊢
  have HBT := Aside0.mk (show W.heap.size ≤ bt from Nat.le_of_eq hbt.symm)
  clear hbt
  go_wp2_with fail
  obtain ⟨bp, hbp⟩ : ∃ bp, bp = w1.heap.size := ⟨_, rfl⟩
  have HM0 : Aside0 (Mk W (w1.alloc (.cells #[.pointer none, .pointer none, .pointer none] 78)) s0 s1 s2 A ls.length c bt bp (fun _ => ⟨0, 0, 0, 0, []⟩) 0) := ⟨⟨⟨fun i _ ho => by simp [kOn] at ho, fun i j _ _ _ ho _ => by simp [kOn] at ho⟩, blk_below hbk (below_alloc (Below.refl _ _) _), by rw [hbp]; exact blk_new w1 _, fun j hj => absurd hj (Nat.not_lt_zero j), by rw [hbp]; exact cell_lt hbk, HBT.out, below_alloc HB1.out _⟩⟩
  rw [← hbp]
  clear hbp hbk
  generalize w1.alloc (.cells #[.pointer none, .pointer none, .pointer none] 78) = w2 at *
  go_loopw [5] (fun i wr => ∃ (k : Nat) (d : Nat → ArD), k ≤ 3 ∧ i = .int .i64 k ∧ Aside0 (Mk W wr s0 s1 s2 A ls.length c bt bp d k)) (fun i _ => 3 - (intOf i).toNat)
  case atStart => exact ⟨0, _, by omega, rfl, HM0⟩
  case round =>
    obtain ⟨k, d, hk, rfl, HM⟩ := hrel
    clear HM0
    rename World => wr
    by_cases hk3 : k < 3
    · have hk3' : (k : Int) < 3 := by omega
      have hx := HM.out.cell k hk3
      go_wp2_with fail
      refine (within400 _ _).mono ?_
      rintro e w4 ⟨r, hr, rfl, hb⟩
      have HM4 := Aside0.mk (HM.out.move hb)
      clear hb hx
      go_wp2_with fail
      refine (new_any _ r hr).mono ?_
      rintro e w5 ⟨g, gw, gf, rfl, n1, n2, n3, n4, n5⟩
      have HN := Aside0.mk (And.intro n1 (And.intro n2 (And.intro n3 (And.intro n4 n5))))
      clear n1 n2 n3 n4 n5
      go_wp2_with fail
      refine (num.calls _ _).mono ?_
      rintro e w6 ⟨rfl, rfl⟩
      have HM6 := Aside0.mk (HM4.out.move HN.out.2.2.2.2)
      have hbk := HM6.out.bp_
      have hkk := HM6.out.pcell k hk3
      have hfz := blk_frozen hbk k
      go_wp2_with fail
      exact ⟨⟨k + 1, _, by omega, by rw [Int.natCast_succ], ⟨HM4.out.make hk3 HN.out.1 HN.out.2.1 HN.out.2.2.1 HN.out.2.2.2.1 HN.out.2.2.2.2⟩⟩, by simp only [intOf]; omega⟩
    · obtain rfl : k = 3 := by omega
      go_wp2_with fail
      have HL0 := Aside0.mk HM.out.lp
      have HBT2 := Aside0.mk (And.intro HM.out.gp HM.out.gt)
      clear HM
      go_loopw [8] (fun i wr => ∃ (n : Nat) (d : Nat → ArD), n ≤ ls.length ∧ i = .int .i64 n ∧ Aside0 (Lp W wr bp d)) (fun i _ => ls.length - (intOf i).toNat)
      case atStart => exact ⟨0, _, by omega, rfl, HL0⟩
      case round =>
        obtain ⟨n, d, hn, rfl, HL⟩ := hrel
        clear HL0
        rename World => wr
        by_cases hlt : n < ls.length
        · have hlt' : (n : Int) < ls.length := by omega
          by_cases h4 : n < 4096
          · have h4' : (n : Int) < 4096 := by omega
            obtain ⟨ad, K, Bk, Sr, x, y, z, V, bs, Ad, cd, rfl, n1, n2, n3, n4, n5⟩ := op_open HC.out HG.out n hlt
            have HD := Aside0.mk (And.intro n1 (And.intro n2 (And.intro n3 n4)))
            have HK : Aside0 (∀ j u, (opCells K Bk Sr x y z V Ad bs.length cd)[j]? = some u → wr.cell? ((ad.add (n * 8)).add j) = some u) := ⟨fun j u hu => (HL.out.below.cell (World.block_lt_of_cell? _ _ (n5 j u hu))).trans (n5 j u hu)⟩
            have HSZ := Aside0.mk (show (Try.prog.info? 80).map (·.size) = some 8 by kernel_rfl)
            have HONE := Aside0.mk (show (#[.int .i64 K, .int .i64 Bk, .int .i64 Sr, .int .i64 x, .int .i64 y, .int .i64 z, .int .u64 (V : Int), .slice Ad bs.length cd] : Array Value).all (·.oneCell') = true by
              rw [Array.all_eq_true_iff_forall_mem]
              intro v hv
              have hv : v ∈ opCells K Bk Sr x y z V Ad bs.length cd := by simpa [opCells] using hv
              simp only [opCells, List.mem_cons, List.not_mem_nil, or_false] at hv
              rcases hv with rfl | rfl | rfl | rfl | rfl | rfl | rfl | rfl <;> rfl)
            have HSZ2 := Aside0.mk (show (Try.prog.info? 80).map (·.size) = some (#[.int .i64 K, .int .i64 Bk, .int .i64 Sr, .int .i64 x, .int .i64 y, .int .i64 z, .int .u64 (V : Int), .slice Ad bs.length cd] : Array Value).size from HSZ.out)
            clear n1 n2 n3 n4 n5
            go_upto_region 16 with (first
              | ((with_reducible refine gate_dst (N := 59) rfl ?_); refine wpList_load_at rfl 80 (.tmp 58) rfl (ad.add (n * 8)) rfl (opCells K Bk Sr x y z V Ad bs.length cd) _ HK.out Try.underlying80 rfl HSZ.out ?_)
              | ((with_reducible refine gate_dst (N := 9) rfl ?_); refine box_event ?hg (N := 9) ?hd (cs := #[.int .i64 0, .int .i64 0, .int .i64 0, .int .i64 0, .int .i64 0, .int .i64 0, .int .u64 0, .slice none 0 0]) (t := 80) ?hr ?_; (case hd => rfl); (case hg => rfl); (case hr => first | (go_simp; done) | (go_simp; rfl)); intro ga hga w7 hbox hb; have BA := Aside0.mk hbox; have HB7 := Aside0.mk hb; have GA := Aside0.mk hga; clear hbox hb hga)
              | ((with_reducible refine gate_store (p := 9) rfl ?_); refine wpList_store_row rfl 80 (.tmp 9) (.tmp 59) rfl ga #[.int .i64 K, .int .i64 Bk, .int .i64 Sr, .int .i64 x, .int .i64 y, .int .i64 z, .int .u64 (V : Int), .slice Ad bs.length cd] rfl rfl 80 #[.int .i64 0, .int .i64 0, .int .i64 0, .int .i64 0, .int .i64 0, .int .i64 0, .int .u64 0, .slice none 0 0] BA.out HSZ2.out rfl HONE.out ?_; obtain ⟨w8, hw8⟩ : ∃ w8, w8 = w7.setRow ga #[.int .i64 K, .int .i64 Bk, .int .i64 Sr, .int .i64 x, .int .i64 y, .int .i64 z, .int .u64 (V : Int), .slice Ad bs.length cd] := ⟨_, rfl⟩; rw [← hw8]; have BC := Aside0.mk (show w8.heap[ga]? = some (.cells #[.int .i64 K, .int .i64 Bk, .int .i64 Sr, .int .i64 x, .int .i64 y, .int .i64 z, .int .u64 (V : Int), .slice Ad bs.length cd] 80 (0, 0)) by rw [hw8]; exact setRow_heap _ _ _ _ _ _ BA.out); have HB8 := Aside0.mk (show Below wr.heap.size wr w8 by rw [hw8]; exact below_setRow HB7.out (by rw [GA.out]; exact Nat.le_refl _) _); clear hw8))
            have HBA : Aside0 (bp < ga ∧ wr.heap.size ≤ ga ∧ ga < w8.heap.size) := ⟨by have := cell_lt HL.out.bp_; have := GA.out; exact ⟨by omega, by omega, cell_lt BC.out⟩⟩
            have HL8 := Aside0.mk (HL.out.move HB8.out)
            have HLT : Aside0 (∀ j, j < 3 → ∀ b, (d j).blk b → b < ga) := ⟨fun j hj b hb => by have := ArD.lt (HL.out.st.at_ j hj rfl) b hb; have := HBA.out.2.1; omega⟩
            clear HL HSZ HSZ2 HONE HB7 BA HB8 GA HK
            go_upto_region 17 with fail
            obtain ⟨bw, hbw⟩ : ∃ bw, bw = w8.heap.size := ⟨_, rfl⟩
            have HI0 : Aside0 (Im W (w8.alloc (.cells #[.slice none 0 0, .slice none 0 0, .slice none 0 0] 81)) bp ga bw (opCells K Bk Sr x y z V Ad bs.length cd).toArray d (fun _ => 0) (fun _ => 0) 0) :=
              ⟨⟨HL8.out.move (below_alloc (Below.refl _ _) _), blk_below BC.out (below_alloc (Below.refl _ _) _), by rw [hbw]; exact blk_new w8 _, fun j hj => absurd hj (Nat.not_lt_zero j), HLT.out, by rw [hbw]; exact HBA.out.2.2, HBA.out.1, fun i j hij hj => absurd hj (Nat.not_lt_zero j)⟩⟩
            rw [← hbw]
            clear hbw HL8 BC
            generalize w8.alloc (.cells #[.slice none 0 0, .slice none 0 0, .slice none 0 0] 81) = w9 at *
            go_upto_region 18 with fail
            have HW9 := Aside0.mk HI0.out.lp
            go_loopw [11] (fun i wq => ∃ (k : Nat) (gs cs : Nat → Nat), k ≤ 3 ∧ i = .int .i64 k ∧ Aside0 (Im W wq bp ga bw (opCells K Bk Sr x y z V Ad bs.length cd).toArray d gs cs k)) (fun i _ => 3 - (intOf i).toNat)
            case atStart => exact ⟨0, _, _, by omega, rfl, HI0⟩
            case round =>
              obtain ⟨k, gs, cs, hk, rfl, HI⟩ := hrel
              clear HI0
              rename World => wq
              by_cases hk3 : k < 3
              · have hk3' : (k : Int) < 3 := by omega
                have hx := HI.out.lp.cell k hk3
                go_wp2_with fail
                refine (ArZ.image.calls (HI.out.lp.st.at_ k hk3 rfl)).mono ?_
                rintro e w10 ⟨gi, ci, rfl, n1, n2, n3⟩
                have HN := Aside0.mk (And.intro n1 (And.intro n2 n3))
                clear n1 n2 n3
                have hbk := blk_below HI.out.bw_ HN.out.2.2
                have hkk := (HN.out.2.2.cell (World.block_lt_of_cell? _ _ (HI.out.cell k hk3))).trans (HI.out.cell k hk3)
                have hfz := blk_frozen hbk k
                go_wp2_with fail
                exact ⟨⟨k + 1, _, _, by omega, by rw [Int.natCast_succ], ⟨HI.out.make hk3 HN.out.1 HN.out.2.1 HN.out.2.2⟩⟩, by simp only [intOf]; omega⟩
              · obtain rfl : k = 3 := by omega
                have HPT : Aside0 (∀ j u, ([.pointer (some ⟨(d 0).g, 0, none⟩), .pointer (some ⟨(d 1).g, 0, none⟩), .pointer (some ⟨(d 2).g, 0, none⟩)] : List Value)[j]? = some u → wq.cell? ((⟨bp, 0, none⟩ : Addr).add j) = some u) := ⟨fun j u hu => by
                  rw [Addr.add_lit, Nat.zero_add]
                  rw [blk_cell HI.out.lp.bp_ j]
                  simpa using hu⟩
                have HOT : Aside0 (∀ j u, (opCells K Bk Sr x y z V Ad bs.length cd)[j]? = some u → wq.cell? ((⟨ga, 0, none⟩ : Addr).add j) = some u) := ⟨fun j u hu => by
                  rw [Addr.add_lit, Nat.zero_add]
                  rw [blk_cell HI.out.op_ j]
                  simpa using hu⟩
                have HCL := Aside0.mk (refused.calls wq d HI.out.lp.st K Bk Sr x y z V HD.out.1 bs HD.out.2.1 Ad cd HD.out.2.2.1 (fun i q hq => by
                  obtain ⟨a1, a2, a3⟩ := HD.out.2.2.2 i q hq
                  have hlt2 := World.block_lt_of_cell? _ _ a3
                  refine ⟨a1, a2, fun k hk he => ?_, (HI.out.lp.below.cell hlt2).trans a3⟩
                  have h1 := HI.out.lp.ge k hk _ (.inr (.inl rfl))
                  have h2 := HI.out.lp.gp
                  have h3 : a1.block < W.heap.size := by
                    unfold Addr.add at hlt2
                    split at hlt2 <;> exact hlt2
                  omega))
                have HS3 := Aside0.mk (show (Try.prog.info? 78).map (·.size) = some 3 by kernel_rfl)
                have HS8 := Aside0.mk (show (Try.prog.info? 80).map (·.size) = some 8 by kernel_rfl)
                go_upto_region 22 with (first
                  | ((with_reducible refine gate_dst (N := 70) rfl ?_); refine wpList_load_at rfl 78 (.tmp 4) rfl ⟨bp, 0, none⟩ rfl [.pointer (some ⟨(d 0).g, 0, none⟩), .pointer (some ⟨(d 1).g, 0, none⟩), .pointer (some ⟨(d 2).g, 0, none⟩)] _ HPT.out Try.underlying78 rfl HS3.out ?_)
                  | ((with_reducible refine gate_dst (N := 71) rfl ?_); refine wpList_load_at rfl 80 (.tmp 9) rfl ⟨ga, 0, none⟩ rfl (opCells K Bk Sr x y z V Ad bs.length cd) _ HOT.out Try.underlying80 rfl HS8.out ?_))
                refine HCL.out.mono ?_
                rintro e w11 ⟨r, d', rfl, hAft⟩
                have HA := Aside0.mk hAft
                have HP0 := Aside0.mk (HI.out.cp hAft)
                clear hAft HCL HPT HOT HS3 HS8 HI HBA HLT HW9
                go_upto_region 23 with fail
                go_loopw [13] (fun i w => ∃ (k : Nat), k ≤ 3 ∧ i = .int .i64 k ∧ Aside0 (Cp W w bp ga bw (opCells K Bk Sr x y z V Ad bs.length cd).toArray d d' gs cs k)) (fun i _ => 3 - (intOf i).toNat)
                case atStart => exact ⟨0, by omega, rfl, HP0⟩
                case round =>
                  obtain ⟨k, hk, rfl, HP⟩ := hrel
                  clear HP0
                  rename World => wc
                  by_cases hk3 : k < 3
                  · have hk3' : (k : Int) < 3 := by omega
                    have hx := HP.out.lp.cell k hk3
                    go_wp2_with fail
                    refine (ArZ.image.calls (HP.out.lp.st.at_ k hk3 rfl)).mono ?_
                    rintro e w12 ⟨gn, cn, rfl, n1, n2, n3⟩
                    have HN := Aside0.mk n1
                    have HP2 := Aside0.mk (HP.out.move n3 (Nat.le_refl _))
                    have HNG : Aside0 (gn ≠ gs k) := ⟨by obtain ⟨cur, q1, _⟩ := HP.out.img k (Nat.le_refl _) hk3; have := cell_lt q1; omega⟩
                    clear n1 n2 n3 HP hx
                    have hx1 : w12.cell? ⟨ga, 1, none⟩ = some (.int .i64 Bk) := (blk_cell HP2.out.op_ 1).trans rfl
                    go_wp2_with fail
                    refine (three_all _ _).mono ?_
                    rintro e w13 ⟨rfl, hb⟩
                    have HN3 := Aside0.mk (HN.out.below hb)
                    have HP3 := Aside0.mk (HP2.out.move hb (Nat.le_refl _))
                    clear hb HN HP2 hx1
                    by_cases hki : k = mod3 Bk ∧ r = false
                    · have e1 : ((k : Int) == (mod3 Bk : Int)) = true := by rw [hki.1]; simp
                      obtain rfl := hki.2
                      have HQ := Aside0.mk (HP3.out.move (Below.refl _ _) (Nat.le_succ k))
                      go_wp2_with fail
                      exact ⟨⟨k + 1, by omega, by rw [hki.1, Int.natCast_succ], HQ⟩, by have := hki.1; simp only [intOf]; omega⟩
                    · have HKI := Aside0.mk hki
                      clear hki
                      by_cases hm : K = 8 ∧ r = false ∧ k = mod3 Sr ∧ 0 < x ∧ x < (used (d k).l : Int)
                      · obtain ⟨rfl, rfl, hkj, hm4, hm5⟩ := hm
                        have hki : k ≠ mod3 Bk := fun h => HKI.out ⟨h, rfl⟩
                        obtain ⟨q, tt, rfl, hq1, hq2, hq3, hq4, hq5⟩ := After.words_put HA.out (mod3_lt Sr) (by rw [← hkj]; exact hki) rfl
                        have e3 : ((k : Int) == (mod3 Sr : Int)) = true := by rw [hkj]; simp
                        rw [← hkj] at hq1 hq3 hq4 hq5
                        have e2 : ((k : Int) == (mod3 Bk : Int)) = false := beq_eq_false_iff_ne.2 (by omega)
                        obtain ⟨top, htop⟩ : ∃ top : Nat, top = 9223372036854775808 + tt := ⟨_, rfl⟩
                        have HE1 : Aside0 (IntKind.u64.wrap (9223372036854775808 + (tt : Int)) = (top : Int) ∧ IntKind.u64.wrap (tt : Int) = (tt : Int)) := ⟨by rw [IntKind.wrap_u64]; omega, by rw [IntKind.wrap_u64]; omega⟩
                        rw [← htop] at hq4
                        have HWN : Aside0 (WordsAt w13 gn cn ((words (d k).l).set q top)) := ⟨by rw [← hq4]; exact HN3.out⟩
                        have HLN : Aside0 ((words (d k).l).length ≤ 100000000000000) := ⟨by
                          obtain ⟨cw, cf, fs, q9⟩ := HP3.out.lp.st.at_ k hk3 rfl
                          have q1 := q9.fit
                          have q2 := q9.sz1
                          rw [hq5] at q1
                          have : used (d k).l = (words (d k).l).length := rfl
                          omega⟩
                        have HMV := Aside0.mk (fun w' (hb : Below w13.heap.size w13 w') => moved_all ((HP3.out.lp.st.below hb).at_ k hk3 rfl) (q : Int))
                        simp only [hq3] at HMV
                        rw [hq5]
                        have e4 : (0 : Int) < (q : Int) := hm4
                        have e5 : (q : Int) < (used (d k).l : Int) := hm5
                        have hx0 : w13.cell? ⟨ga, 0, none⟩ = some (.int .i64 8) := (blk_cell HP3.out.op_ 0).trans rfl
                        have hx2 : w13.cell? ⟨ga, 2, none⟩ = some (.int .i64 Sr) := (blk_cell HP3.out.op_ 2).trans rfl
                        have hx3 : w13.cell? ⟨ga, 3, none⟩ = some (.int .i64 q) := (blk_cell HP3.out.op_ 3).trans rfl
                        have hx4 := HP3.out.cell k hk3
                        clear hq3 hq4 hq5 hm4 hm5 hki hkj HKI HN3 hq2 htop
                        go_wp2_with fail
                        -- BIGM
                        refine wp_region_held_drew (S := (fun w' => (w'.cell? ⟨ga, 0, none⟩ = some (.int .i64 8) ∧ w'.cell? ⟨ga, 2, none⟩ = some (.int .i64 Sr) ∧ w'.cell? ⟨ga, 3, none⟩ = some (.int .i64 q) ∧ w'.cell? ⟨bw, k, none⟩ = some (.slice (some ⟨gs k, 0, none⟩) (used (d k).l) (cs k))) ∧ Aside0 (Below w13.heap.size w13 w'))) (by kernel_rfl) (by exact ⟨⟨hx0, hx2, hx3, hx4⟩, ⟨(Below.refl _ _).drew⟩⟩) (fun hHeld => ?_)
                        refine wpAnyH_take (i := 0) (oi := ({ dst := some 90, op := Go.Op.fieldAddr 80 (Go.Operand.tmp 9) 0, type := 0, pos := "collect.go:66", after := #[], guard := none } : Oper)) (v := ?vm0) rfl (by kernel_rfl) (by kernel_rfl) (by kernel_rfl) (fun _ _ _ h => h) (Or.inl ⟨by rfl, ?hym0⟩) (by assumption) ?restm0
                        case hym0 => (intro w hSw; (try dsimp only at hSw); go_simp; (try with_reducible rfl))
                        (try simp only [Act.put, List.setIfInBounds_toArray, List.set_cons_zero, List.set_cons_succ])
                        refine wpAnyH_take (i := 1) (oi := ({ dst := some 91, op := Go.Op.load 3 (Go.Operand.tmp 90), type := 3, pos := "collect.go:66", after := #[{ on := 0, ground := Go.Ground.data }], guard := none } : Oper)) (v := ?vm1) rfl (by kernel_rfl) (by kernel_rfl) (by kernel_rfl) (fun _ _ _ h => h) (Or.inl ⟨by rfl, ?hym1⟩) (by assumption) ?restm1
                        case hym1 => (intro w hSw; (try dsimp only at hSw); go_simp; (try with_reducible rfl))
                        (try simp only [Act.put, List.setIfInBounds_toArray, List.set_cons_zero, List.set_cons_succ])
                        refine wpAnyH_take (i := 2) (oi := ({ dst := some 92, op := Go.Op.binOp Go.BinOp.eql 3 (Go.Operand.tmp 91) (Go.Operand.const (Go.Value.int Go.IntKind.i64 8)) 3, type := 4, pos := "collect.go:66", after := #[{ on := 1, ground := Go.Ground.data }], guard := none } : Oper)) (v := ?vm2) rfl (by kernel_rfl) (by kernel_rfl) (by kernel_rfl) (fun _ _ _ h => h) (Or.inl ⟨by rfl, ?hym2⟩) (by assumption) ?restm2
                        case hym2 => (intro w hSw; (try dsimp only at hSw); go_simp; (try with_reducible rfl))
                        (try simp only [Act.put, List.setIfInBounds_toArray, List.set_cons_zero, List.set_cons_succ])
                        refine wpAnyH_take (i := 3) (oi := ({ dst := some 93, op := Go.Op.move (Go.Operand.tmp 92), type := 4, pos := "collect.go:66", after := #[{ on := 2, ground := Go.Ground.data }], guard := none } : Oper)) (v := ?vm3) rfl (by kernel_rfl) (by kernel_rfl) (by kernel_rfl) (fun _ _ _ h => h) (Or.inl ⟨by rfl, ?hym3⟩) (by assumption) ?restm3
                        case hym3 => (intro w hSw; (try dsimp only at hSw); go_simp; (try with_reducible rfl))
                        (try simp only [Act.put, List.setIfInBounds_toArray, List.set_cons_zero, List.set_cons_succ])
                        refine wpAnyH_take (i := 4) (oi := ({ dst := some 94, op := Go.Op.move (Go.Operand.tmp 12), type := 4, pos := "collect.go:66", after := #[{ on := 3, ground := Go.Ground.guard }], guard := some (3, true) } : Oper)) (v := ?vm4) rfl (by kernel_rfl) (by kernel_rfl) (by kernel_rfl) (fun _ _ _ h => h) (Or.inl ⟨by rfl, ?hym4⟩) (by assumption) ?restm4
                        case hym4 => (intro w hSw; (try dsimp only at hSw); go_simp; (try with_reducible rfl))
                        (try simp only [Act.put, List.setIfInBounds_toArray, List.set_cons_zero, List.set_cons_succ])
                        refine wpAnyH_take (i := 5) (oi := ({ dst := some 95, op := Go.Op.unOp Go.UnOp.not 4 (Go.Operand.tmp 94), type := 4, pos := "collect.go:66", after := #[{ on := 4, ground := Go.Ground.data }, { on := 3, ground := Go.Ground.guard }], guard := some (3, true) } : Oper)) (v := ?vm5) rfl (by kernel_rfl) (by kernel_rfl) (by kernel_rfl) (fun _ _ _ h => h) (Or.inl ⟨by rfl, ?hym5⟩) (by assumption) ?restm5
                        case hym5 => (intro w hSw; (try dsimp only at hSw); go_simp; (try with_reducible rfl))
                        (try simp only [Act.put, List.setIfInBounds_toArray, List.set_cons_zero, List.set_cons_succ])
                        refine wpAnyH_take (i := 6) (oi := ({ dst := some 96, op := Go.Op.pick (Go.Operand.tmp 93) (Go.Operand.tmp 95) (Go.Operand.const (Go.Value.bool false)), type := 4, pos := "collect.go:66", after := #[{ on := 3, ground := Go.Ground.data }, { on := 5, ground := Go.Ground.data }], guard := none } : Oper)) (v := ?vm6) rfl (by kernel_rfl) (by kernel_rfl) (by kernel_rfl) (fun _ _ _ h => h) (Or.inl ⟨by rfl, ?hym6⟩) (by assumption) ?restm6
                        case hym6 => (intro w hSw; (try dsimp only at hSw); go_simp; (try with_reducible rfl))
                        (try simp only [Act.put, List.setIfInBounds_toArray, List.set_cons_zero, List.set_cons_succ])
                        refine wpAnyH_take (i := 7) (oi := ({ dst := some 97, op := Go.Op.move (Go.Operand.tmp 96), type := 4, pos := "collect.go:66", after := #[{ on := 6, ground := Go.Ground.data }, { on := 3, ground := Go.Ground.chain }], guard := none } : Oper)) (v := ?vm7) rfl (by kernel_rfl) (by kernel_rfl) (by kernel_rfl) (fun _ _ _ h => h) (Or.inl ⟨by rfl, ?hym7⟩) (by assumption) ?restm7
                        case hym7 => (intro w hSw; (try dsimp only at hSw); go_simp; (try with_reducible rfl))
                        (try simp only [Act.put, List.setIfInBounds_toArray, List.set_cons_zero, List.set_cons_succ])
                        refine wpAnyH_take (i := 8) (oi := ({ dst := some 98, op := Go.Op.move (Go.Operand.tmp 13), type := 3, pos := "collect.go:66", after := #[{ on := 7, ground := Go.Ground.guard }], guard := some (7, true) } : Oper)) (v := ?vm8) rfl (by kernel_rfl) (by kernel_rfl) (by kernel_rfl) (fun _ _ _ h => h) (Or.inl ⟨by rfl, ?hym8⟩) (by assumption) ?restm8
                        case hym8 => (intro w hSw; (try dsimp only at hSw); go_simp; (try with_reducible rfl))
                        (try simp only [Act.put, List.setIfInBounds_toArray, List.set_cons_zero, List.set_cons_succ])
                        refine wpAnyH_take (i := 9) (oi := ({ dst := some 99, op := Go.Op.fieldAddr 80 (Go.Operand.tmp 9) 2, type := 0, pos := "collect.go:66", after := #[{ on := 7, ground := Go.Ground.guard }], guard := some (7, true) } : Oper)) (v := ?vm9) rfl (by kernel_rfl) (by kernel_rfl) (by kernel_rfl) (fun _ _ _ h => h) (Or.inl ⟨by rfl, ?hym9⟩) (by assumption) ?restm9
                        case hym9 => (intro w hSw; (try dsimp only at hSw); go_simp; (try with_reducible rfl))
                        (try simp only [Act.put, List.setIfInBounds_toArray, List.set_cons_zero, List.set_cons_succ])
                        refine wpAnyH_take (i := 10) (oi := ({ dst := some 100, op := Go.Op.load 3 (Go.Operand.tmp 99), type := 3, pos := "collect.go:66", after := #[{ on := 9, ground := Go.Ground.data }, { on := 7, ground := Go.Ground.guard }], guard := some (7, true) } : Oper)) (v := ?vm10) rfl (by kernel_rfl) (by kernel_rfl) (by kernel_rfl) (fun _ _ _ h => h) (Or.inl ⟨by rfl, ?hym10⟩) (by assumption) ?restm10
                        case hym10 => (intro w hSw; (try dsimp only at hSw); go_simp; (try with_reducible rfl))
                        (try simp only [Act.put, List.setIfInBounds_toArray, List.set_cons_zero, List.set_cons_succ])
                        refine wpAnyH_ready (rs := [11]) (by kernel_rfl) (by simp) ?_
                        refine AllReadyH.cons (o := ({ dst := some 101, op := Go.Op.call { callee := Go.Callee.value (Go.Operand.func 30), args := #[Go.Operand.tmp 100], argTypes := #[3] }, type := 3, pos := "collect.go:66", after := #[{ on := 10, ground := Go.Ground.data }, { on := 7, ground := Go.Ground.chain }, { on := 7, ground := Go.Ground.guard }], guard := some (7, true) } : Oper)) rfl (fun K hK => ?_) AllReadyH.nil
                        go_simp
                        go_at_call 30
                        refine (three_all _ _).mono ?_
                        rintro e w2 ⟨rfl, hb⟩
                        have H2 := Aside0.mk (below_next hHeld.2.out hb)
                        have HQ0 := Aside0.mk (HP3.out.move H2.out (Nat.le_refl _))
                        (try go_wp2_with fail)
                        refine hK.out _ _ (by exact ⟨⟨(blk_cell HQ0.out.op_ 0).trans rfl, (blk_cell HQ0.out.op_ 2).trans rfl, (blk_cell HQ0.out.op_ 3).trans rfl, HQ0.out.cell k hk3⟩, H2⟩) (fun hHeld => ?_)
                        clear hK K
                        (try simp only [Act.put, List.setIfInBounds_toArray, List.set_cons_zero, List.set_cons_succ])
                        refine wpAnyH_take (i := 12) (oi := ({ dst := some 102, op := Go.Op.binOp Go.BinOp.eql 3 (Go.Operand.tmp 98) (Go.Operand.tmp 101) 3, type := 4, pos := "collect.go:66", after := #[{ on := 8, ground := Go.Ground.data }, { on := 11, ground := Go.Ground.data }, { on := 7, ground := Go.Ground.guard }], guard := some (7, true) } : Oper)) (v := Value.bool true) rfl (by kernel_rfl) (by kernel_rfl) (by kernel_rfl) (fun _ _ _ h => h) (Or.inl ⟨by rfl, ?hym12⟩) (by assumption) ?restm12
                        case hym12 => (intro w hSw; (try dsimp only at hSw); go_simp; first | done | simp [e3])
                        (try simp only [Act.put, List.setIfInBounds_toArray, List.set_cons_zero, List.set_cons_succ])
                        refine wpAnyH_take (i := 13) (oi := ({ dst := some 103, op := Go.Op.pick (Go.Operand.tmp 97) (Go.Operand.tmp 102) (Go.Operand.const (Go.Value.bool false)), type := 4, pos := "collect.go:66", after := #[{ on := 7, ground := Go.Ground.data }, { on := 12, ground := Go.Ground.data }], guard := none } : Oper)) (v := ?vm13) rfl (by kernel_rfl) (by kernel_rfl) (by kernel_rfl) (fun _ _ _ h => h) (Or.inl ⟨by rfl, ?hym13⟩) (by assumption) ?restm13
                        case hym13 => (intro w hSw; (try dsimp only at hSw); go_simp; (try with_reducible rfl))
                        (try simp only [Act.put, List.setIfInBounds_toArray, List.set_cons_zero, List.set_cons_succ])
                        refine wpAnyH_take (i := 14) (oi := ({ dst := some 104, op := Go.Op.move (Go.Operand.tmp 103), type := 4, pos := "collect.go:66", after := #[{ on := 13, ground := Go.Ground.data }, { on := 11, ground := Go.Ground.chain }], guard := none } : Oper)) (v := ?vm14) rfl (by kernel_rfl) (by kernel_rfl) (by kernel_rfl) (fun _ _ _ h => h) (Or.inl ⟨by rfl, ?hym14⟩) (by assumption) ?restm14
                        case hym14 => (intro w hSw; (try dsimp only at hSw); go_simp; (try with_reducible rfl))
                        (try simp only [Act.put, List.setIfInBounds_toArray, List.set_cons_zero, List.set_cons_succ])
                        refine wpAnyH_take (i := 15) (oi := ({ dst := some 105, op := Go.Op.fieldAddr 80 (Go.Operand.tmp 9) 3, type := 0, pos := "collect.go:66", after := #[{ on := 14, ground := Go.Ground.guard }], guard := some (14, true) } : Oper)) (v := ?vm15) rfl (by kernel_rfl) (by kernel_rfl) (by kernel_rfl) (fun _ _ _ h => h) (Or.inl ⟨by rfl, ?hym15⟩) (by assumption) ?restm15
                        case hym15 => (intro w hSw; (try dsimp only at hSw); go_simp; (try with_reducible rfl))
                        (try simp only [Act.put, List.setIfInBounds_toArray, List.set_cons_zero, List.set_cons_succ])
                        refine wpAnyH_take (i := 16) (oi := ({ dst := some 106, op := Go.Op.load 3 (Go.Operand.tmp 105), type := 3, pos := "collect.go:66", after := #[{ on := 15, ground := Go.Ground.data }, { on := 14, ground := Go.Ground.guard }], guard := some (14, true) } : Oper)) (v := ?vm16) rfl (by kernel_rfl) (by kernel_rfl) (by kernel_rfl) (fun _ _ _ h => h) (Or.inl ⟨by rfl, ?hym16⟩) (by assumption) ?restm16
                        case hym16 => (intro w hSw; (try dsimp only at hSw); go_simp; (try with_reducible rfl))
                        (try simp only [Act.put, List.setIfInBounds_toArray, List.set_cons_zero, List.set_cons_succ])
                        refine wpAnyH_take (i := 17) (oi := ({ dst := some 107, op := Go.Op.binOp Go.BinOp.gtr 3 (Go.Operand.tmp 106) (Go.Operand.const (Go.Value.int Go.IntKind.i64 0)) 3, type := 4, pos := "collect.go:66", after := #[{ on := 16, ground := Go.Ground.data }, { on := 14, ground := Go.Ground.guard }], guard := some (14, true) } : Oper)) (v := Value.bool true) rfl (by kernel_rfl) (by kernel_rfl) (by kernel_rfl) (fun _ _ _ h => h) (Or.inl ⟨by rfl, ?hym17⟩) (by assumption) ?restm17
                        case hym17 => (intro w hSw; (try dsimp only at hSw); go_simp; first | done | omega)
                        (try simp only [Act.put, List.setIfInBounds_toArray, List.set_cons_zero, List.set_cons_succ])
                        refine wpAnyH_take (i := 18) (oi := ({ dst := some 108, op := Go.Op.pick (Go.Operand.tmp 104) (Go.Operand.tmp 107) (Go.Operand.const (Go.Value.bool false)), type := 4, pos := "collect.go:66", after := #[{ on := 14, ground := Go.Ground.data }, { on := 17, ground := Go.Ground.data }], guard := none } : Oper)) (v := ?vm18) rfl (by kernel_rfl) (by kernel_rfl) (by kernel_rfl) (fun _ _ _ h => h) (Or.inl ⟨by rfl, ?hym18⟩) (by assumption) ?restm18
                        case hym18 => (intro w hSw; (try dsimp only at hSw); go_simp; (try with_reducible rfl))
                        (try simp only [Act.put, List.setIfInBounds_toArray, List.set_cons_zero, List.set_cons_succ])
                        refine wpAnyH_take (i := 19) (oi := ({ dst := some 109, op := Go.Op.move (Go.Operand.tmp 108), type := 4, pos := "collect.go:66", after := #[{ on := 18, ground := Go.Ground.data }, { on := 14, ground := Go.Ground.chain }], guard := none } : Oper)) (v := ?vm19) rfl (by kernel_rfl) (by kernel_rfl) (by kernel_rfl) (fun _ _ _ h => h) (Or.inl ⟨by rfl, ?hym19⟩) (by assumption) ?restm19
                        case hym19 => (intro w hSw; (try dsimp only at hSw); go_simp; (try with_reducible rfl))
                        (try simp only [Act.put, List.setIfInBounds_toArray, List.set_cons_zero, List.set_cons_succ])
                        refine wpAnyH_take (i := 20) (oi := ({ dst := some 110, op := Go.Op.fieldAddr 80 (Go.Operand.tmp 9) 3, type := 0, pos := "collect.go:66", after := #[{ on := 19, ground := Go.Ground.guard }], guard := some (19, true) } : Oper)) (v := ?vm20) rfl (by kernel_rfl) (by kernel_rfl) (by kernel_rfl) (fun _ _ _ h => h) (Or.inl ⟨by rfl, ?hym20⟩) (by assumption) ?restm20
                        case hym20 => (intro w hSw; (try dsimp only at hSw); go_simp; (try with_reducible rfl))
                        (try simp only [Act.put, List.setIfInBounds_toArray, List.set_cons_zero, List.set_cons_succ])
                        refine wpAnyH_take (i := 21) (oi := ({ dst := some 111, op := Go.Op.load 3 (Go.Operand.tmp 110), type := 3, pos := "collect.go:66", after := #[{ on := 20, ground := Go.Ground.data }, { on := 19, ground := Go.Ground.guard }], guard := some (19, true) } : Oper)) (v := ?vm21) rfl (by kernel_rfl) (by kernel_rfl) (by kernel_rfl) (fun _ _ _ h => h) (Or.inl ⟨by rfl, ?hym21⟩) (by assumption) ?restm21
                        case hym21 => (intro w hSw; (try dsimp only at hSw); go_simp; (try with_reducible rfl))
                        (try simp only [Act.put, List.setIfInBounds_toArray, List.set_cons_zero, List.set_cons_succ])
                        refine wpAnyH_take (i := 22) (oi := ({ dst := some 112, op := Go.Op.move (Go.Operand.tmp 13), type := 3, pos := "collect.go:66", after := #[{ on := 19, ground := Go.Ground.guard }], guard := some (19, true) } : Oper)) (v := ?vm22) rfl (by kernel_rfl) (by kernel_rfl) (by kernel_rfl) (fun _ _ _ h => h) (Or.inl ⟨by rfl, ?hym22⟩) (by assumption) ?restm22
                        case hym22 => (intro w hSw; (try dsimp only at hSw); go_simp; (try with_reducible rfl))
                        (try simp only [Act.put, List.setIfInBounds_toArray, List.set_cons_zero, List.set_cons_succ])
                        refine wpAnyH_take (i := 23) (oi := ({ dst := some 113, op := Go.Op.indexAddr 81 (Go.Operand.tmp 10) (Go.Operand.tmp 112), type := 0, pos := "collect.go:66", after := #[{ on := 22, ground := Go.Ground.data }, { on := 19, ground := Go.Ground.guard }], guard := some (19, true) } : Oper)) (v := ?vm23) rfl (by kernel_rfl) (by kernel_rfl) (by kernel_rfl) (fun _ _ _ h => h) (Or.inl ⟨by rfl, ?hym23⟩) (by assumption) ?restm23
                        case hym23 => (intro w hSw; (try dsimp only at hSw); go_simp; (try with_reducible rfl))
                        (try simp only [Act.put, List.setIfInBounds_toArray, List.set_cons_zero, List.set_cons_succ])
                        refine wpAnyH_take (i := 24) (oi := ({ dst := some 114, op := Go.Op.load 34 (Go.Operand.tmp 113), type := 34, pos := "collect.go:66", after := #[{ on := 23, ground := Go.Ground.data }, { on := 19, ground := Go.Ground.guard }], guard := some (19, true) } : Oper)) (v := ?vm24) rfl (by kernel_rfl) (by kernel_rfl) (by kernel_rfl) (fun _ _ _ h => h) (Or.inl ⟨by rfl, ?hym24⟩) (by assumption) ?restm24
                        case hym24 => (intro w hSw; (try dsimp only at hSw); go_simp; (try with_reducible rfl))
                        (try simp only [Act.put, List.setIfInBounds_toArray, List.set_cons_zero, List.set_cons_succ])
                        refine wpAnyH_take (i := 25) (oi := ({ dst := some 115, op := Go.Op.call { callee := Go.Callee.builtin Go.Builtin.len, args := #[Go.Operand.tmp 114], argTypes := #[34] }, type := 3, pos := "collect.go:66", after := #[{ on := 24, ground := Go.Ground.data }, { on := 19, ground := Go.Ground.guard }], guard := some (19, true) } : Oper)) (v := ?vm25) rfl (by kernel_rfl) (by kernel_rfl) (by kernel_rfl) (fun _ _ _ h => h) (Or.inl ⟨by rfl, ?hym25⟩) (by assumption) ?restm25
                        case hym25 => (intro w hSw; (try dsimp only at hSw); go_simp; (try with_reducible rfl))
                        (try simp only [Act.put, List.setIfInBounds_toArray, List.set_cons_zero, List.set_cons_succ])
                        refine wpAnyH_take (i := 26) (oi := ({ dst := some 116, op := Go.Op.binOp Go.BinOp.lss 3 (Go.Operand.tmp 111) (Go.Operand.tmp 115) 3, type := 4, pos := "collect.go:66", after := #[{ on := 21, ground := Go.Ground.data }, { on := 25, ground := Go.Ground.data }, { on := 19, ground := Go.Ground.guard }], guard := some (19, true) } : Oper)) (v := Value.bool true) rfl (by kernel_rfl) (by kernel_rfl) (by kernel_rfl) (fun _ _ _ h => h) (Or.inl ⟨by rfl, ?hym26⟩) (by assumption) ?restm26
                        case hym26 => (intro w hSw; (try dsimp only at hSw); go_simp; first | done | omega)
                        (try simp only [Act.put, List.setIfInBounds_toArray, List.set_cons_zero, List.set_cons_succ])
                        refine wpAnyH_take (i := 27) (oi := ({ dst := some 117, op := Go.Op.pick (Go.Operand.tmp 109) (Go.Operand.tmp 116) (Go.Operand.const (Go.Value.bool false)), type := 4, pos := "collect.go:66", after := #[{ on := 19, ground := Go.Ground.data }, { on := 26, ground := Go.Ground.data }], guard := none } : Oper)) (v := ?vm27) rfl (by kernel_rfl) (by kernel_rfl) (by kernel_rfl) (fun _ _ _ h => h) (Or.inl ⟨by rfl, ?hym27⟩) (by assumption) ?restm27
                        case hym27 => (intro w hSw; (try dsimp only at hSw); go_simp; (try with_reducible rfl))
                        (try simp only [Act.put, List.setIfInBounds_toArray, List.set_cons_zero, List.set_cons_succ])
                        refine wpAnyH_done (by kernel_rfl) ?_ _
                        -- GIBM
                        have HQ1 := Aside0.mk (HP3.out.move hHeld.2.out (Nat.le_refl _))
                        have HB2 := Aside0.mk hHeld.2.out
                        clear hHeld hx0 hx2 hx3 hx4 H2 HQ0 e2 e3
                        go_wp2_with fail
                        have HK0 : Aside0 (w2.cell? ⟨bp, k, none⟩ = some (.pointer (some ⟨(d' k).g, 0, none⟩)) ∧ w2.cell? ⟨ga, 3, none⟩ = some (.int .i64 q)) := ⟨⟨HQ1.out.lp.cell k hk3, (blk_cell HQ1.out.op_ 3).trans rfl⟩⟩
                        go_region_held3 (fun w' => w'.cell? ⟨bp, k, none⟩ = some (.pointer (some ⟨(d' k).g, 0, none⟩)) ∧ w'.cell? ⟨ga, 3, none⟩ = some (.int .i64 q)) (first | exact HK1.out | exact HK0.out) (first | (go_at_call 25; refine (HMV.out _ HB2.out.drew).mono ?_; rintro e w3 ⟨rfl, hb⟩; have H3 := Aside0.mk (below_next (Below.refl w2.heap.size w2).drew hb); have HQ3 := Aside0.mk (HQ1.out.move H3.out (Nat.le_refl _)); have HK1 : Aside0 (w3.cell? ⟨bp, k, none⟩ = some (.pointer (some ⟨(d' k).g, 0, none⟩)) ∧ w3.cell? ⟨ga, 3, none⟩ = some (.int .i64 q)) := ⟨⟨HQ3.out.lp.cell k hk3, (blk_cell HQ3.out.op_ 3).trans rfl⟩⟩; clear hb))
                        go_wp2_with fail
                        refine (num.calls _ _).mono ?_
                        rintro e w4 ⟨rfl, rfl⟩
                        have HB4 := Aside0.mk (below_next HB2.out H3.out)
                        clear HK0 HK1 HMV
                        have hx4 := HQ3.out.cell k hk3
                        have hx3 : w4.cell? ⟨ga, 3, none⟩ = some (.int .i64 q) := (blk_cell HQ3.out.op_ 3).trans rfl
                        have HWG := Aside0.mk (HQ3.out.img k (Nat.le_refl _) hk3)
                        obtain ⟨old, hold⟩ : ∃ old, (words (d k).l)[q]? = some old := ⟨_, List.getElem?_eq_getElem (by have : used (d k).l = (words (d k).l).length := rfl; omega)⟩
                        have hkk := HWG.out.get q old hold
                        have hfz := HWG.out.frozen q
                        have hbk : ∃ cur : List Value, w4.heap[gs k]? = some (.cells cur.toArray 36 (0, 0)) := by
                          obtain ⟨cur, q1, _⟩ := HWG.out
                          exact ⟨cur, q1⟩
                        obtain ⟨cur, hbk⟩ := hbk
                        obtain ⟨ew, ec⟩ := HE1.out
                        go_wp2_with fail
                        go_still_tail 8, (by kernel_rfl)
                        change wpList _ _ _ _ _ w4.drew
                        have HD4 : Aside0 (Below w4.heap.size w4 w4.drew) := ⟨(Below.refl w4.heap.size w4).drew⟩
                        have HD5 : Aside0 (Below (w4.setCell ⟨gs k, q, none⟩ (.int .u64 (top : Int))).heap.size (w4.setCell ⟨gs k, q, none⟩ (.int .u64 (top : Int))) (w4.setCell ⟨gs k, q, none⟩ (.int .u64 (top : Int))).drew) := ⟨(Below.refl _ _).drew⟩
                        have HQ5 := Aside0.mk ((HQ3.out.put hk3 q (.int .u64 (top : Int))).move HD5.out (Nat.le_refl _))
                        have hx5 := HQ5.out.cell k hk3
                        have HWK := Aside0.mk ((HWG.out.set q (by have : used (d k).l = (words (d k).l).length := rfl; omega) top).below HD5.out)
                        have HWN5 := Aside0.mk (((HWN.out.below HB4.out).other HNG.out q (.int .u64 (top : Int))).below HD5.out)
                        go_wp2_with fail
                        refine (SamW.same_calls HWN5.out HWK.out (used (d k).l) (by rw [List.length_set]; rfl) (by rw [List.length_set]; exact HLN.out)).mono ?_
                        rintro e w14 ⟨rfl, hb⟩
                        have HQ := Aside0.mk (HQ5.out.move hb (Nat.le_refl _))
                        clear hb
                        go_wp2_with fail
                        exact ⟨⟨k + 1, by omega, by rw [Int.natCast_succ], HQ⟩, by simp only [intOf]; omega⟩
                      · have hq := After.words_same HA.out hk3 HKI.out hm
                        have HNE : Aside0 (K = 8 → r = false → k ≠ mod3 Sr) := ⟨fun h1 h2 h3 => by
                          subst h2
                          have hji : k ≠ mod3 Bk := fun h => HKI.out ⟨h, rfl⟩
                          obtain ⟨n0, o0, t0, q1, q2, _⟩ := HA.out.yes2 rfl (h3 ▸ hji) h1
                          have := place_pos (d (mod3 Sr)).l n0
                          have := place_lt q1
                          exact hm ⟨h1, rfl, h3, by omega, by rw [h3]; omega⟩⟩
                        clear hm
                        have HWN : Aside0 (WordsAt w13 gn cn (words (d k).l)) := ⟨by rw [← hq]; exact HN3.out⟩
                        have HLN : Aside0 ((words (d k).l).length ≤ 100000000000000) := ⟨by
                          obtain ⟨cw, cf, fs, q⟩ := HP3.out.lp.st.at_ k hk3 rfl
                          have q1 := q.fit
                          have q2 := q.sz1
                          rw [hq] at q1
                          have : used (d k).l = (words (d k).l).length := rfl
                          omega⟩
                        rw [hq]
                        clear hq HN3
                        have HSM := Aside0.mk (fun w' (hb : Below w13.heap.size w13 w') => SamW.same_calls (HWN.out.below hb) (HP3.out.img k (Nat.le_refl _) hk3 |>.below hb) (used (d k).l) rfl HLN.out)
                        have hx0 : w13.cell? ⟨ga, 0, none⟩ = some (.int .i64 K) := (blk_cell HP3.out.op_ 0).trans rfl
                        have hx2 : w13.cell? ⟨ga, 2, none⟩ = some (.int .i64 Sr) := (blk_cell HP3.out.op_ 2).trans rfl
                        have hx4 := HP3.out.cell k hk3
                        have hcs : (r = true ∧ k = mod3 Bk) ∨ (r = true ∧ k ≠ mod3 Bk) ∨ (r = false ∧ k ≠ mod3 Bk) := by
                          have := HKI.out
                          cases r with
                          | true => by_cases h : k = mod3 Bk; exact .inl ⟨rfl, h⟩; exact .inr (.inl ⟨rfl, h⟩)
                          | false => exact .inr (.inr ⟨rfl, fun h => this ⟨h, rfl⟩⟩)
                        clear HKI
                        by_cases k8 : K = 8
                        · have HNE2 := Aside0.mk (HNE.out k8)
                          subst k8
                          clear HNE
                          rcases hcs with ⟨rfl, e1⟩ | ⟨rfl, e1⟩ | ⟨rfl, e1⟩
                          · have e2 : ((k : Int) == (mod3 Bk : Int)) = true := by rw [e1]; simp
                            clear e1
                            go_wp2_with fail
                            go_quiet (fail)
                            go_wp2_with fail
                            refine (HSM.out _ (pw_below_drewN (Below.refl _ _) _)).mono ?_
                            rintro e w14 ⟨rfl, hb⟩
                            have HQ := Aside0.mk ((HP3.out.move (pw_below_drewN (Below.refl _ _) _) (Nat.le_refl k)).move hb (Nat.le_succ k))
                            clear hb
                            go_wp2_with fail
                            exact ⟨⟨k + 1, by omega, by rw [Int.natCast_succ], HQ⟩, by simp only [intOf]; omega⟩
                          · have e2 : ((k : Int) == (mod3 Bk : Int)) = false := beq_eq_false_iff_ne.2 (by omega)
                            clear e1
                            go_wp2_with fail
                            go_quiet (fail)
                            go_wp2_with fail
                            refine (HSM.out _ (pw_below_drewN (Below.refl _ _) _)).mono ?_
                            rintro e w14 ⟨rfl, hb⟩
                            have HQ := Aside0.mk ((HP3.out.move (pw_below_drewN (Below.refl _ _) _) (Nat.le_refl k)).move hb (Nat.le_succ k))
                            clear hb
                            go_wp2_with fail
                            exact ⟨⟨k + 1, by omega, by rw [Int.natCast_succ], HQ⟩, by simp only [intOf]; omega⟩
                          · have e2 : ((k : Int) == (mod3 Bk : Int)) = false := beq_eq_false_iff_ne.2 (by omega)
                            have hkj := HNE2.out rfl
                            have e3 : ((k : Int) == (mod3 Sr : Int)) = false := beq_eq_false_iff_ne.2 (by omega)
                            clear e1 HNE2 hkj
                            go_wp2_with fail
                            -- BIGC
                            refine wp_region_held_drew (S := (fun w' => (w'.cell? ⟨ga, 0, none⟩ = some (.int .i64 8) ∧ w'.cell? ⟨ga, 2, none⟩ = some (.int .i64 Sr)) ∧ Aside0 (Below w13.heap.size w13 w'))) (by kernel_rfl) (by exact ⟨⟨hx0, hx2⟩, ⟨(Below.refl _ _).drew⟩⟩) (fun hHeld => ?_)
                            refine wpAnyH_take (i := 0) (oi := ({ dst := some 90, op := Go.Op.fieldAddr 80 (Go.Operand.tmp 9) 0, type := 0, pos := "collect.go:66", after := #[], guard := none } : Oper)) (v := ?vc0) rfl (by kernel_rfl) (by kernel_rfl) (by kernel_rfl) (fun _ _ _ h => h) (Or.inl ⟨by rfl, ?hyc0⟩) (by assumption) ?restc0
                            case hyc0 => (intro w hSw; (try dsimp only at hSw); go_simp; (try with_reducible rfl))
                            (try simp only [Act.put, List.setIfInBounds_toArray, List.set_cons_zero, List.set_cons_succ])
                            refine wpAnyH_take (i := 1) (oi := ({ dst := some 91, op := Go.Op.load 3 (Go.Operand.tmp 90), type := 3, pos := "collect.go:66", after := #[{ on := 0, ground := Go.Ground.data }], guard := none } : Oper)) (v := ?vc1) rfl (by kernel_rfl) (by kernel_rfl) (by kernel_rfl) (fun _ _ _ h => h) (Or.inl ⟨by rfl, ?hyc1⟩) (by assumption) ?restc1
                            case hyc1 => (intro w hSw; (try dsimp only at hSw); go_simp; (try with_reducible rfl))
                            (try simp only [Act.put, List.setIfInBounds_toArray, List.set_cons_zero, List.set_cons_succ])
                            refine wpAnyH_take (i := 2) (oi := ({ dst := some 92, op := Go.Op.binOp Go.BinOp.eql 3 (Go.Operand.tmp 91) (Go.Operand.const (Go.Value.int Go.IntKind.i64 8)) 3, type := 4, pos := "collect.go:66", after := #[{ on := 1, ground := Go.Ground.data }], guard := none } : Oper)) (v := ?vc2) rfl (by kernel_rfl) (by kernel_rfl) (by kernel_rfl) (fun _ _ _ h => h) (Or.inl ⟨by rfl, ?hyc2⟩) (by assumption) ?restc2
                            case hyc2 => (intro w hSw; (try dsimp only at hSw); go_simp; (try with_reducible rfl))
                            (try simp only [Act.put, List.setIfInBounds_toArray, List.set_cons_zero, List.set_cons_succ])
                            refine wpAnyH_take (i := 3) (oi := ({ dst := some 93, op := Go.Op.move (Go.Operand.tmp 92), type := 4, pos := "collect.go:66", after := #[{ on := 2, ground := Go.Ground.data }], guard := none } : Oper)) (v := ?vc3) rfl (by kernel_rfl) (by kernel_rfl) (by kernel_rfl) (fun _ _ _ h => h) (Or.inl ⟨by rfl, ?hyc3⟩) (by assumption) ?restc3
                            case hyc3 => (intro w hSw; (try dsimp only at hSw); go_simp; (try with_reducible rfl))
                            (try simp only [Act.put, List.setIfInBounds_toArray, List.set_cons_zero, List.set_cons_succ])
                            refine wpAnyH_take (i := 4) (oi := ({ dst := some 94, op := Go.Op.move (Go.Operand.tmp 12), type := 4, pos := "collect.go:66", after := #[{ on := 3, ground := Go.Ground.guard }], guard := some (3, true) } : Oper)) (v := ?vc4) rfl (by kernel_rfl) (by kernel_rfl) (by kernel_rfl) (fun _ _ _ h => h) (Or.inl ⟨by rfl, ?hyc4⟩) (by assumption) ?restc4
                            case hyc4 => (intro w hSw; (try dsimp only at hSw); go_simp; (try with_reducible rfl))
                            (try simp only [Act.put, List.setIfInBounds_toArray, List.set_cons_zero, List.set_cons_succ])
                            refine wpAnyH_take (i := 5) (oi := ({ dst := some 95, op := Go.Op.unOp Go.UnOp.not 4 (Go.Operand.tmp 94), type := 4, pos := "collect.go:66", after := #[{ on := 4, ground := Go.Ground.data }, { on := 3, ground := Go.Ground.guard }], guard := some (3, true) } : Oper)) (v := ?vc5) rfl (by kernel_rfl) (by kernel_rfl) (by kernel_rfl) (fun _ _ _ h => h) (Or.inl ⟨by rfl, ?hyc5⟩) (by assumption) ?restc5
                            case hyc5 => (intro w hSw; (try dsimp only at hSw); go_simp; (try with_reducible rfl))
                            (try simp only [Act.put, List.setIfInBounds_toArray, List.set_cons_zero, List.set_cons_succ])
                            refine wpAnyH_take (i := 6) (oi := ({ dst := some 96, op := Go.Op.pick (Go.Operand.tmp 93) (Go.Operand.tmp 95) (Go.Operand.const (Go.Value.bool false)), type := 4, pos := "collect.go:66", after := #[{ on := 3, ground := Go.Ground.data }, { on := 5, ground := Go.Ground.data }], guard := none } : Oper)) (v := ?vc6) rfl (by kernel_rfl) (by kernel_rfl) (by kernel_rfl) (fun _ _ _ h => h) (Or.inl ⟨by rfl, ?hyc6⟩) (by assumption) ?restc6
                            case hyc6 => (intro w hSw; (try dsimp only at hSw); go_simp; (try with_reducible rfl))
                            (try simp only [Act.put, List.setIfInBounds_toArray, List.set_cons_zero, List.set_cons_succ])
                            refine wpAnyH_take (i := 7) (oi := ({ dst := some 97, op := Go.Op.move (Go.Operand.tmp 96), type := 4, pos := "collect.go:66", after := #[{ on := 6, ground := Go.Ground.data }, { on := 3, ground := Go.Ground.chain }], guard := none } : Oper)) (v := ?vc7) rfl (by kernel_rfl) (by kernel_rfl) (by kernel_rfl) (fun _ _ _ h => h) (Or.inl ⟨by rfl, ?hyc7⟩) (by assumption) ?restc7
                            case hyc7 => (intro w hSw; (try dsimp only at hSw); go_simp; (try with_reducible rfl))
                            (try simp only [Act.put, List.setIfInBounds_toArray, List.set_cons_zero, List.set_cons_succ])
                            refine wpAnyH_take (i := 8) (oi := ({ dst := some 98, op := Go.Op.move (Go.Operand.tmp 13), type := 3, pos := "collect.go:66", after := #[{ on := 7, ground := Go.Ground.guard }], guard := some (7, true) } : Oper)) (v := ?vc8) rfl (by kernel_rfl) (by kernel_rfl) (by kernel_rfl) (fun _ _ _ h => h) (Or.inl ⟨by rfl, ?hyc8⟩) (by assumption) ?restc8
                            case hyc8 => (intro w hSw; (try dsimp only at hSw); go_simp; (try with_reducible rfl))
                            (try simp only [Act.put, List.setIfInBounds_toArray, List.set_cons_zero, List.set_cons_succ])
                            refine wpAnyH_take (i := 9) (oi := ({ dst := some 99, op := Go.Op.fieldAddr 80 (Go.Operand.tmp 9) 2, type := 0, pos := "collect.go:66", after := #[{ on := 7, ground := Go.Ground.guard }], guard := some (7, true) } : Oper)) (v := ?vc9) rfl (by kernel_rfl) (by kernel_rfl) (by kernel_rfl) (fun _ _ _ h => h) (Or.inl ⟨by rfl, ?hyc9⟩) (by assumption) ?restc9
                            case hyc9 => (intro w hSw; (try dsimp only at hSw); go_simp; (try with_reducible rfl))
                            (try simp only [Act.put, List.setIfInBounds_toArray, List.set_cons_zero, List.set_cons_succ])
                            refine wpAnyH_take (i := 10) (oi := ({ dst := some 100, op := Go.Op.load 3 (Go.Operand.tmp 99), type := 3, pos := "collect.go:66", after := #[{ on := 9, ground := Go.Ground.data }, { on := 7, ground := Go.Ground.guard }], guard := some (7, true) } : Oper)) (v := ?vc10) rfl (by kernel_rfl) (by kernel_rfl) (by kernel_rfl) (fun _ _ _ h => h) (Or.inl ⟨by rfl, ?hyc10⟩) (by assumption) ?restc10
                            case hyc10 => (intro w hSw; (try dsimp only at hSw); go_simp; (try with_reducible rfl))
                            (try simp only [Act.put, List.setIfInBounds_toArray, List.set_cons_zero, List.set_cons_succ])
                            refine wpAnyH_ready (rs := [11]) (by kernel_rfl) (by simp) ?_
                            refine AllReadyH.cons (o := ({ dst := some 101, op := Go.Op.call { callee := Go.Callee.value (Go.Operand.func 30), args := #[Go.Operand.tmp 100], argTypes := #[3] }, type := 3, pos := "collect.go:66", after := #[{ on := 10, ground := Go.Ground.data }, { on := 7, ground := Go.Ground.chain }, { on := 7, ground := Go.Ground.guard }], guard := some (7, true) } : Oper)) rfl (fun K hK => ?_) AllReadyH.nil
                            go_simp
                            go_at_call 30
                            refine (three_all _ _).mono ?_
                            rintro e w2 ⟨rfl, hb⟩
                            have H2 := Aside0.mk (below_next hHeld.2.out hb)
                            have HQ0 := Aside0.mk (HP3.out.move H2.out (Nat.le_refl _))
                            (try go_wp2_with fail)
                            refine hK.out _ _ (by exact ⟨⟨(blk_cell HQ0.out.op_ 0).trans rfl, (blk_cell HQ0.out.op_ 2).trans rfl⟩, H2⟩) (fun hHeld => ?_)
                            clear hK K
                            (try simp only [Act.put, List.setIfInBounds_toArray, List.set_cons_zero, List.set_cons_succ])
                            refine wpAnyH_take (i := 12) (oi := ({ dst := some 102, op := Go.Op.binOp Go.BinOp.eql 3 (Go.Operand.tmp 98) (Go.Operand.tmp 101) 3, type := 4, pos := "collect.go:66", after := #[{ on := 8, ground := Go.Ground.data }, { on := 11, ground := Go.Ground.data }, { on := 7, ground := Go.Ground.guard }], guard := some (7, true) } : Oper)) (v := Value.bool false) rfl (by kernel_rfl) (by kernel_rfl) (by kernel_rfl) (fun _ _ _ h => h) (Or.inl ⟨by rfl, ?hyc12⟩) (by assumption) ?restc12
                            case hyc12 => (intro w hSw; (try dsimp only at hSw); go_simp; first | done | simp [e3])
                            (try simp only [Act.put, List.setIfInBounds_toArray, List.set_cons_zero, List.set_cons_succ])
                            refine wpAnyH_take (i := 13) (oi := ({ dst := some 103, op := Go.Op.pick (Go.Operand.tmp 97) (Go.Operand.tmp 102) (Go.Operand.const (Go.Value.bool false)), type := 4, pos := "collect.go:66", after := #[{ on := 7, ground := Go.Ground.data }, { on := 12, ground := Go.Ground.data }], guard := none } : Oper)) (v := ?vc13) rfl (by kernel_rfl) (by kernel_rfl) (by kernel_rfl) (fun _ _ _ h => h) (Or.inl ⟨by rfl, ?hyc13⟩) (by assumption) ?restc13
                            case hyc13 => (intro w hSw; (try dsimp only at hSw); go_simp; (try with_reducible rfl))
                            (try simp only [Act.put, List.setIfInBounds_toArray, List.set_cons_zero, List.set_cons_succ])
                            refine wpAnyH_take (i := 14) (oi := ({ dst := some 104, op := Go.Op.move (Go.Operand.tmp 103), type := 4, pos := "collect.go:66", after := #[{ on := 13, ground := Go.Ground.data }, { on := 11, ground := Go.Ground.chain }], guard := none } : Oper)) (v := ?vc14) rfl (by kernel_rfl) (by kernel_rfl) (by kernel_rfl) (fun _ _ _ h => h) (Or.inl ⟨by rfl, ?hyc14⟩) (by assumption) ?restc14
                            case hyc14 => (intro w hSw; (try dsimp only at hSw); go_simp; (try with_reducible rfl))
                            (try simp only [Act.put, List.setIfInBounds_toArray, List.set_cons_zero, List.set_cons_succ])
                            refine wpAnyH_take (i := 15) (oi := ({ dst := some 105, op := Go.Op.fieldAddr 80 (Go.Operand.tmp 9) 3, type := 0, pos := "collect.go:66", after := #[{ on := 14, ground := Go.Ground.guard }], guard := some (14, true) } : Oper)) (v := undef) rfl (by kernel_rfl) (by kernel_rfl) (by kernel_rfl) (fun _ _ _ h => h) (Or.inr ⟨by rfl, rfl⟩) (by assumption) ?_
                            (try simp only [Act.put, List.setIfInBounds_toArray, List.set_cons_zero, List.set_cons_succ])
                            refine wpAnyH_take (i := 16) (oi := ({ dst := some 106, op := Go.Op.load 3 (Go.Operand.tmp 105), type := 3, pos := "collect.go:66", after := #[{ on := 15, ground := Go.Ground.data }, { on := 14, ground := Go.Ground.guard }], guard := some (14, true) } : Oper)) (v := undef) rfl (by kernel_rfl) (by kernel_rfl) (by kernel_rfl) (fun _ _ _ h => h) (Or.inr ⟨by rfl, rfl⟩) (by assumption) ?_
                            (try simp only [Act.put, List.setIfInBounds_toArray, List.set_cons_zero, List.set_cons_succ])
                            refine wpAnyH_take (i := 17) (oi := ({ dst := some 107, op := Go.Op.binOp Go.BinOp.gtr 3 (Go.Operand.tmp 106) (Go.Operand.const (Go.Value.int Go.IntKind.i64 0)) 3, type := 4, pos := "collect.go:66", after := #[{ on := 16, ground := Go.Ground.data }, { on := 14, ground := Go.Ground.guard }], guard := some (14, true) } : Oper)) (v := undef) rfl (by kernel_rfl) (by kernel_rfl) (by kernel_rfl) (fun _ _ _ h => h) (Or.inr ⟨by rfl, rfl⟩) (by assumption) ?_
                            (try simp only [Act.put, List.setIfInBounds_toArray, List.set_cons_zero, List.set_cons_succ])
                            refine wpAnyH_take (i := 18) (oi := ({ dst := some 108, op := Go.Op.pick (Go.Operand.tmp 104) (Go.Operand.tmp 107) (Go.Operand.const (Go.Value.bool false)), type := 4, pos := "collect.go:66", after := #[{ on := 14, ground := Go.Ground.data }, { on := 17, ground := Go.Ground.data }], guard := none } : Oper)) (v := ?vc18) rfl (by kernel_rfl) (by kernel_rfl) (by kernel_rfl) (fun _ _ _ h => h) (Or.inl ⟨by rfl, ?hyc18⟩) (by assumption) ?restc18
                            case hyc18 => (intro w hSw; (try dsimp only at hSw); go_simp; (try with_reducible rfl))
                            (try simp only [Act.put, List.setIfInBounds_toArray, List.set_cons_zero, List.set_cons_succ])
                            refine wpAnyH_take (i := 19) (oi := ({ dst := some 109, op := Go.Op.move (Go.Operand.tmp 108), type := 4, pos := "collect.go:66", after := #[{ on := 18, ground := Go.Ground.data }, { on := 14, ground := Go.Ground.chain }], guard := none } : Oper)) (v := ?vc19) rfl (by kernel_rfl) (by kernel_rfl) (by kernel_rfl) (fun _ _ _ h => h) (Or.inl ⟨by rfl, ?hyc19⟩) (by assumption) ?restc19
                            case hyc19 => (intro w hSw; (try dsimp only at hSw); go_simp; (try with_reducible rfl))
                            (try simp only [Act.put, List.setIfInBounds_toArray, List.set_cons_zero, List.set_cons_succ])
                            refine wpAnyH_take (i := 20) (oi := ({ dst := some 110, op := Go.Op.fieldAddr 80 (Go.Operand.tmp 9) 3, type := 0, pos := "collect.go:66", after := #[{ on := 19, ground := Go.Ground.guard }], guard := some (19, true) } : Oper)) (v := undef) rfl (by kernel_rfl) (by kernel_rfl) (by kernel_rfl) (fun _ _ _ h => h) (Or.inr ⟨by rfl, rfl⟩) (by assumption) ?_
                            (try simp only [Act.put, List.setIfInBounds_toArray, List.set_cons_zero, List.set_cons_succ])
                            refine wpAnyH_take (i := 21) (oi := ({ dst := some 111, op := Go.Op.load 3 (Go.Operand.tmp 110), type := 3, pos := "collect.go:66", after := #[{ on := 20, ground := Go.Ground.data }, { on := 19, ground := Go.Ground.guard }], guard := some (19, true) } : Oper)) (v := undef) rfl (by kernel_rfl) (by kernel_rfl) (by kernel_rfl) (fun _ _ _ h => h) (Or.inr ⟨by rfl, rfl⟩) (by assumption) ?_
                            (try simp only [Act.put, List.setIfInBounds_toArray, List.set_cons_zero, List.set_cons_succ])
                            refine wpAnyH_take (i := 22) (oi := ({ dst := some 112, op := Go.Op.move (Go.Operand.tmp 13), type := 3, pos := "collect.go:66", after := #[{ on := 19, ground := Go.Ground.guard }], guard := some (19, true) } : Oper)) (v := undef) rfl (by kernel_rfl) (by kernel_rfl) (by kernel_rfl) (fun _ _ _ h => h) (Or.inr ⟨by rfl, rfl⟩) (by assumption) ?_
                            (try simp only [Act.put, List.setIfInBounds_toArray, List.set_cons_zero, List.set_cons_succ])
                            refine wpAnyH_take (i := 23) (oi := ({ dst := some 113, op := Go.Op.indexAddr 81 (Go.Operand.tmp 10) (Go.Operand.tmp 112), type := 0, pos := "collect.go:66", after := #[{ on := 22, ground := Go.Ground.data }, { on := 19, ground := Go.Ground.guard }], guard := some (19, true) } : Oper)) (v := undef) rfl (by kernel_rfl) (by kernel_rfl) (by kernel_rfl) (fun _ _ _ h => h) (Or.inr ⟨by rfl, rfl⟩) (by assumption) ?_
                            (try simp only [Act.put, List.setIfInBounds_toArray, List.set_cons_zero, List.set_cons_succ])
                            refine wpAnyH_take (i := 24) (oi := ({ dst := some 114, op := Go.Op.load 34 (Go.Operand.tmp 113), type := 34, pos := "collect.go:66", after := #[{ on := 23, ground := Go.Ground.data }, { on := 19, ground := Go.Ground.guard }], guard := some (19, true) } : Oper)) (v := undef) rfl (by kernel_rfl) (by kernel_rfl) (by kernel_rfl) (fun _ _ _ h => h) (Or.inr ⟨by rfl, rfl⟩) (by assumption) ?_
                            (try simp only [Act.put, List.setIfInBounds_toArray, List.set_cons_zero, List.set_cons_succ])
                            refine wpAnyH_take (i := 25) (oi := ({ dst := some 115, op := Go.Op.call { callee := Go.Callee.builtin Go.Builtin.len, args := #[Go.Operand.tmp 114], argTypes := #[34] }, type := 3, pos := "collect.go:66", after := #[{ on := 24, ground := Go.Ground.data }, { on := 19, ground := Go.Ground.guard }], guard := some (19, true) } : Oper)) (v := undef) rfl (by kernel_rfl) (by kernel_rfl) (by kernel_rfl) (fun _ _ _ h => h) (Or.inr ⟨by rfl, rfl⟩) (by assumption) ?_
                            (try simp only [Act.put, List.setIfInBounds_toArray, List.set_cons_zero, List.set_cons_succ])
                            refine wpAnyH_take (i := 26) (oi := ({ dst := some 116, op := Go.Op.binOp Go.BinOp.lss 3 (Go.Operand.tmp 111) (Go.Operand.tmp 115) 3, type := 4, pos := "collect.go:66", after := #[{ on := 21, ground := Go.Ground.data }, { on := 25, ground := Go.Ground.data }, { on := 19, ground := Go.Ground.guard }], guard := some (19, true) } : Oper)) (v := undef) rfl (by kernel_rfl) (by kernel_rfl) (by kernel_rfl) (fun _ _ _ h => h) (Or.inr ⟨by rfl, rfl⟩) (by assumption) ?_
                            (try simp only [Act.put, List.setIfInBounds_toArray, List.set_cons_zero, List.set_cons_succ])
                            refine wpAnyH_take (i := 27) (oi := ({ dst := some 117, op := Go.Op.pick (Go.Operand.tmp 109) (Go.Operand.tmp 116) (Go.Operand.const (Go.Value.bool false)), type := 4, pos := "collect.go:66", after := #[{ on := 19, ground := Go.Ground.data }, { on := 26, ground := Go.Ground.data }], guard := none } : Oper)) (v := ?vc27) rfl (by kernel_rfl) (by kernel_rfl) (by kernel_rfl) (fun _ _ _ h => h) (Or.inl ⟨by rfl, ?hyc27⟩) (by assumption) ?restc27
                            case hyc27 => (intro w hSw; (try dsimp only at hSw); go_simp; (try with_reducible rfl))
                            (try simp only [Act.put, List.setIfInBounds_toArray, List.set_cons_zero, List.set_cons_succ])
                            refine wpAnyH_done (by kernel_rfl) ?_ _
                            -- GIBC
                            have HQ1 := Aside0.mk (HP3.out.move hHeld.2.out (Nat.le_refl _))
                            have hx5 := HQ1.out.cell k hk3
                            have HSM2 := Aside0.mk (HSM.out w2 hHeld.2.out)
                            clear hHeld hx0 hx2 hx4 H2 HQ0 HSM
                            go_wp2_with fail
                            refine HSM2.out.mono ?_
                            rintro e w14 ⟨rfl, hb⟩
                            have HQ := Aside0.mk (HQ1.out.move hb (Nat.le_succ k))
                            clear hb
                            go_wp2_with fail
                            exact ⟨⟨k + 1, by omega, by rw [Int.natCast_succ], HQ⟩, by simp only [intOf]; omega⟩
                        · have k8' : (K == 8) = false := beq_eq_false_iff_ne.2 k8
                          clear k8 HNE
                          rcases hcs with ⟨rfl, e1⟩ | ⟨rfl, e1⟩ | ⟨rfl, e1⟩
                          · have e2 : ((k : Int) == (mod3 Bk : Int)) = true := by rw [e1]; simp
                            clear e1
                            go_wp2_with fail
                            go_quiet (fail)
                            go_wp2_with fail
                            refine (HSM.out _ (pw_below_drewN (Below.refl _ _) _)).mono ?_
                            rintro e w14 ⟨rfl, hb⟩
                            have HQ := Aside0.mk ((HP3.out.move (pw_below_drewN (Below.refl _ _) _) (Nat.le_refl k)).move hb (Nat.le_succ k))
                            clear hb
                            go_wp2_with fail
                            exact ⟨⟨k + 1, by omega, by rw [Int.natCast_succ], HQ⟩, by simp only [intOf]; omega⟩
                          · have e2 : ((k : Int) == (mod3 Bk : Int)) = false := beq_eq_false_iff_ne.2 (by omega)
                            clear e1
                            go_wp2_with fail
                            go_quiet (fail)
                            go_wp2_with fail
                            refine (HSM.out _ (pw_below_drewN (Below.refl _ _) _)).mono ?_
                            rintro e w14 ⟨rfl, hb⟩
                            have HQ := Aside0.mk ((HP3.out.move (pw_below_drewN (Below.refl _ _) _) (Nat.le_refl k)).move hb (Nat.le_succ k))
                            clear hb
                            go_wp2_with fail
                            exact ⟨⟨k + 1, by omega, by rw [Int.natCast_succ], HQ⟩, by simp only [intOf]; omega⟩
                          · have e2 : ((k : Int) == (mod3 Bk : Int)) = false := beq_eq_false_iff_ne.2 (by omega)
                            clear e1
                            go_wp2_with fail
                            go_quiet (fail)
                            go_wp2_with fail
                            refine (HSM.out _ (pw_below_drewN (Below.refl _ _) _)).mono ?_
                            rintro e w14 ⟨rfl, hb⟩
                            have HQ := Aside0.mk ((HP3.out.move (pw_below_drewN (Below.refl _ _) _) (Nat.le_refl k)).move hb (Nat.le_succ k))
                            clear hb
                            go_wp2_with fail
                            exact ⟨⟨k + 1, by omega, by rw [Int.natCast_succ], HQ⟩, by simp only [intOf]; omega⟩
                  · obtain rfl : k = 3 := by omega
                    go_wp2_with fail
                    first | exact ⟨⟨n + 1, d', by omega, by rw [Int.natCast_succ], ⟨HP.out.lp⟩⟩, by simp only [intOf]; omega⟩ | ((repeat apply Exists.intro); exact ⟨⟨n + 1, d', by omega, by rw [Int.natCast_succ], ⟨HP.out.lp⟩⟩, rfl⟩) | (refine ⟨?_, ?_⟩; (repeat apply Exists.intro); exact ⟨⟨n + 1, d', by omega, by rw [Int.natCast_succ], ⟨HP.out.lp⟩⟩, rfl⟩; show ls.length - (intOf (.int .i64 ((n : Int) + 1))).toNat < ls.length - (intOf (.int .i64 (n : Int))).toNat; simp only [intOf]; omega)
          · have h4' : ¬ ((n : Int) < 4096) := by omega
            have HB := Aside0.mk HL.out.below
            clear h4 HL HC HG
            go_wp2_with fail
            go_ret
            exact ⟨rfl, HB.out⟩
        · have hlt' : ¬ ((n : Int) < ls.length) := by omega
          have HB := Aside0.mk HL.out.below
          clear hlt HL HC HG
          go_wp2_with fail
          go_ret
          exact ⟨rfl, HB.out⟩
end Go.Proofs.Ytgjcffjicbmkhaa.RfdW
end

section
/- ArenaRefused: for every argument that can be read. -/
namespace Go.Proofs.Ytgjcffjicbmkhaa.RfdL
open Go Go.RowKit Go.Proofs.YtgjcffjicbmkhaaW.PrintWords Go.Proofs.Ytgjcffjicbmkhaa.PF Go.Proofs.Ytgjcffjicbmkhaa.BytO Go.Proofs.Ytgjcffjicbmkhaa.OpO
theorem walk (y : (Int × Int × Int) × List (Int × Int × Int × Int × Int × Int × Int × List Int)) (ca : Array Value) (W : World) (hK : kThr.K W y ca.toList) (hg : gThr y) :
    Calls Try.prog 7 #[.agg ca] W fun e w' => e = .returned (.bool true) ∧ Below W.heap.size W w' := by
  obtain ⟨⟨s0, s1, s2⟩, ls⟩ := y
  obtain ⟨c1, c2, hca, ⟨d1, d2, rfl, h0, e1, e2, rfl, h1, h2⟩, ⟨A, n, rfl, hn, hC⟩⟩ := hK
  obtain rfl : d1 = [.int .i64 s0] := h0
  obtain rfl : e1 = [.int .i64 s1] := h1
  obtain rfl : e2 = [.int .i64 s2] := h2
  obtain rfl : ca = #[.int .i64 s0, .int .i64 s1, .int .i64 s2, .slice A ls.length n] := by cases ca; simp_all
  have h3 := hg.2.1
  exact RfdW.refused_law.calls s0 s1 s2 ls A n W hC hn (by simp only at h3; omega) (fun x hx => hg.2.2 x hx)
end Go.Proofs.Ytgjcffjicbmkhaa.RfdL
end

section
/- The law ArenaRefused as its given statement says it: for every argument that can be read as data the call returns true, and what the argument leads to reads as before. No condition. -/
namespace Go.Proofs.Ytgjcffjicbmkhaa.LawArenaRefused
open Go.ChangeShapes Go.WideShapes Go.ChangeAt Go.RowKit
open Go.ChangeMaps (open_string shut_string)
theorem own : ownKnob Try.prog.godebug = none := by kernel_rfl
theorem laidOut : laidOutB Try.prog = true := by kernel_rfl
set_option maxRecDepth 100000 in
theorem lifted (os : Os) (started : os.Started) (H : Type) (enc : TypeId × Value → H) :
    ReturnsInHanded {} Try.checked os 7 .any (Rows.arenaRefusedSpec.pre6 enc Try.prog Try.f7 Rows.arenaRefusedRow.domain false) (Rows.arenaRefusedSpec.post enc Try.prog Try.f7 false true false false) := by
  refine returnsInHanded_of_change_sized (C := Try.checked) own started (by kernel_rfl) Try.func7
    (ChangeSpec.witness6 (enc := enc) (C := Try.checked) false ⟨#[], #[.agg #[.int .i64 0, .int .i64 0, .int .i64 0, .slice none 0 0]], []⟩ 8 (by kernel_rfl) (by kernel_rfl) (by kernel_rfl) (by kernel_rfl)) ?_
  intro W base args ds gs before hval0 hW _ hsz0 _
  have hsz : (DataW.weightsEach Try.prog (Try.f7.params.toList ++ Rows.arenaRefusedSpec.plain.varTypes Try.prog) (ds ++ gs)).all (· ≤ reachBytes) = true := hsz0
  have hval : ∀ (j : Nat) t v, Try.f7.params[j]? = some t → args[j]? = some v → Value.okWide Try.prog W .any base t v := hval0
  have hW' := hW
  obtain ⟨p, q, hA0, hV, rfl, _, _⟩ := hW
  have hA : DataW.TrodAll enc Try.prog W 0 (fun _ => true) true Try.f7.params.toList args.toList ds p := hA0
  rw [Try.params7] at hA hval hsz
  obtain ⟨v0, vs0, d0, ds0, p0, q0, hargs, rfl, rfl, h0, r0⟩ := trodAll_cons hA
  obtain ⟨rfl, rfl, rfl⟩ := trodAll_nil r0
  obtain rfl : args = #[v0] := by cases args; simp_all
  obtain ⟨rfl, rfl⟩ := trodVars_none hV
  have k0 := h0
  have lt0 : ∀ x ∈ p0, x.block < W.heap.size := by obtain ⟨m, hm⟩ := k0; exact DataW.trod_lt m _ _ _ hm
  obtain ⟨y, hK, hg⟩ := Open.open_arg OpO.o_thr hsz (j := 0) rfl rfl h0
  obtain ⟨ca, rfl, _⟩ := okWide_struct Try.underlying76 (hval 0 _ v0 rfl rfl)
  clear hA0 hval0 hsz0 hsz
  refine (RfdL.walk y ca W hK hg).mono fun e W' ⟨he, bel⟩ => ?_
  subst he
  exact ⟨_, rfl, _, _, _, [], _, [], hW', trodAll_mk1 (shut_bool Try.underlying4 _), (trodAll_cons_mk (Below.trod laidOut (by kernel_rfl) (of_decide_eq_true (by kernel_rfl)) k0 bel lt0) trodAll_mk0), rfl, bel.frame _, fun h => by cases h⟩
theorem over : Rows.arenaRefusedRow.holds Try.pinned (OpenSpec.ofChange Rows.arenaRefusedSpec) :=
  OpenClaim.holds_of_wide 7 Try.f7 rfl rfl rfl rfl rfl rfl rfl ⟨rfl, rfl, rfl, rfl, rfl⟩ rfl rfl rfl rfl rfl (by kernel_rfl) Try.func7 (by kernel_rfl)
    (of_decide_eq_true (by kernel_rfl)) (by unfold Func.isWrapper; first | (rw [if_pos (by decide +kernel)]; kernel_rfl) | (rw [if_neg (by decide +kernel)]; exact ⟨rfl, rfl⟩))
    (fun os started H enc _ => lifted os started H enc)
theorem proved : Rows.ArenaRefusedSaid := over
#print axioms proved
end Go.Proofs.Ytgjcffjicbmkhaa.LawArenaRefused
namespace Go.Proofs.Ytgjcffjicbmkhaa
/-- The row, under a short name, for the claim. -/
theorem arenaRefused_holds : Rows.ArenaRefusedSaid := LawArenaRefused.proved
end Go.Proofs.Ytgjcffjicbmkhaa
end
