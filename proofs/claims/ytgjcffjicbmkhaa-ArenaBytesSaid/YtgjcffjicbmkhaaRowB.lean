/- larderlaw2.rowBytes walked: an object whose bytes are those of a row. -/
import Derived.Test.YtgjcffjicbmkhaaArC
import Derived.Test.YtgjcffjicbmkhaaPFx16
namespace Go.Proofs.Ytgjcffjicbmkhaa.RowB
open Go Go.RowKit Go.Proofs.YtgjcffjicbmkhaaW.PrintWords Go.Proofs.YtgjcffjicbmkhaaW.PrintLast Go.Proofs.YtgjcffjicbmkhaaW.PrintMore Go.Proofs.Ytgjcffjicbmkhaa.PF Go.Proofs.Ytgjcffjicbmkhaa.RowU Go.Proofs.Ytgjcffjicbmkhaa.ArS Go.Proofs.Ytgjcffjicbmkhaa.ArM Go.Proofs.Ytgjcffjicbmkhaa.ArW Go.Proofs.Ytgjcffjicbmkhaa.ArX Go.Proofs.Ytgjcffjicbmkhaa.ArY Go.Proofs.Ytgjcffjicbmkhaa.ArZ Go.Proofs.Ytgjcffjicbmkhaa.GenM Go.Proofs.Ytgjcffjicbmkhaa.ArV Go.Proofs.Ytgjcffjicbmkhaa.ArB Go.Proofs.Ytgjcffjicbmkhaa.ArC
set_option linter.unusedVariables false
set_option maxRecDepth 100000

/-- n bytes from one on, as whole numbers. -/
def intsOf (f : Nat → Nat) (from_ n : Nat) : List Int := (List.range n).map fun j => (f (from_ + j) : Int)
theorem intsOf_len (f : Nat → Nat) (from_ n : Nat) : (intsOf f from_ n).length = n := by simp [intsOf]
theorem reads_of {W : World} {g cap m : Nat} {f : Nat → Nat} (h : GenAt 5 W g cap (bytesV f m m)) (off n : Nat) (hn : off + n ≤ m) (hm : m ≤ 100000000) (A : Option Addr) (hA : 0 < n → A = some ⟨g, off, none⟩) : Kd.C (Kd.int .u8) W A (intsOf f off n).length (intsOf f off n) := by
  rw [intsOf_len]
  refine ⟨intsOf_len f off n, by omega, fun h0 => ⟨_, hA h0, fun j p hp => ⟨[.int .u8 p], rfl, rfl, fun i u hu => ?_⟩⟩⟩
  have hjn : j < n := by have := (List.getElem?_eq_some_iff.1 hp).1; rw [intsOf_len] at this; exact this
  have hp2 : p = (f (off + j) : Int) := by
    unfold intsOf at hp
    rw [List.getElem?_map, List.getElem?_range hjn] at hp
    exact (Option.some.inj hp).symm
  cases i with
  | zero =>
    simp at hu
    subst hu
    have := h.get (off + j) _ (bytesV_get f m m (off + j) (by omega))
    rw [if_pos (by omega)] at this
    rw [hp2, Addr.add_lit, show (Kd.int IntKind.u8).sz = 1 from rfl]
    simpa using this
  | succ i => simp at hu
theorem same_calls (l : List Int) (A0 A1 : Option Addr) (c0 c1 n : Nat) (hl : l.length = n) (w : World) (h0 : Kd.C (Kd.int .u8) w A0 l.length l) (h1 : Kd.C (Kd.int .u8) w A1 l.length l) (hc0 : n ≤ c0) (hc1 : n ≤ c1) :
    Calls Try.prog 45 #[.slice A0 n c0, .slice A1 n c1] w fun e w' => e = .returned (.bool true) ∧ Below w.heap.size w w' := by
  subst hl
  exact (larderlaw2_sameBytes.calls A0 c0 l A1 c1 l true w h0 hc0 h1 hc1 (by unfold larderlaw2_sameBytes.f; simp)).mono fun e w' ⟨he, hd⟩ => ⟨he, hd.below⟩
/-- One step of joining bytes. -/
theorem join_step (x i : Nat) (hx : x < 18446744073709551616) (hi : i < 8) : bits BinOp.or IntKind.u64 (IntKind.u64.wrap (((x / 2 ^ (8 * (i + 1)) : Nat) : Int) * 256)) ((NumB.byteAt x (8 * i) : Nat) : Int) = ((x / 2 ^ (8 * i) : Nat) : Int) := by
  have hp : 2 ^ (8 * (i + 1)) = 256 * 2 ^ (8 * i) := by rw [show 8 * (i + 1) = 8 + 8 * i by omega, Nat.pow_add]
  have hb := NumB.byte_lt x (8 * i)
  have h1 : x / 2 ^ (8 * (i + 1)) = x / 2 ^ (8 * i) / 256 := by rw [hp, Nat.mul_comm, ← Nat.div_div_eq_div_mul]
  have h2 : x / 2 ^ (8 * i) < 18446744073709551616 := Nat.lt_of_le_of_lt (Nat.div_le_self _ _) hx
  unfold NumB.byteAt at *
  rw [h1]
  generalize x / 2 ^ (8 * i) = y at *
  rw [show IntKind.u64.wrap (((y / 256 : Nat) : Int) * 256) = ((y / 256 * 256 : Nat) : Int) by rw [IntKind.wrap_u64]; omega]
  rw [NumA.or_u64 8 ((y / 256 * 256 : Nat) : Int) ((y % 256 : Nat) : Int) (by omega) (by rw [show (2 : Int) ^ 8 = 256 from rfl]; omega) (by omega) (by omega) (by rw [show (2 : Int) ^ 8 = 256 from rfl]; omega) (by omega)]
  omega
/-- What rowBytes is handed. -/
structure RowSt (W0 wr : World) (g gw gf sz gr m : Nat) (l : List Ob) (o : Ob) : Prop where
  ar : ArAt wr g gw gf sz l
  row : GenAt 5 wr gr m (bytesV (Ob.byte o) m m)
  below : Below W0.heap.size W0 wr
theorem RowSt.move {W0 wr w' : World} {g gw gf sz gr m : Nat} {l : List Ob} {o : Ob} (h : RowSt W0 wr g gw gf sz gr m l o) (hb : Below wr.heap.size wr w') : RowSt W0 w' g gw gf sz gr m l o :=
  ⟨h.ar.below hb, h.row.upd (S := none_) (Upd.of_below hb) (fun h => h), below_next h.below hb⟩
set_option maxHeartbeats 8000000 in
theorem rowBytes.calls {W : World} {g gw gf sz gr : Nat} {l : List Ob} {k : Nat} {o : Ob} (p r s m cut : Nat) (hS : RowSt W W g gw gf sz gr m l o) (h : l[k]? = some o) (hg : o.gone = none) (hp : p = place l k) (h1 : o.refs = r) (h2 : o.fields.length = r + s) (hs48 : s ≤ 100) (hm : m = 8 * s) (hcut : cut ≤ m) :
    Calls Try.prog 27 #[.pointer (some ⟨g, 0, none⟩), .int .i64 (p : Int), .int .i64 (r : Int), .slice (some ⟨gr, 0, none⟩) m m, .int .i64 (cut : Int)] W fun e w' => e = .returned (.bool true) ∧ Below W.heap.size W w' := by
  have HBy := Aside0.mk (fun (W2 : World) (hA : ArAt W2 g gw gf sz l) (f n : Nat) (hn : f + n ≤ 8 * s) => bytes.yes hA h hg p hp r s h1 h2 f n hn)
  have HGet := Aside0.mk (fun (W2 : World) (hA : ArAt W2 g gw gf sz l) (i : Nat) (hi : i < o.fields.length) => get_yes hA h hg i (o.fields.getD i 0) (by rw [List.getD_eq_getElem?_getD, List.getElem?_eq_getElem hi]; rfl) p hp)
  obtain ⟨hok, _, _, hrb⟩ := raws_lt hS.ar h
  have hrb : r ≤ 1048576 := by omega
  have HOK := Aside0.mk (And.intro hok (And.intro h1 (And.intro h2 hm)))
  have HS := Aside0.mk hS
  have hmb : m ≤ 800 := by omega
  obtain ⟨z, hz⟩ : ∃ z, z = m - cut := ⟨_, rfl⟩
  have HZ := Aside0.mk hz
  have hcutm : (cut : Int) ≤ m := by omega
  have B1 : Aside0 (∀ W2, ArAt W2 g gw gf sz l → Calls Try.prog 44 #[.pointer (some ⟨g, 0, none⟩), .int .i64 (p : Int), .int .i64 0, .int .i64 (m : Int)] W2 fun e' w' => ∃ gb, e' = .returned (.tuple #[.slice (some ⟨gb, 0, none⟩) m m, .int .i64 0]) ∧ ArC.Told W2 w' o 0 m gb) := ⟨fun W2 hA => HBy.out W2 hA 0 m (by omega)⟩
  have B2 : Aside0 (∀ W2, ArAt W2 g gw gf sz l → Calls Try.prog 44 #[.pointer (some ⟨g, 0, none⟩), .int .i64 (p : Int), .int .i64 0, .int .i64 (cut : Int)] W2 fun e' w' => ∃ gb, e' = .returned (.tuple #[.slice (some ⟨gb, 0, none⟩) cut cut, .int .i64 0]) ∧ ArC.Told W2 w' o 0 cut gb) := ⟨fun W2 hA => HBy.out W2 hA 0 cut (by omega)⟩
  have B3 : Aside0 (∀ W2, ArAt W2 g gw gf sz l → Calls Try.prog 44 #[.pointer (some ⟨g, 0, none⟩), .int .i64 (p : Int), .int .i64 (cut : Int), .int .i64 (z : Int)] W2 fun e' w' => ∃ gb, e' = .returned (.tuple #[.slice (some ⟨gb, 0, none⟩) z z, .int .i64 0]) ∧ ArC.Told W2 w' o cut z gb) := ⟨fun W2 hA => HBy.out W2 hA cut z (by omega)⟩
  have HE := Aside0.mk (NumB.dif_i (m : Int) cut z (by omega) (by omega))
  clear HBy h hg hp h1 h2 hS hok hm hz
  go_enter Try.func27, Try.ntmps27
  go_wp2_with fail
  refine (B1.out _ HS.out.ar).mono ?_
  rintro e w2 ⟨g1, rfl, t1⟩
  have T1 := Aside0.mk t1
  have HS2 := Aside0.mk (HS.out.move t1.below)
  clear t1 B1
  go_wp2_with fail
  refine (B2.out _ HS2.out.ar).mono ?_
  rintro e w3 ⟨g2, rfl, t2⟩
  have T2 := Aside0.mk t2
  have HS3 := Aside0.mk (HS2.out.move t2.below)
  have T1b := Aside0.mk (T1.out.at_.upd (S := none_) (Upd.of_below t2.below) (fun h => h))
  clear t2 B2
  obtain ⟨e1, f1⟩ := HE.out
  go_wp2_with fail
  refine (B3.out _ HS3.out.ar).mono ?_
  rintro e w4 ⟨g3, rfl, t3⟩
  have T3 := Aside0.mk t3
  have HS4 := Aside0.mk (HS3.out.move t3.below)
  have T1c := Aside0.mk (T1b.out.upd (S := none_) (Upd.of_below t3.below) (fun h => h))
  have T2c := Aside0.mk (T2.out.at_.upd (S := none_) (Upd.of_below t3.below) (fun h => h))
  clear t3 B3
  go_wp2_with fail
  refine (num.calls _ _).mono ?_
  rintro e w5 ⟨rfl, rfl⟩
  go_wp2_with fail
  refine (num.calls _ _).mono ?_
  rintro e w6 ⟨rfl, rfl⟩
  go_wp2_with fail
  refine (num.calls _ _).mono ?_
  rintro e w7 ⟨rfl, rfl⟩
  go_wp2_with fail
  have hf1 : (fun i => Ob.byte o (0 + i)) = Ob.byte o := funext fun i => by rw [Nat.zero_add]
  have T1d := T1c.out
  rw [hf1] at T1d
  have T2d := T2c.out
  rw [hf1] at T2d
  have hmb' : m ≤ 100000000 := by clear e1 f1; omega
  have S1 := Aside0.mk (fun w => same_calls (intsOf (Ob.byte o) 0 m) (some ⟨g1, 0, none⟩) (some ⟨gr, 0, none⟩) m m m (intsOf_len _ _ _) w)
  have R1 := Aside0.mk (And.intro (reads_of T1d 0 m (by clear e1 f1; omega) hmb' _ (fun _ => rfl)) (reads_of HS4.out.row 0 m (by clear e1 f1; omega) hmb' _ (fun _ => rfl)))
  have S2 := Aside0.mk (fun w => same_calls (intsOf (Ob.byte o) 0 cut) (some ⟨g2, 0, none⟩) (some ⟨gr, 0, none⟩) cut m cut (intsOf_len _ _ _) w)
  have R2 := Aside0.mk (And.intro (reads_of T2d 0 cut (by clear e1 f1; omega) (by clear e1 f1; omega) _ (fun _ => rfl)) (reads_of HS4.out.row 0 cut (by clear e1 f1; omega) hmb' _ (fun _ => rfl)))
  have hi3 : intsOf (fun i => Ob.byte o (cut + i)) 0 z = intsOf (Ob.byte o) cut z := by unfold intsOf; simp
  have r3 := reads_of T3.out.at_ 0 z (by clear e1 f1; omega) (by have := HZ.out; clear e1 f1; omega) (some ⟨g3, 0, none⟩) (fun _ => rfl)
  rw [hi3] at r3
  have S3 := Aside0.mk (fun A w => same_calls (intsOf (Ob.byte o) cut z) (some ⟨g3, 0, none⟩) A z z z (intsOf_len _ _ _) w)
  have R3 := Aside0.mk (And.intro r3 (fun A hA => reads_of HS4.out.row cut z (by have := HZ.out; clear e1 f1; omega) hmb' A hA))
  have HZ0 : Aside0 (m = cut → ¬ 0 < z) := ⟨fun h => by have := HZ.out; clear e1 f1; omega⟩
  clear T1d T2d hi3 r3 hf1 T1 T1b T1c T2 T2c T3 HS HS2 HS3
  go_wp2_with fail
  refine (S1.out _ R1.out.1 R1.out.2 (Nat.le_refl _) (Nat.le_refl _)).mono ?_
  rintro e w8 ⟨rfl, hb⟩
  have HS5 := Aside0.mk (HS4.out.move hb)
  have R2b := Aside0.mk (And.intro (Kd.C_below R2.out.1 hb) (Kd.C_below R2.out.2 hb))
  have R3b := Aside0.mk (And.intro (Kd.C_below R3.out.1 hb) (fun A hA => Kd.C_below (R3.out.2 A hA) hb))
  clear hb S1 R1 R2 R3
  go_wp2_with fail
  refine (S2.out _ R2b.out.1 R2b.out.2 (Nat.le_refl _) hcut).mono ?_
  rintro e w9 ⟨rfl, hb⟩
  have HS6 := Aside0.mk (HS5.out.move hb)
  have R3c := Aside0.mk (And.intro (Kd.C_below R3b.out.1 hb) (fun A hA => Kd.C_below (R3b.out.2 A hA) hb))
  clear hb S2 R2b R3b
  by_cases hcm : m = cut
  · have hz0 : z = 0 := by have := HZ.out; clear e1 f1; omega
    subst hz0
    subst hcm
    go_wp2_with fail
    refine (S3.out _ _ R3c.out.1 (R3c.out.2 _ (fun h0 => absurd h0 (Nat.lt_irrefl 0))) (Nat.le_refl _) (Nat.le_refl _)).mono ?_
    rintro e w10 ⟨rfl, hb⟩
    have HS7 := Aside0.mk (HS6.out.move hb)
    clear hb S3 R3c e1 f1
    go_wp2_with fail
    go_loopw [17] (fun i wr => ∃ k2 : Nat, k2 ≤ s ∧ i = .int .i64 k2 ∧ Aside0 (RowSt W wr g gw gf sz gr m l o)) (fun i _ => s - (intOf i).toNat)
    case atStart => exact ⟨0, Nat.zero_le _, rfl, HS7⟩
    case round =>
      obtain ⟨q, hq, rfl, HI⟩ := hrel
      clear HS7
      rename World => wr
      obtain ⟨y, hy⟩ : ∃ y, y = 8 * q := ⟨_, rfl⟩
      have HY := Aside0.mk hy
      have HEY := Aside0.mk (NumB.mul_i 8 (q : Int) y (by omega) (by omega))
      by_cases hqs : q < s
      · have hym : y < m := by have := HOK.out.2.2.2; omega
        have hym' : (y : Int) < m := by omega
        have HG := Aside0.mk (fun W2 hA => HGet.out W2 hA (r + q) (by rw [HOK.out.2.2.1]; omega))
        obtain ⟨x, hx⟩ : ∃ x, x = o.fields.getD (r + q) 0 := ⟨_, rfl⟩
        have HX := Aside0.mk (And.intro hx (show x < 18446744073709551616 by rw [hx]; exact getD_lt HOK.out.1 _))
        rw [← hx] at HG
        obtain ⟨rq, hrq⟩ : ∃ rq, rq = r + q := ⟨_, rfl⟩
        rw [← hrq] at HG
        have HRQ := Aside0.mk hrq
        have HER := Aside0.mk (NumB.sum_i (r : Int) (q : Int) rq (by omega) (by omega))
        have HQm : Aside0 (y + 7 < m ∧ ∀ i, i < 8 → Ob.byte o (y + i) = NumB.byteAt x (8 * i)) := ⟨by have := HOK.out.2.2.2; omega, fun i hi => by
          unfold Ob.byte
          rw [HX.out.1, HOK.out.2.1, hy, show (8 * q + i) / 8 = q by omega, show (8 * q + i) % 8 = i by omega]⟩
        clear hx hy hrq
        obtain ⟨e1, f1⟩ := HEY.out
        obtain ⟨e2, f2⟩ := HER.out
        go_wp2_with fail
        refine (HG.out _ HI.out.ar).mono ?_
        rintro e w11 ⟨rfl, hb⟩
        have HI2 := Aside0.mk (HI.out.move hb)
        clear hb HG e2 f2
        go_wp2_with fail
        go_loopw [20, 21] (fun v j wr => ∃ i : Nat, i ≤ 8 ∧ v = .int .u64 ((x / 2 ^ (8 * i) : Nat) : Int) ∧ j = .int .i64 ((i : Int) - 1) ∧ Aside0 (RowSt W wr g gw gf sz gr m l o)) (fun _ j _ => ((intOf j) + 1).toNat)
        case atStart => exact ⟨8, Nat.le_refl _, by rw [Nat.div_eq_of_lt (by have := HX.out.2; exact this)]; rfl, rfl, HI2⟩
        case round =>
          obtain ⟨i, hi, rfl, rfl, HI3⟩ := hrel
          clear HI2
          rename World => wr3
          by_cases hi0 : i = 0
          · subst hi0
            go_wp2_with fail
            refine (num.calls _ _).mono ?_
            rintro e w12 ⟨rfl, rfl⟩
            have hxx : x / 2 ^ (8 * 0) = x := by simp
            rw [hxx]
            have hbe : ((x : Int) == (x : Int)) = true := by simp
            go_wp2_with fail
            go_roundw
            case rel => exact ⟨q + 1, by omega, by go_num, HI3⟩
            case measure => simp [intOf]; omega
          · obtain ⟨i', rfl⟩ : ∃ i', i = i' + 1 := ⟨i - 1, by omega⟩
            have hje : ((i' + 1 : Nat) : Int) - 1 = (i' : Int) := by omega
            rw [hje]
            obtain ⟨yi, hyi⟩ : ∃ yi, yi = y + i' := ⟨_, rfl⟩
            have hym3 : yi < m := by have := HQm.out.1; clear e1 f1; omega
            have hym4 : (yi : Int) < m := by clear e1 f1; omega
            have hi8 : i' < 8 := by clear e1 f1; omega
            have hcb := HI3.out.row.get yi _ (bytesV_get (Ob.byte o) m m yi hym3)
            rw [if_pos hym3, hyi, HQm.out.2 i' hi8, ← hyi] at hcb
            have hjs := join_step x i' HX.out.2 hi8
            have hbl := NumB.byte_lt x (8 * i')
            have hcv : IntKind.u64.wrap ((NumB.byteAt x (8 * i') : Nat) : Int) = ((NumB.byteAt x (8 * i') : Nat) : Int) := by rw [IntKind.wrap_u64]; omega
            obtain ⟨e3, f3⟩ := NumB.sum_i (y : Int) (i' : Int) yi (by clear e1 f1; omega) (by clear e1 f1; omega)
            generalize x / 2 ^ (8 * (i' + 1)) = w1 at *
            generalize NumB.byteAt x (8 * i') = b1 at *
            generalize hx0 : x / 2 ^ (8 * i') = w0 at *
            clear hyi hbl
            go_wp2_with fail
            clear e1 f1 e3 f3
            go_roundw
            case rel => exact ⟨i', by omega, by rw [hx0], by go_num, HI3⟩
            case measure => simp [intOf]
      · have hym' : ¬ (y : Int) < m := by have := HOK.out.2.2.2; omega
        clear hy
        obtain ⟨e1, f1⟩ := HEY.out
        go_wp2_with fail
        go_ret
        exact ⟨rfl, HI.out.below⟩
  · have hmz : m - cut = z := HZ.out.symm
    go_wp2_with fail
    refine (S3.out _ _ R3c.out.1 (R3c.out.2 _ (fun _ => rfl)) (Nat.le_refl _) (Nat.le_refl _)).mono ?_
    rintro e w10 ⟨rfl, hb⟩
    have HS7 := Aside0.mk (HS6.out.move hb)
    clear hb S3 R3c e1 f1 hmz
    go_wp2_with fail
    go_loopw [17] (fun i wr => ∃ k2 : Nat, k2 ≤ s ∧ i = .int .i64 k2 ∧ Aside0 (RowSt W wr g gw gf sz gr m l o)) (fun i _ => s - (intOf i).toNat)
    case atStart => exact ⟨0, Nat.zero_le _, rfl, HS7⟩
    case round =>
      obtain ⟨q, hq, rfl, HI⟩ := hrel
      clear HS7
      rename World => wr
      obtain ⟨y, hy⟩ : ∃ y, y = 8 * q := ⟨_, rfl⟩
      have HY := Aside0.mk hy
      have HEY := Aside0.mk (NumB.mul_i 8 (q : Int) y (by omega) (by omega))
      by_cases hqs : q < s
      · have hym : y < m := by have := HOK.out.2.2.2; omega
        have hym' : (y : Int) < m := by omega
        have HG := Aside0.mk (fun W2 hA => HGet.out W2 hA (r + q) (by rw [HOK.out.2.2.1]; omega))
        obtain ⟨x, hx⟩ : ∃ x, x = o.fields.getD (r + q) 0 := ⟨_, rfl⟩
        have HX := Aside0.mk (And.intro hx (show x < 18446744073709551616 by rw [hx]; exact getD_lt HOK.out.1 _))
        rw [← hx] at HG
        obtain ⟨rq, hrq⟩ : ∃ rq, rq = r + q := ⟨_, rfl⟩
        rw [← hrq] at HG
        have HRQ := Aside0.mk hrq
        have HER := Aside0.mk (NumB.sum_i (r : Int) (q : Int) rq (by omega) (by omega))
        have HQm : Aside0 (y + 7 < m ∧ ∀ i, i < 8 → Ob.byte o (y + i) = NumB.byteAt x (8 * i)) := ⟨by have := HOK.out.2.2.2; omega, fun i hi => by
          unfold Ob.byte
          rw [HX.out.1, HOK.out.2.1, hy, show (8 * q + i) / 8 = q by omega, show (8 * q + i) % 8 = i by omega]⟩
        clear hx hy hrq
        obtain ⟨e1, f1⟩ := HEY.out
        obtain ⟨e2, f2⟩ := HER.out
        go_wp2_with fail
        refine (HG.out _ HI.out.ar).mono ?_
        rintro e w11 ⟨rfl, hb⟩
        have HI2 := Aside0.mk (HI.out.move hb)
        clear hb HG e2 f2
        go_wp2_with fail
        go_loopw [20, 21] (fun v j wr => ∃ i : Nat, i ≤ 8 ∧ v = .int .u64 ((x / 2 ^ (8 * i) : Nat) : Int) ∧ j = .int .i64 ((i : Int) - 1) ∧ Aside0 (RowSt W wr g gw gf sz gr m l o)) (fun _ j _ => ((intOf j) + 1).toNat)
        case atStart => exact ⟨8, Nat.le_refl _, by rw [Nat.div_eq_of_lt (by have := HX.out.2; exact this)]; rfl, rfl, HI2⟩
        case round =>
          obtain ⟨i, hi, rfl, rfl, HI3⟩ := hrel
          clear HI2
          rename World => wr3
          by_cases hi0 : i = 0
          · subst hi0
            go_wp2_with fail
            refine (num.calls _ _).mono ?_
            rintro e w12 ⟨rfl, rfl⟩
            have hxx : x / 2 ^ (8 * 0) = x := by simp
            rw [hxx]
            have hbe : ((x : Int) == (x : Int)) = true := by simp
            go_wp2_with fail
            go_roundw
            case rel => exact ⟨q + 1, by omega, by go_num, HI3⟩
            case measure => simp [intOf]; omega
          · obtain ⟨i', rfl⟩ : ∃ i', i = i' + 1 := ⟨i - 1, by omega⟩
            have hje : ((i' + 1 : Nat) : Int) - 1 = (i' : Int) := by omega
            rw [hje]
            obtain ⟨yi, hyi⟩ : ∃ yi, yi = y + i' := ⟨_, rfl⟩
            have hym3 : yi < m := by have := HQm.out.1; clear e1 f1; omega
            have hym4 : (yi : Int) < m := by clear e1 f1; omega
            have hi8 : i' < 8 := by clear e1 f1; omega
            have hcb := HI3.out.row.get yi _ (bytesV_get (Ob.byte o) m m yi hym3)
            rw [if_pos hym3, hyi, HQm.out.2 i' hi8, ← hyi] at hcb
            have hjs := join_step x i' HX.out.2 hi8
            have hbl := NumB.byte_lt x (8 * i')
            have hcv : IntKind.u64.wrap ((NumB.byteAt x (8 * i') : Nat) : Int) = ((NumB.byteAt x (8 * i') : Nat) : Int) := by rw [IntKind.wrap_u64]; omega
            obtain ⟨e3, f3⟩ := NumB.sum_i (y : Int) (i' : Int) yi (by clear e1 f1; omega) (by clear e1 f1; omega)
            generalize x / 2 ^ (8 * (i' + 1)) = w1 at *
            generalize NumB.byteAt x (8 * i') = b1 at *
            generalize hx0 : x / 2 ^ (8 * i') = w0 at *
            clear hyi hbl
            go_wp2_with fail
            clear e1 f1 e3 f3
            go_roundw
            case rel => exact ⟨i', by omega, by rw [hx0], by go_num, HI3⟩
            case measure => simp [intOf]
      · have hym' : ¬ (y : Int) < m := by have := HOK.out.2.2.2; omega
        clear hy
        obtain ⟨e1, f1⟩ := HEY.out
        go_wp2_with fail
        go_ret
        exact ⟨rfl, HI.out.below⟩
end Go.Proofs.Ytgjcffjicbmkhaa.RowB
