-- JOINED by tailmerge3.py: PFx16 RowB BytO RfS RfV PFx12 RfA RfI XrM BegW PFx7 XrN XrP OpO OpP XrW PFx5 SamW XrB XrR XrG XrL0 XrL6 PFx6 FlipW XrS XrL7 XrT XrL8 XrL10
import Derived.Test.YtgjcffjicbmkhaaLawArenaGreatM2
import Derived.StillTailTactics
import Derived.Deep.CutBlock
import Derived.Deep.DeepCutAuto
import Derived.Deep.DeepMust

section
namespace Go.Proofs.Ytgjcffjicbmkhaa.PF
open Go.RowKit Go.Proofs.YtgjcffjicbmkhaaW.PrintWords Go.Proofs.YtgjcffjicbmkhaaW.PrintLast Go.Proofs.YtgjcffjicbmkhaaW.PrintMore
attribute [local go_sem] max2_int min2_int max_two min_two max_three min_three max_four min_four   -- for this text's walks alone
set_option linter.unusedVariables false
set_option linter.unusedSimpArgs false
def larderlaw2_sameBytes.f (l0 : List Int) (l1 : List Int) : Option (Bool) := some ((strOfNums l0).toList == (strOfNums l1).toList)
set_option maxHeartbeats 8000000 in
set_option maxRecDepth 100000 in
theorem larderlaw2_sameBytes.calls (A0 : Option Addr) (c0 : Nat) (l0 : List Int) (A1 : Option Addr) (c1 : Nat) (l1 : List Int) (r : Bool) (w : World) (hr0 : Kd.C (Kd.int .u8) w A0 l0.length l0) (hc0 : l0.length ≤ c0) (hr1 : Kd.C (Kd.int .u8) w A1 l1.length l1) (hc1 : l1.length ≤ c1) (h : larderlaw2_sameBytes.f l0 l1 = some r) :
    Calls Try.prog 45 #[.slice A0 l0.length c0, .slice A1 l1.length c1] w fun e w' => e = .returned (.bool r) ∧ Drawn0 w w' := by
  have HR0 := Aside0.mk hr0
  have HC0 := Aside0.mk hc0
  clear hr0 hc0
  have HR1 := Aside0.mk hr1
  have HC1 := Aside0.mk hc1
  clear hr1 hc1
  have H : (some ((strOfNums l0).toList == (strOfNums l1).toList)) = some r := h
  clear h
  obtain rfl := Option.some.inj H
  have hcv3 := Kd.C_string (P := Try.prog) (A := A0) (c := c0) Try.underlying67 Try.underlying5 Try.underlying9 HR0.out
  have hcv4 := Kd.C_string (P := Try.prog) (A := A1) (c := c1) Try.underlying67 Try.underlying5 Try.underlying9 HR1.out
  go_enter Try.func45, Try.ntmps45
  go_wp2
  go_ret
  exact ⟨by first | rfl | (simp; done) | (simp [*]; done), by repeat (first | exact Drawn0.refl _ | apply Drawn0.step)⟩
end Go.Proofs.Ytgjcffjicbmkhaa.PF
end

section
namespace Go.Proofs.Ytgjcffjicbmkhaa.RowB
open Go Go.RowKit Go.Proofs.YtgjcffjicbmkhaaW.PrintWords Go.Proofs.YtgjcffjicbmkhaaW.PrintLast Go.Proofs.YtgjcffjicbmkhaaW.PrintMore Go.Proofs.Ytgjcffjicbmkhaa.PF Go.Proofs.Ytgjcffjicbmkhaa.RowU Go.Proofs.Ytgjcffjicbmkhaa.ArS Go.Proofs.Ytgjcffjicbmkhaa.ArM Go.Proofs.Ytgjcffjicbmkhaa.ArW Go.Proofs.Ytgjcffjicbmkhaa.ArX Go.Proofs.Ytgjcffjicbmkhaa.ArY Go.Proofs.Ytgjcffjicbmkhaa.ArZ Go.Proofs.Ytgjcffjicbmkhaa.GenM Go.Proofs.Ytgjcffjicbmkhaa.ArV Go.Proofs.Ytgjcffjicbmkhaa.ArB Go.Proofs.Ytgjcffjicbmkhaa.ArC
set_option linter.unusedVariables false
set_option maxRecDepth 100000
def intsOf (f : Nat → Nat) (from_ n : Nat) : List Int := (List.range n).map fun j => (f (from_ + j) : Int)
theorem intsOf_len (f : Nat → Nat) (from_ n : Nat) : (intsOf f from_ n).length = n := by simp [intsOf]
theorem reads_of {W : World} {g cap m : Nat} {f : Nat → Nat} (h : GenAt 5 W g cap (bytesV f m m)) (off n : Nat) (hn : off + n ≤ m) (hm : m ≤ 100000000) (A : Option Addr) (hA : 0 < n → A = some ⟨g, off, none⟩) : Kd.C (Kd.int .u8) W A (intsOf f off n).length (intsOf f off n) := by
  rw [intsOf_len]
  refine ⟨intsOf_len f off n, by omega, fun h0 => ⟨_, hA h0, fun j p hp => ⟨[.int .u8 p], rfl, rfl, fun i u hu => ?_⟩⟩⟩
  have hjn : j < n := by have := (List.getElem?_eq_some_iff.1 hp).1; rw [intsOf_len] at this; exact this
  have hp2 : p = (f (off + j) : Int) := by
    unfold intsOf at hp
    rw [List.getElem?_map, List.getElem?_range hjn] at hp
    exact (Option.some.inj hp).symm
  cases i with
  | zero =>
    simp at hu
    subst hu
    have := h.get (off + j) _ (bytesV_get f m m (off + j) (by omega))
    rw [if_pos (by omega)] at this
    rw [hp2, Addr.add_lit, show (Kd.int IntKind.u8).sz = 1 from rfl]
    simpa using this
  | succ i => simp at hu
theorem same_calls (l : List Int) (A0 A1 : Option Addr) (c0 c1 n : Nat) (hl : l.length = n) (w : World) (h0 : Kd.C (Kd.int .u8) w A0 l.length l) (h1 : Kd.C (Kd.int .u8) w A1 l.length l) (hc0 : n ≤ c0) (hc1 : n ≤ c1) :
    Calls Try.prog 45 #[.slice A0 n c0, .slice A1 n c1] w fun e w' => e = .returned (.bool true) ∧ Below w.heap.size w w' := by
  subst hl
  exact (larderlaw2_sameBytes.calls A0 c0 l A1 c1 l true w h0 hc0 h1 hc1 (by unfold larderlaw2_sameBytes.f; simp)).mono fun e w' ⟨he, hd⟩ => ⟨he, hd.below⟩
theorem join_step (x i : Nat) (hx : x < 18446744073709551616) (hi : i < 8) : bits BinOp.or IntKind.u64 (IntKind.u64.wrap (((x / 2 ^ (8 * (i + 1)) : Nat) : Int) * 256)) ((NumB.byteAt x (8 * i) : Nat) : Int) = ((x / 2 ^ (8 * i) : Nat) : Int) := by
  have hp : 2 ^ (8 * (i + 1)) = 256 * 2 ^ (8 * i) := by rw [show 8 * (i + 1) = 8 + 8 * i by omega, Nat.pow_add]
  have hb := NumB.byte_lt x (8 * i)
  have h1 : x / 2 ^ (8 * (i + 1)) = x / 2 ^ (8 * i) / 256 := by rw [hp, Nat.mul_comm, ← Nat.div_div_eq_div_mul]
  have h2 : x / 2 ^ (8 * i) < 18446744073709551616 := Nat.lt_of_le_of_lt (Nat.div_le_self _ _) hx
  unfold NumB.byteAt at *
  rw [h1]
  generalize x / 2 ^ (8 * i) = y at *
  rw [show IntKind.u64.wrap (((y / 256 : Nat) : Int) * 256) = ((y / 256 * 256 : Nat) : Int) by rw [IntKind.wrap_u64]; omega]
  rw [NumA.or_u64 8 ((y / 256 * 256 : Nat) : Int) ((y % 256 : Nat) : Int) (by omega) (by rw [show (2 : Int) ^ 8 = 256 from rfl]; omega) (by omega) (by omega) (by rw [show (2 : Int) ^ 8 = 256 from rfl]; omega) (by omega)]
  omega
structure RowSt (W0 wr : World) (g gw gf sz gr m : Nat) (l : List Ob) (o : Ob) : Prop where
  ar : ArAt wr g gw gf sz l
  row : GenAt 5 wr gr m (bytesV (Ob.byte o) m m)
  below : Below W0.heap.size W0 wr
theorem RowSt.move {W0 wr w' : World} {g gw gf sz gr m : Nat} {l : List Ob} {o : Ob} (h : RowSt W0 wr g gw gf sz gr m l o) (hb : Below wr.heap.size wr w') : RowSt W0 w' g gw gf sz gr m l o :=
  ⟨h.ar.below hb, h.row.upd (S := none_) (Upd.of_below hb) (fun h => h), below_next h.below hb⟩
set_option maxHeartbeats 8000000 in
theorem rowBytes.calls {W : World} {g gw gf sz gr : Nat} {l : List Ob} {k : Nat} {o : Ob} (p r s m cut : Nat) (hS : RowSt W W g gw gf sz gr m l o) (h : l[k]? = some o) (hg : o.gone = none) (hp : p = place l k) (h1 : o.refs = r) (h2 : o.fields.length = r + s) (hs48 : s ≤ 100) (hm : m = 8 * s) (hcut : cut ≤ m) :
    Calls Try.prog 27 #[.pointer (some ⟨g, 0, none⟩), .int .i64 (p : Int), .int .i64 (r : Int), .slice (some ⟨gr, 0, none⟩) m m, .int .i64 (cut : Int)] W fun e w' => e = .returned (.bool true) ∧ Below W.heap.size W w' := by
  have HBy := Aside0.mk (fun (W2 : World) (hA : ArAt W2 g gw gf sz l) (f n : Nat) (hn : f + n ≤ 8 * s) => bytes.yes hA h hg p hp r s h1 h2 f n hn)
  have HGet := Aside0.mk (fun (W2 : World) (hA : ArAt W2 g gw gf sz l) (i : Nat) (hi : i < o.fields.length) => get_yes hA h hg i (o.fields.getD i 0) (by rw [List.getD_eq_getElem?_getD, List.getElem?_eq_getElem hi]; rfl) p hp)
  obtain ⟨hok, _, _, hrb⟩ := raws_lt hS.ar h
  have hrb : r ≤ 1048576 := by omega
  have HOK := Aside0.mk (And.intro hok (And.intro h1 (And.intro h2 hm)))
  have HS := Aside0.mk hS
  have hmb : m ≤ 800 := by omega
  obtain ⟨z, hz⟩ : ∃ z, z = m - cut := ⟨_, rfl⟩
  have HZ := Aside0.mk hz
  have hcutm : (cut : Int) ≤ m := by omega
  have B1 : Aside0 (∀ W2, ArAt W2 g gw gf sz l → Calls Try.prog 44 #[.pointer (some ⟨g, 0, none⟩), .int .i64 (p : Int), .int .i64 0, .int .i64 (m : Int)] W2 fun e' w' => ∃ gb, e' = .returned (.tuple #[.slice (some ⟨gb, 0, none⟩) m m, .int .i64 0]) ∧ ArC.Told W2 w' o 0 m gb) := ⟨fun W2 hA => HBy.out W2 hA 0 m (by omega)⟩
  have B2 : Aside0 (∀ W2, ArAt W2 g gw gf sz l → Calls Try.prog 44 #[.pointer (some ⟨g, 0, none⟩), .int .i64 (p : Int), .int .i64 0, .int .i64 (cut : Int)] W2 fun e' w' => ∃ gb, e' = .returned (.tuple #[.slice (some ⟨gb, 0, none⟩) cut cut, .int .i64 0]) ∧ ArC.Told W2 w' o 0 cut gb) := ⟨fun W2 hA => HBy.out W2 hA 0 cut (by omega)⟩
  have B3 : Aside0 (∀ W2, ArAt W2 g gw gf sz l → Calls Try.prog 44 #[.pointer (some ⟨g, 0, none⟩), .int .i64 (p : Int), .int .i64 (cut : Int), .int .i64 (z : Int)] W2 fun e' w' => ∃ gb, e' = .returned (.tuple #[.slice (some ⟨gb, 0, none⟩) z z, .int .i64 0]) ∧ ArC.Told W2 w' o cut z gb) := ⟨fun W2 hA => HBy.out W2 hA cut z (by omega)⟩
  have HE := Aside0.mk (NumB.dif_i (m : Int) cut z (by omega) (by omega))
  clear HBy h hg hp h1 h2 hS hok hm hz
  go_enter Try.func27, Try.ntmps27
  go_wp2_with fail
  refine (B1.out _ HS.out.ar).mono ?_
  rintro e w2 ⟨g1, rfl, t1⟩
  have T1 := Aside0.mk t1
  have HS2 := Aside0.mk (HS.out.move t1.below)
  clear t1 B1
  go_wp2_with fail
  refine (B2.out _ HS2.out.ar).mono ?_
  rintro e w3 ⟨g2, rfl, t2⟩
  have T2 := Aside0.mk t2
  have HS3 := Aside0.mk (HS2.out.move t2.below)
  have T1b := Aside0.mk (T1.out.at_.upd (S := none_) (Upd.of_below t2.below) (fun h => h))
  clear t2 B2
  obtain ⟨e1, f1⟩ := HE.out
  go_wp2_with fail
  refine (B3.out _ HS3.out.ar).mono ?_
  rintro e w4 ⟨g3, rfl, t3⟩
  have T3 := Aside0.mk t3
  have HS4 := Aside0.mk (HS3.out.move t3.below)
  have T1c := Aside0.mk (T1b.out.upd (S := none_) (Upd.of_below t3.below) (fun h => h))
  have T2c := Aside0.mk (T2.out.at_.upd (S := none_) (Upd.of_below t3.below) (fun h => h))
  clear t3 B3
  go_wp2_with fail
  refine (num.calls _ _).mono ?_
  rintro e w5 ⟨rfl, rfl⟩
  go_wp2_with fail
  refine (num.calls _ _).mono ?_
  rintro e w6 ⟨rfl, rfl⟩
  go_wp2_with fail
  refine (num.calls _ _).mono ?_
  rintro e w7 ⟨rfl, rfl⟩
  go_wp2_with fail
  have hf1 : (fun i => Ob.byte o (0 + i)) = Ob.byte o := funext fun i => by rw [Nat.zero_add]
  have T1d := T1c.out
  rw [hf1] at T1d
  have T2d := T2c.out
  rw [hf1] at T2d
  have hmb' : m ≤ 100000000 := by clear e1 f1; omega
  have S1 := Aside0.mk (fun w => same_calls (intsOf (Ob.byte o) 0 m) (some ⟨g1, 0, none⟩) (some ⟨gr, 0, none⟩) m m m (intsOf_len _ _ _) w)
  have R1 := Aside0.mk (And.intro (reads_of T1d 0 m (by clear e1 f1; omega) hmb' _ (fun _ => rfl)) (reads_of HS4.out.row 0 m (by clear e1 f1; omega) hmb' _ (fun _ => rfl)))
  have S2 := Aside0.mk (fun w => same_calls (intsOf (Ob.byte o) 0 cut) (some ⟨g2, 0, none⟩) (some ⟨gr, 0, none⟩) cut m cut (intsOf_len _ _ _) w)
  have R2 := Aside0.mk (And.intro (reads_of T2d 0 cut (by clear e1 f1; omega) (by clear e1 f1; omega) _ (fun _ => rfl)) (reads_of HS4.out.row 0 cut (by clear e1 f1; omega) hmb' _ (fun _ => rfl)))
  have hi3 : intsOf (fun i => Ob.byte o (cut + i)) 0 z = intsOf (Ob.byte o) cut z := by unfold intsOf; simp
  have r3 := reads_of T3.out.at_ 0 z (by clear e1 f1; omega) (by have := HZ.out; clear e1 f1; omega) (some ⟨g3, 0, none⟩) (fun _ => rfl)
  rw [hi3] at r3
  have S3 := Aside0.mk (fun A w => same_calls (intsOf (Ob.byte o) cut z) (some ⟨g3, 0, none⟩) A z z z (intsOf_len _ _ _) w)
  have R3 := Aside0.mk (And.intro r3 (fun A hA => reads_of HS4.out.row cut z (by have := HZ.out; clear e1 f1; omega) hmb' A hA))
  have HZ0 : Aside0 (m = cut → ¬ 0 < z) := ⟨fun h => by have := HZ.out; clear e1 f1; omega⟩
  clear T1d T2d hi3 r3 hf1 T1 T1b T1c T2 T2c T3 HS HS2 HS3
  go_wp2_with fail
  refine (S1.out _ R1.out.1 R1.out.2 (Nat.le_refl _) (Nat.le_refl _)).mono ?_
  rintro e w8 ⟨rfl, hb⟩
  have HS5 := Aside0.mk (HS4.out.move hb)
  have R2b := Aside0.mk (And.intro (Kd.C_below R2.out.1 hb) (Kd.C_below R2.out.2 hb))
  have R3b := Aside0.mk (And.intro (Kd.C_below R3.out.1 hb) (fun A hA => Kd.C_below (R3.out.2 A hA) hb))
  clear hb S1 R1 R2 R3
  go_wp2_with fail
  refine (S2.out _ R2b.out.1 R2b.out.2 (Nat.le_refl _) hcut).mono ?_
  rintro e w9 ⟨rfl, hb⟩
  have HS6 := Aside0.mk (HS5.out.move hb)
  have R3c := Aside0.mk (And.intro (Kd.C_below R3b.out.1 hb) (fun A hA => Kd.C_below (R3b.out.2 A hA) hb))
  clear hb S2 R2b R3b
  by_cases hcm : m = cut
  · have hz0 : z = 0 := by have := HZ.out; clear e1 f1; omega
    subst hz0
    subst hcm
    go_wp2_with fail
    refine (S3.out _ _ R3c.out.1 (R3c.out.2 _ (fun h0 => absurd h0 (Nat.lt_irrefl 0))) (Nat.le_refl _) (Nat.le_refl _)).mono ?_
    rintro e w10 ⟨rfl, hb⟩
    have HS7 := Aside0.mk (HS6.out.move hb)
    clear hb S3 R3c e1 f1
    go_wp2_with fail
    go_loopw [17] (fun i wr => ∃ k2 : Nat, k2 ≤ s ∧ i = .int .i64 k2 ∧ Aside0 (RowSt W wr g gw gf sz gr m l o)) (fun i _ => s - (intOf i).toNat)
    case atStart => exact ⟨0, Nat.zero_le _, rfl, HS7⟩
    case round =>
      obtain ⟨q, hq, rfl, HI⟩ := hrel
      clear HS7
      rename World => wr
      obtain ⟨y, hy⟩ : ∃ y, y = 8 * q := ⟨_, rfl⟩
      have HY := Aside0.mk hy
      have HEY := Aside0.mk (NumB.mul_i 8 (q : Int) y (by omega) (by omega))
      by_cases hqs : q < s
      · have hym : y < m := by have := HOK.out.2.2.2; omega
        have hym' : (y : Int) < m := by omega
        have HG := Aside0.mk (fun W2 hA => HGet.out W2 hA (r + q) (by rw [HOK.out.2.2.1]; omega))
        obtain ⟨x, hx⟩ : ∃ x, x = o.fields.getD (r + q) 0 := ⟨_, rfl⟩
        have HX := Aside0.mk (And.intro hx (show x < 18446744073709551616 by rw [hx]; exact getD_lt HOK.out.1 _))
        rw [← hx] at HG
        obtain ⟨rq, hrq⟩ : ∃ rq, rq = r + q := ⟨_, rfl⟩
        rw [← hrq] at HG
        have HRQ := Aside0.mk hrq
        have HER := Aside0.mk (NumB.sum_i (r : Int) (q : Int) rq (by omega) (by omega))
        have HQm : Aside0 (y + 7 < m ∧ ∀ i, i < 8 → Ob.byte o (y + i) = NumB.byteAt x (8 * i)) := ⟨by have := HOK.out.2.2.2; omega, fun i hi => by
          unfold Ob.byte
          rw [HX.out.1, HOK.out.2.1, hy, show (8 * q + i) / 8 = q by omega, show (8 * q + i) % 8 = i by omega]⟩
        clear hx hy hrq
        obtain ⟨e1, f1⟩ := HEY.out
        obtain ⟨e2, f2⟩ := HER.out
        go_wp2_with fail
        refine (HG.out _ HI.out.ar).mono ?_
        rintro e w11 ⟨rfl, hb⟩
        have HI2 := Aside0.mk (HI.out.move hb)
        clear hb HG e2 f2
        go_wp2_with fail
        go_loopw [20, 21] (fun v j wr => ∃ i : Nat, i ≤ 8 ∧ v = .int .u64 ((x / 2 ^ (8 * i) : Nat) : Int) ∧ j = .int .i64 ((i : Int) - 1) ∧ Aside0 (RowSt W wr g gw gf sz gr m l o)) (fun _ j _ => ((intOf j) + 1).toNat)
        case atStart => exact ⟨8, Nat.le_refl _, by rw [Nat.div_eq_of_lt (by have := HX.out.2; exact this)]; rfl, rfl, HI2⟩
        case round =>
          obtain ⟨i, hi, rfl, rfl, HI3⟩ := hrel
          clear HI2
          rename World => wr3
          by_cases hi0 : i = 0
          · subst hi0
            go_wp2_with fail
            refine (num.calls _ _).mono ?_
            rintro e w12 ⟨rfl, rfl⟩
            have hxx : x / 2 ^ (8 * 0) = x := by simp
            rw [hxx]
            have hbe : ((x : Int) == (x : Int)) = true := by simp
            go_wp2_with fail
            go_roundw
            case rel => exact ⟨q + 1, by omega, by go_num, HI3⟩
            case measure => simp [intOf]; omega
          · obtain ⟨i', rfl⟩ : ∃ i', i = i' + 1 := ⟨i - 1, by omega⟩
            have hje : ((i' + 1 : Nat) : Int) - 1 = (i' : Int) := by omega
            rw [hje]
            obtain ⟨yi, hyi⟩ : ∃ yi, yi = y + i' := ⟨_, rfl⟩
            have hym3 : yi < m := by have := HQm.out.1; clear e1 f1; omega
            have hym4 : (yi : Int) < m := by clear e1 f1; omega
            have hi8 : i' < 8 := by clear e1 f1; omega
            have hcb := HI3.out.row.get yi _ (bytesV_get (Ob.byte o) m m yi hym3)
            rw [if_pos hym3, hyi, HQm.out.2 i' hi8, ← hyi] at hcb
            have hjs := join_step x i' HX.out.2 hi8
            have hbl := NumB.byte_lt x (8 * i')
            have hcv : IntKind.u64.wrap ((NumB.byteAt x (8 * i') : Nat) : Int) = ((NumB.byteAt x (8 * i') : Nat) : Int) := by rw [IntKind.wrap_u64]; omega
            obtain ⟨e3, f3⟩ := NumB.sum_i (y : Int) (i' : Int) yi (by clear e1 f1; omega) (by clear e1 f1; omega)
            generalize x / 2 ^ (8 * (i' + 1)) = w1 at *
            generalize NumB.byteAt x (8 * i') = b1 at *
            generalize hx0 : x / 2 ^ (8 * i') = w0 at *
            clear hyi hbl
            go_wp2_with fail
            clear e1 f1 e3 f3
            go_roundw
            case rel => exact ⟨i', by omega, by rw [hx0], by go_num, HI3⟩
            case measure => simp [intOf]
      · have hym' : ¬ (y : Int) < m := by have := HOK.out.2.2.2; omega
        clear hy
        obtain ⟨e1, f1⟩ := HEY.out
        go_wp2_with fail
        go_ret
        exact ⟨rfl, HI.out.below⟩
  · have hmz : m - cut = z := HZ.out.symm
    go_wp2_with fail
    refine (S3.out _ _ R3c.out.1 (R3c.out.2 _ (fun _ => rfl)) (Nat.le_refl _) (Nat.le_refl _)).mono ?_
    rintro e w10 ⟨rfl, hb⟩
    have HS7 := Aside0.mk (HS6.out.move hb)
    clear hb S3 R3c e1 f1 hmz
    go_wp2_with fail
    go_loopw [17] (fun i wr => ∃ k2 : Nat, k2 ≤ s ∧ i = .int .i64 k2 ∧ Aside0 (RowSt W wr g gw gf sz gr m l o)) (fun i _ => s - (intOf i).toNat)
    case atStart => exact ⟨0, Nat.zero_le _, rfl, HS7⟩
    case round =>
      obtain ⟨q, hq, rfl, HI⟩ := hrel
      clear HS7
      rename World => wr
      obtain ⟨y, hy⟩ : ∃ y, y = 8 * q := ⟨_, rfl⟩
      have HY := Aside0.mk hy
      have HEY := Aside0.mk (NumB.mul_i 8 (q : Int) y (by omega) (by omega))
      by_cases hqs : q < s
      · have hym : y < m := by have := HOK.out.2.2.2; omega
        have hym' : (y : Int) < m := by omega
        have HG := Aside0.mk (fun W2 hA => HGet.out W2 hA (r + q) (by rw [HOK.out.2.2.1]; omega))
        obtain ⟨x, hx⟩ : ∃ x, x = o.fields.getD (r + q) 0 := ⟨_, rfl⟩
        have HX := Aside0.mk (And.intro hx (show x < 18446744073709551616 by rw [hx]; exact getD_lt HOK.out.1 _))
        rw [← hx] at HG
        obtain ⟨rq, hrq⟩ : ∃ rq, rq = r + q := ⟨_, rfl⟩
        rw [← hrq] at HG
        have HRQ := Aside0.mk hrq
        have HER := Aside0.mk (NumB.sum_i (r : Int) (q : Int) rq (by omega) (by omega))
        have HQm : Aside0 (y + 7 < m ∧ ∀ i, i < 8 → Ob.byte o (y + i) = NumB.byteAt x (8 * i)) := ⟨by have := HOK.out.2.2.2; omega, fun i hi => by
          unfold Ob.byte
          rw [HX.out.1, HOK.out.2.1, hy, show (8 * q + i) / 8 = q by omega, show (8 * q + i) % 8 = i by omega]⟩
        clear hx hy hrq
        obtain ⟨e1, f1⟩ := HEY.out
        obtain ⟨e2, f2⟩ := HER.out
        go_wp2_with fail
        refine (HG.out _ HI.out.ar).mono ?_
        rintro e w11 ⟨rfl, hb⟩
        have HI2 := Aside0.mk (HI.out.move hb)
        clear hb HG e2 f2
        go_wp2_with fail
        go_loopw [20, 21] (fun v j wr => ∃ i : Nat, i ≤ 8 ∧ v = .int .u64 ((x / 2 ^ (8 * i) : Nat) : Int) ∧ j = .int .i64 ((i : Int) - 1) ∧ Aside0 (RowSt W wr g gw gf sz gr m l o)) (fun _ j _ => ((intOf j) + 1).toNat)
        case atStart => exact ⟨8, Nat.le_refl _, by rw [Nat.div_eq_of_lt (by have := HX.out.2; exact this)]; rfl, rfl, HI2⟩
        case round =>
          obtain ⟨i, hi, rfl, rfl, HI3⟩ := hrel
          clear HI2
          rename World => wr3
          by_cases hi0 : i = 0
          · subst hi0
            go_wp2_with fail
            refine (num.calls _ _).mono ?_
            rintro e w12 ⟨rfl, rfl⟩
            have hxx : x / 2 ^ (8 * 0) = x := by simp
            rw [hxx]
            have hbe : ((x : Int) == (x : Int)) = true := by simp
            go_wp2_with fail
            go_roundw
            case rel => exact ⟨q + 1, by omega, by go_num, HI3⟩
            case measure => simp [intOf]; omega
          · obtain ⟨i', rfl⟩ : ∃ i', i = i' + 1 := ⟨i - 1, by omega⟩
            have hje : ((i' + 1 : Nat) : Int) - 1 = (i' : Int) := by omega
            rw [hje]
            obtain ⟨yi, hyi⟩ : ∃ yi, yi = y + i' := ⟨_, rfl⟩
            have hym3 : yi < m := by have := HQm.out.1; clear e1 f1; omega
            have hym4 : (yi : Int) < m := by clear e1 f1; omega
            have hi8 : i' < 8 := by clear e1 f1; omega
            have hcb := HI3.out.row.get yi _ (bytesV_get (Ob.byte o) m m yi hym3)
            rw [if_pos hym3, hyi, HQm.out.2 i' hi8, ← hyi] at hcb
            have hjs := join_step x i' HX.out.2 hi8
            have hbl := NumB.byte_lt x (8 * i')
            have hcv : IntKind.u64.wrap ((NumB.byteAt x (8 * i') : Nat) : Int) = ((NumB.byteAt x (8 * i') : Nat) : Int) := by rw [IntKind.wrap_u64]; omega
            obtain ⟨e3, f3⟩ := NumB.sum_i (y : Int) (i' : Int) yi (by clear e1 f1; omega) (by clear e1 f1; omega)
            generalize x / 2 ^ (8 * (i' + 1)) = w1 at *
            generalize NumB.byteAt x (8 * i') = b1 at *
            generalize hx0 : x / 2 ^ (8 * i') = w0 at *
            clear hyi hbl
            go_wp2_with fail
            clear e1 f1 e3 f3
            go_roundw
            case rel => exact ⟨i', by omega, by rw [hx0], by go_num, HI3⟩
            case measure => simp [intOf]
      · have hym' : ¬ (y : Int) < m := by have := HOK.out.2.2.2; omega
        clear hy
        obtain ⟨e1, f1⟩ := HEY.out
        go_wp2_with fail
        go_ret
        exact ⟨rfl, HI.out.below⟩
end Go.Proofs.Ytgjcffjicbmkhaa.RowB
end

section
namespace Go.Proofs.Ytgjcffjicbmkhaa.BytO
open Go Go.RowKit Go.Proofs.YtgjcffjicbmkhaaW.PrintWords Go.Proofs.YtgjcffjicbmkhaaW.PrintLast Go.Proofs.YtgjcffjicbmkhaaW.PrintMore Go.Proofs.Ytgjcffjicbmkhaa.Open Go.Proofs.Ytgjcffjicbmkhaa.PF Go.Proofs.Ytgjcffjicbmkhaa.MemO Go.Proofs.Ytgjcffjicbmkhaa.RowU Go.Proofs.Ytgjcffjicbmkhaa.ArS Go.Proofs.Ytgjcffjicbmkhaa.ArM Go.Proofs.Ytgjcffjicbmkhaa.ArW Go.Proofs.Ytgjcffjicbmkhaa.ArX Go.Proofs.Ytgjcffjicbmkhaa.ArY Go.Proofs.Ytgjcffjicbmkhaa.ArZ Go.Proofs.Ytgjcffjicbmkhaa.GenM Go.Proofs.Ytgjcffjicbmkhaa.ArV Go.Proofs.Ytgjcffjicbmkhaa.ArB Go.Proofs.Ytgjcffjicbmkhaa.ArC Go.Proofs.Ytgjcffjicbmkhaa.RowB Go.Proofs.Ytgjcffjicbmkhaa.TakS Go.Proofs.Ytgjcffjicbmkhaa.FillL
set_option linter.unusedVariables false
set_option maxRecDepth 100000
def gBytes (l : List Int) : Prop := GoodL 1 (fun x => (Lit.int .u8 x).wf = true) l
theorem o_u8 : Opens Try.prog 5 (Kd.int .u8) (fun x => (Lit.int .u8 x).wf = true) := opens_int Try.underlying5 (by kernel_rfl)
theorem o_bytes : Opens Try.prog 67 (Kd.slice 5 (Kd.int .u8)) gBytes := opens_slice Try.underlying67 (by kernel_rfl) (by kernel_rfl) o_u8
theorem wf_u8 {x : Int} (h : (Lit.int .u8 x).wf = true) : 0 ≤ x ∧ x < 256 := by
  simp [Lit.wf, IntKind.min, IntKind.max, IntKind.signed, IntKind.bits] at h; omega
def kP : Kd (Int × List Int) := Kd.pair (Kd.int .i64) (Kd.slice 5 (Kd.int .u8))
theorem o_piece : Opens Try.prog 69 kP (fun y => gI y.1 ∧ gBytes y.2) :=
  opens_struct Try.underlying69 rfl (by kernel_rfl) (fields2 rfl o_int (fields1 rfl o_bytes))
def kRow : Kd (Int × Int × List (Int × List Int) × Int) := Kd.pair (Kd.int .i64) (Kd.pair (Kd.int .i64) (Kd.pair (Kd.slice 69 kP) (Kd.int .i64)))
def gRow (y : Int × Int × List (Int × List Int) × Int) : Prop := gI y.1 ∧ gI y.2.1 ∧ GoodL 32 (fun y => gI y.1 ∧ gBytes y.2) y.2.2.1 ∧ gI y.2.2.2
theorem o_row : Opens Try.prog 66 kRow gRow :=
  opens_struct Try.underlying66 rfl (by kernel_rfl) (fields2 rfl o_int (fields2 rfl o_int (fields2 rfl (opens_slice Try.underlying64 (by kernel_rfl) (by kernel_rfl) o_piece) (fields1 rfl o_int))))
theorem kP_open {w : World} {x : Int × List Int} {cs : List Value} (h : kP.K w x cs) : ∃ A c, cs = [.int .i64 x.1, .slice A x.2.length c] ∧ x.2.length ≤ c ∧ Kd.C (Kd.int .u8) w A x.2.length x.2 := by
  obtain ⟨c1, c2, rfl, h1, A, c, rfl, h2, h3⟩ := h
  obtain rfl : c1 = _ := h1
  exact ⟨A, c, rfl, h2, h3⟩
theorem piece_at {W : World} {A : Option Addr} {l : List (Int × List Int)} (h : Kd.C kP W A l.length l) (i : Nat) (x : Int × List Int) (hx : l[i]? = some x) : ∃ ad B c, A = some ad ∧ W.cell? (ad.add (i * 2)) = some (.int .i64 x.1) ∧ W.cell? ⟨(ad.add (i * 2)).block, (ad.add (i * 2)).off + 1, none⟩ = some (.slice B x.2.length c) ∧ x.2.length ≤ c ∧ Kd.C (Kd.int .u8) W B x.2.length x.2 := by
  have hi := (List.getElem?_eq_some_iff.1 hx).1
  obtain ⟨ad, c, e, _, hK, hc0⟩ := Kd.C_get h (0, []) i (by omega) (by omega)
  have hc : ∀ j u, c[j]? = some u → W.cell? (ad.add (i * 2 + j)) = some u := hc0
  have hd : l.getD ((i : Int)).toNat (0, []) = x := by rw [Int.toNat_natCast, List.getD_eq_getElem?_getD, hx]; rfl
  rw [hd] at hK
  obtain ⟨B, c', rfl, h2, h3⟩ := kP_open hK
  exact ⟨ad, B, c', e, hc 0 _ rfl, by rw [← add_field _ _ 1 (by omega)]; exact hc 1 _ rfl, h2, h3⟩
theorem byte_nat (l : List Int) (h : ∀ x ∈ l, 0 ≤ x ∧ x < 256) : ∃ bs : List Nat, l = bs.map (fun x : Nat => (x : Int)) ∧ ∀ c ∈ bs, c < 256 := by
  induction l with
  | nil => exact ⟨[], rfl, fun c hc => by simp at hc⟩
  | cons x l ih =>
    obtain ⟨bs, hb, hc⟩ := ih (fun y hy => h y (List.mem_cons_of_mem _ hy))
    obtain ⟨h0, h1⟩ := h x (List.mem_cons_self ..)
    obtain ⟨n, rfl⟩ := Int.eq_ofNat_of_zero_le h0
    refine ⟨n :: bs, by rw [hb]; rfl, fun c hc' => ?_⟩
    rcases List.mem_cons.1 hc' with rfl | h2
    · omega
    · exact hc c h2
theorem byte_cell {W : World} {A : Option Addr} {bs : List Nat} (h : Kd.C (Kd.int .u8) W A (bs.map (fun x : Nat => (x : Int))).length (bs.map (fun x : Nat => (x : Int)))) (i x : Nat) (hx : bs[i]? = some x) : ∃ ad, A = some ad ∧ W.cell? (ad.add i) = some (.int .u8 (x : Int)) := by
  have hi := (List.getElem?_eq_some_iff.1 hx).1
  obtain ⟨ad, c, e, _, hK, hc0⟩ := Kd.C_get h 0 i (by omega) (by rw [List.length_map]; omega)
  have hd : (bs.map (fun x : Nat => (x : Int))).getD ((i : Int)).toNat 0 = (x : Int) := by rw [Int.toNat_natCast, List.getD_eq_getElem?_getD, List.getElem?_map, hx]; rfl
  rw [hd] at hK
  have hc : ∀ j u, c[j]? = some u → W.cell? (ad.add (i * 1 + j)) = some u := hc0
  have hK' : c = [.int .u8 (x : Int)] := hK
  subst hK'
  have := hc 0 _ rfl
  rw [Nat.mul_one, Nat.add_zero] at this
  exact ⟨ad, e, this⟩
theorem oper_copyB {o : Oper} {a : Act} {K : Act → World → Prop} {Q : Exit → Act → World → Prop} (w : World) (d s : Operand)
    (hop : o.op = Op.call { callee := Callee.builtin Builtin.copy, args := #[d, s], argTypes := #[67, 67] })
    (dp : Option Addr) (g off dLen dCap : Nat) (hd : a.eval d = .slice dp dLen dCap) (sp : Option Addr) (sLen sCap : Nat) (hs : a.eval s = .slice sp sLen sCap)
    (cap : Nat) (l : List Value) (hw : GenAt 5 w g cap l) (l2 : List Value) (hl2 : l2.length = sLen) (hle : sLen ≤ dLen) (hfit : off + dLen ≤ l.length) (hc : ∀ j y, l2[j]? = some y → ∃ ad, sp = some ad ∧ w.cell? (ad.add j) = some y) (h1 : ∀ y ∈ l2, y.oneCell' = true) (hdp : 0 < sLen → dp = some ⟨g, off, none⟩)
    (hK : ∀ w', GenAt 5 w' g cap (l.take off ++ l2 ++ l.drop (off + sLen)) → Upd (fun k => k = g) w w' → K (a.put o.dst (.int .i64 (sLen : Int))) w') :
    Oper.wp Try.prog o a w K Q := by
  have hsz : (Try.prog.info? 5).map (·.size) = some 1 := by kernel_rfl
  by_cases h0 : sLen = 0
  · subst h0
    obtain rfl : l2 = [] := List.eq_nil_of_length_eq_zero hl2
    have hrun := run_copy_none (P := Try.prog) w 67 67 o.type 5 dp sp dLen dCap 0 sCap Try.underlying67 hsz (Nat.zero_min _)
    unfold Oper.wp
    simp [execOp, hop, resolve, invoke, builtin, hd, hs, hrun, Result.andThen]
    refine hK w ?_ (Upd.refl _ w)
    simpa using hw
  · obtain rfl := hdp (by omega)
    obtain ⟨y0, hy0⟩ : ∃ y, l2[0]? = some y := ⟨_, List.getElem?_eq_getElem (by omega)⟩
    obtain ⟨ad, rfl, _⟩ := hc 0 y0 hy0
    obtain ⟨cur, k1, k2, k3, k4, k5⟩ := hw
    have hrun := run_copy_row (P := Try.prog) w 67 67 o.type 5 g off dLen dCap ad sLen sCap cur.toArray 5 l2 Try.underlying67 hsz k1 (by rw [hl2]; exact (Nat.min_eq_left hle).symm) (by
      intro j u hu
      obtain ⟨ad', h1, h2⟩ := hc j u hu
      obtain rfl := Option.some.inj h1
      exact h2) (by simp; omega) h1
    unfold Oper.wp
    simp [execOp, hop, resolve, invoke, builtin, hd, hs, hrun, Result.andThen, goInt, hl2]
    refine hK (w.setRow g (cur.take off ++ (l2 ++ cur.drop (off + sLen))).toArray) ?wa ?up
    case wa =>
      refine ⟨cur.take off ++ (l2 ++ cur.drop (off + sLen)), ?_, ?_, ?_, k4, ?_⟩
      · exact setRow_heap w g _ _ _ _ k1
      · simp; omega
      · simp; omega
      · have e1 : (cur.take off) = (l.take off) := by
          rw [← k5, List.take_take, Nat.min_eq_left (by omega)]
        have e2 : (cur.drop (off + sLen)).take (l.length - (off + sLen)) = (l.drop (off + sLen)) := by
          conv => rhs; rw [← k5, List.drop_take]
        have ll : (l.take off ++ l2 ++ l.drop (off + sLen)).length = off + (sLen + (l.length - (off + sLen))) := by simp; omega
        rw [ll, List.append_assoc, ← e1, ← e2]
        rw [List.take_append, List.take_append]
        congr 1
        · exact List.take_of_length_le (by simp; omega)
        · congr 1
          · exact List.take_of_length_le (by simp; omega)
          · congr 1
            simp
            omega
    case up => exact ⟨rfl, rfl, rfl, by simp [World.setRow], fun k hk hn => setRow_other w g k _ hn⟩
theorem byte_new (k r s j : Nat) : Ob.byte (newOb k r s) j = 0 := by
  unfold Ob.byte
  have : (newOb k r s).fields.getD ((newOb k r s).refs + j / 8) 0 = 0 := by
    rw [List.getD_eq_getElem?_getD]
    show (List.replicate (r + s) 0)[_]?.getD 0 = 0
    rw [List.getElem?_replicate]
    split <;> rfl
  rw [this]
  simp [NumB.byteAt]
theorem byte_putBs (bs : List Nat) (hbs : ∀ c ∈ bs, c < 256) : ∀ {o : Ob} (f : Nat), o.ok → (∀ j, f ≤ j → j < f + bs.length → o.refs + j / 8 < o.fields.length) → ∀ i, Ob.byte (putBs o f bs) i = if f ≤ i ∧ i < f + bs.length then bs.getD (i - f) 0 else Ob.byte o i := by
  induction bs with
  | nil => intro o f _ _ i; rw [if_neg (fun h => by have h1 := h.1; have h2 := h.2; rw [List.length_nil] at h2; omega)]; rfl
  | cons c l ih =>
    intro o f ho hj i
    have hc := hbs c (List.mem_cons_self ..)
    have ho2 := putB_ok ho f c hc
    obtain ⟨s1, s2, s3, s4⟩ := putB_same o f c
    have hj0 := hj f (Nat.le_refl _) (by simp)
    show Ob.byte (putBs (Ob.putB o f c) (f + 1) l) i = _
    rw [ih (fun x hx => hbs x (List.mem_cons_of_mem _ hx)) (f + 1) ho2 (fun j h1 h2 => by rw [s2, s3]; exact hj j (by omega) (by simp; omega)) i]
    rw [byte_putB ho f c i hj0 hc]
    by_cases h1 : i = f
    · subst h1
      rw [if_neg (by omega), if_pos rfl, if_pos (by simp)]
      simp
    · rw [if_neg h1]
      by_cases h2 : f + 1 ≤ i ∧ i < f + 1 + l.length
      · rw [if_pos h2, if_pos (by simp; omega), show i - f = (i - (f + 1)) + 1 by omega]
        simp
      · rw [if_neg h2, if_neg (by simp; omega)]
theorem bytes_splice {o : Ob} (bs : List Nat) (hbs : ∀ c ∈ bs, c < 256) (f m : Nat) (ho : o.ok) (hfm : f + bs.length ≤ m) (hj : ∀ j, j < m → o.refs + j / 8 < o.fields.length) :
    (bytesV (Ob.byte o) m m).take f ++ bs.map (fun x : Nat => Value.int .u8 (x : Int)) ++ (bytesV (Ob.byte o) m m).drop (f + bs.length) = bytesV (Ob.byte (putBs o f bs)) m m := by
  have hb := byte_putBs bs hbs f ho (fun j _ h2 => hj j (by omega))
  apply List.ext_getElem?
  intro j
  by_cases hjm : j < m
  · rw [bytesV_get _ m m j hjm, if_pos hjm, hb j]
    by_cases h1 : j < f
    · rw [if_neg (by omega), List.append_assoc, List.getElem?_append_left (by rw [List.length_take, bytesV_len]; omega), List.getElem?_take, if_pos h1, bytesV_get _ m m j hjm, if_pos hjm]
    · by_cases h2 : j < f + bs.length
      · rw [if_pos ⟨by omega, h2⟩, List.append_assoc, List.getElem?_append_right (by rw [List.length_take, bytesV_len]; omega), List.length_take, bytesV_len, Nat.min_eq_left (by omega), List.getElem?_append_left (by rw [List.length_map]; omega), List.getElem?_map, List.getElem?_eq_getElem (by omega)]
        simp only [Option.map_some, List.getD_eq_getElem?_getD]
        rw [List.getElem?_eq_getElem (by omega)]
        rfl
      · rw [if_neg (by omega), List.getElem?_append_right (by simp [bytesV_len]; omega), List.getElem?_drop]
        have e : f + bs.length + (j - ((bytesV (Ob.byte o) m m).take f ++ bs.map (fun x : Nat => Value.int .u8 (x : Int))).length) = j := by simp [bytesV_len]; omega
        rw [e, bytesV_get _ m m j hjm, if_pos hjm]
  · rw [List.getElem?_eq_none (by simp [bytesV_len]; omega), List.getElem?_eq_none (by rw [bytesV_len]; omega)]
theorem field_putBs (bs : List Nat) : ∀ {o : Ob} (f i : Nat), i < o.refs → (putBs o f bs).fields[i]? = o.fields[i]? := by
  induction bs with
  | nil => intro o f i _; rfl
  | cons c l ih =>
    intro o f i hi
    show (putBs (Ob.putB o f c) (f + 1) l).fields[i]? = _
    rw [ih (f + 1) i (show i < (Ob.putB o f c).refs from hi)]
    show (o.fields.set (o.refs + f / 8) _)[i]? = _
    rw [List.getElem?_set_ne (by omega)]
end Go.Proofs.Ytgjcffjicbmkhaa.BytO
end

section
namespace Go.Proofs.Ytgjcffjicbmkhaa.RfS
open Go Go.RowKit Go.Proofs.YtgjcffjicbmkhaaW.PrintWords Go.Proofs.Ytgjcffjicbmkhaa.RowU Go.Proofs.Ytgjcffjicbmkhaa.ArS Go.Proofs.Ytgjcffjicbmkhaa.ArX Go.Proofs.Ytgjcffjicbmkhaa.ArB Go.Proofs.Ytgjcffjicbmkhaa.GenM Go.Proofs.Ytgjcffjicbmkhaa.ArP Go.Proofs.Ytgjcffjicbmkhaa.RfM Go.Proofs.Ytgjcffjicbmkhaa.RfB
set_option linter.unusedVariables false
set_option maxRecDepth 100000
theorem word_eq (x y : Int) (hx : 0 ≤ x ∧ x < 18446744073709551616) (hy : 0 ≤ y ∧ y < 18446744073709551616) (h : ∀ j : Nat, j < 8 → x / 256 ^ j % 256 = y / 256 ^ j % 256) : x = y := by
  have h0 := h 0 (by omega)
  have h1 := h 1 (by omega)
  have h2 := h 2 (by omega)
  have h3 := h 3 (by omega)
  have h4 := h 4 (by omega)
  have h5 := h 5 (by omega)
  have h6 := h 6 (by omega)
  have h7 := h 7 (by omega)
  rw [show (256 : Int) ^ 0 = 1 by decide] at h0
  rw [show (256 : Int) ^ 1 = 256 by decide] at h1
  rw [show (256 : Int) ^ 2 = 65536 by decide] at h2
  rw [show (256 : Int) ^ 3 = 16777216 by decide] at h3
  rw [show (256 : Int) ^ 4 = 4294967296 by decide] at h4
  rw [show (256 : Int) ^ 5 = 1099511627776 by decide] at h5
  rw [show (256 : Int) ^ 6 = 281474976710656 by decide] at h6
  rw [show (256 : Int) ^ 7 = 72057594037927936 by decide] at h7
  have step : ∀ (d : Int) , 0 < d → x / (d * 256) = y / (d * 256) → x / d % 256 = y / d % 256 → x / d = y / d := by
    intro d hd e1 e2
    rw [← Int.ediv_ediv_of_nonneg (by omega), ← Int.ediv_ediv_of_nonneg (by omega)] at e1
    omega
  have k7 : x / 72057594037927936 = y / 72057594037927936 := by omega
  have k6 := step 281474976710656 (by decide) k7 h6
  have k5 := step 1099511627776 (by decide) k6 h5
  have k4 := step 4294967296 (by decide) k5 h4
  have k3 := step 16777216 (by decide) k4 h3
  have k2 := step 65536 (by decide) k3 h2
  have k1 := step 256 (by decide) k2 h1
  have k0 := step 1 (by decide) k1 h0
  omega
theorem words_eq {w1 w2 : List Int} (h1 : RefU.inW w1) (h2 : RefU.inW w2) (hl : w1.length = w2.length) (h : ∀ i, i < 8 * w1.length → RefU.byteAt w1 i = RefU.byteAt w2 i) : w1 = w2 := by
  apply List.ext_getElem hl
  intro n hn1 hn2
  refine word_eq _ _ (h1 _ (List.getElem_mem hn1)) (h2 _ (List.getElem_mem hn2)) (fun j hj => ?_)
  have := h (8 * n + j) (by omega)
  unfold RefU.byteAt at this
  rw [show (8 * n + j) / 8 = n by omega, show (8 * n + j) % 8 = j by omega, List.getD_eq_getElem?_getD, List.getD_eq_getElem?_getD, List.getElem?_eq_getElem hn1, List.getElem?_eq_getElem hn2] at this
  exact this
theorem byL_get (o : Ob) (f n j : Nat) (hj : j < n) : (byL o f n)[j]? = some ((Ob.byte o (f + j) : Nat) : Int) := by
  unfold byL
  rw [List.getElem?_map, List.getElem?_range hj]; rfl
theorem byte_lt (o : Ob) (i : Nat) : Ob.byte o i < 256 := NumB.byte_lt _ _
theorem byL_in (o : Ob) (f n : Nat) : RefU.inB (byL o f n) := by
  intro c hc
  simp only [byL, List.mem_map] at hc
  obtain ⟨j, _, rfl⟩ := hc
  have := byte_lt o (f + j)
  omega
theorem pack_rl {o : Ob} (h : o.ok) : RefU.pack (byL o 0 (8 * o.raws)) = rl o := by
  have hl : (RefU.pack (byL o 0 (8 * o.raws))).length = o.raws := by rw [RefU.pack_len, byL_len]; omega
  refine words_eq (RefU.pack_in (byL_in _ _ _)) (rl_in h) (by rw [hl, rl_len]) (fun i hi => ?_)
  rw [hl] at hi
  rw [RefU.byte_pack (byL_in _ _ _), rl_byte, List.getD_eq_getElem?_getD, byL_get o 0 _ i hi, Nat.zero_add]
  rfl
theorem byL_putB {o : Ob} (h : o.ok) (j c m : Nat) (hj : o.refs + j / 8 < o.fields.length) (hc : c < 256) : byL (Ob.putB o j c) 0 m = (byL o 0 m).set j (c : Int) := by
  apply List.ext_getElem?
  intro i
  by_cases hi : i < m
  · rw [byL_get _ _ _ _ hi, Nat.zero_add, byte_putB h j c i hj hc]
    by_cases hij : i = j
    · subst hij
      rw [if_pos rfl, List.getElem?_set_self (by rw [byL_len]; exact hi)]
    · rw [if_neg hij, List.getElem?_set_ne (fun e => hij e.symm), byL_get _ _ _ _ hi, Nat.zero_add]
  · rw [List.getElem?_eq_none (by rw [byL_len]; omega), List.getElem?_eq_none (by rw [List.length_set, byL_len]; omega)]
def mixO (o o2 : Ob) (k : Nat) : Ob := { o with fields := o2.fields.take (o.refs + k) ++ o.fields.drop (o.refs + k) }
theorem mixO_len (o o2 : Ob) (k : Nat) (hl : o2.fields.length = o.fields.length) : (mixO o o2 k).fields.length = o.fields.length := by
  simp [mixO, hl]; omega
theorem mixO_zero (o o2 : Ob) (h : ∀ i, i < o.refs → o2.fields[i]? = o.fields[i]?) (hl : o2.fields.length = o.fields.length) : mixO o o2 0 = o := by
  have e : o2.fields.take o.refs = o.fields.take o.refs := by
    apply List.ext_getElem?
    intro i
    rw [List.getElem?_take, List.getElem?_take]
    by_cases hi : i < o.refs
    · rw [if_pos hi, if_pos hi, h i hi]
    · rw [if_neg hi, if_neg hi]
  unfold mixO
  rw [Nat.add_zero, e, List.take_append_drop]
theorem mixO_succ (o o2 : Ob) (k : Nat) (hl : o2.fields.length = o.fields.length) (hk : o.refs + k < o.fields.length) : Ob.put (mixO o o2 k) (o.refs + k) (o2.fields.getD (o.refs + k) 0) = mixO o o2 (k + 1) := by
  unfold Ob.put mixO
  simp only
  congr 1
  rw [List.set_append_right _ _ (by rw [List.length_take]; omega), List.length_take, Nat.min_eq_left (by omega), Nat.sub_self]
  have h1 : o.fields.drop (o.refs + k) = o.fields[o.refs + k] :: o.fields.drop (o.refs + k + 1) := (List.drop_eq_getElem_cons hk)
  rw [h1, List.set_cons_zero, show o.refs + (k + 1) = o.refs + k + 1 by omega, List.take_add_one, List.append_assoc]
  have h2 : o2.fields[o.refs + k]? = some o2.fields[o.refs + k] := List.getElem?_eq_getElem (by omega)
  rw [h2, List.getD_eq_getElem?_getD, h2]
  rfl
theorem mixO_all (o o2 : Ob) (hl : o2.fields.length = o.fields.length) (hr : o.refs ≤ o.fields.length) (hk : o2.kind = o.kind) (h2 : o2.refs = o.refs) (hg : o2.gone = o.gone) : mixO o o2 o.raws = o2 := by
  unfold mixO Ob.raws
  rw [show o.refs + (o.fields.length - o.refs) = o.fields.length by omega, List.drop_length, List.append_nil, List.take_of_length_le (by omega), ← hk, ← h2, ← hg]
end Go.Proofs.Ytgjcffjicbmkhaa.RfS
end

section
namespace Go.Proofs.Ytgjcffjicbmkhaa.RfV
open Go Go.RowKit Go.Proofs.YtgjcffjicbmkhaaW.PrintWords Go.Proofs.YtgjcffjicbmkhaaW.PrintLast Go.Proofs.YtgjcffjicbmkhaaW.PrintMore Go.Proofs.Ytgjcffjicbmkhaa.RowU Go.Proofs.Ytgjcffjicbmkhaa.ArS Go.Proofs.Ytgjcffjicbmkhaa.ArM Go.Proofs.Ytgjcffjicbmkhaa.ArW Go.Proofs.Ytgjcffjicbmkhaa.ArX Go.Proofs.Ytgjcffjicbmkhaa.ArB Go.Proofs.Ytgjcffjicbmkhaa.GenM Go.Proofs.Ytgjcffjicbmkhaa.GenN Go.Proofs.Ytgjcffjicbmkhaa.GenS Go.Proofs.Ytgjcffjicbmkhaa.BokA Go.Proofs.Ytgjcffjicbmkhaa.ArP Go.Proofs.Ytgjcffjicbmkhaa.RfM Go.Proofs.Ytgjcffjicbmkhaa.RfF Go.Proofs.Ytgjcffjicbmkhaa.RfG Go.Proofs.Ytgjcffjicbmkhaa.RfH Go.Proofs.Ytgjcffjicbmkhaa.RfT Go.Proofs.Ytgjcffjicbmkhaa.RfB Go.Proofs.Ytgjcffjicbmkhaa.RfS Go.Proofs.Ytgjcffjicbmkhaa.LoadA Go.Proofs.Ytgjcffjicbmkhaa.PF
set_option linter.unusedVariables false
set_option maxRecDepth 100000
theorem cell_upd {S : Nat → Prop} {W W' : World} {ad : Addr} {u : Value} (hc : W.cell? ad = some u) (hu : Upd S W W') (hS : ¬ S ad.block) : W'.cell? ad = some u := by
  have hl := World.block_lt_of_cell? _ _ hc
  rw [← hc]
  simp only [World.cell?]
  rw [hu.block ad.block hl hS]
structure LA (w3 wr : World) (v : Value) (o : Ob) (f m : Nat) (bs : List Nat) (j : Nat) : Prop where
  gv : GV 5 wr v ((byL (putBs o f (bs.take j)) 0 m).map (Value.int .u8))
  upd : Upd (fun b => v.ownBlock = some b) w3 wr
theorem LA.step {w3 wr : World} {gA m cA : Nat} {o : Ob} {f : Nat} {bs : List Nat} {j y : Nat} (h : LA w3 wr (.slice (some ⟨gA, 0, none⟩) m cA) o f m bs j) (hok : o.ok) (hbs : ∀ c ∈ bs, c < 256) (hy : bs[j]? = some y) (hfm : f + bs.length ≤ m) (hm : m = 8 * o.raws) :
    LA w3 (wr.setCell ⟨gA, f + j, none⟩ (.int .u8 (y : Int))) (.slice (some ⟨gA, 0, none⟩) m cA) o f m bs (j + 1) := by
  have hj := (List.getElem?_eq_some_iff.1 hy).1
  obtain ⟨hG, _⟩ := GenAt.of_gv h.gv
  have h1 := gen_set hG (f + j) (by rw [List.length_map, byL_len]; omega) (.int .u8 (y : Int))
  have hok2 := putBs_ok (bs.take j) (fun c hc => hbs c (List.mem_of_mem_take hc)) f hok
  obtain ⟨s1, s2, s3, s4⟩ := putBs_same (bs.take j) o f
  have hlen := Ob.len hok
  have e : ((byL (putBs o f (bs.take j)) 0 m).map (Value.int .u8)).set (f + j) (.int .u8 (y : Int)) = (byL (putBs o f (bs.take (j + 1))) 0 m).map (Value.int .u8) := by
    rw [List.take_add_one, hy, Option.toList_some, putBs_snoc, List.length_take, Nat.min_eq_left (by omega), byL_putB hok2 (f + j) y m (by rw [s2, s3]; omega) (hbs y (List.mem_of_getElem? hy)), List.map_set]
  rw [e] at h1
  exact ⟨.inr ⟨gA, cA, by rw [List.length_map, byL_len], h1⟩, h.upd.put (.inl rfl) _ _⟩
structure LB (k : Nat) (w5 wr : World) (lo : Own) (g sz : Nat) (vo : Value) (es : List RO) (i : Nat) (x : RO) (o2 : Ob) (j : Nat) : Prop where
  ra : RA k wr lo g sz vo (es.set i ⟨mixO x.o o2 j, x.v⟩)
  upd : Upd (fun b => ∃ t, lo b = some (k, t)) w5 wr
theorem LB.step {k : Nat} {w5 wr : World} {lo : Own} {g sz : Nat} {vo : Value} {es : List RO} {i : Nat} {x : RO} {o2 : Ob} {j : Nat} (h : LB k w5 wr lo g sz vo es i x o2 j) (hi : i < es.length) {gf : Nat} (hg : x.v.ownBlock = some gf) (hl : o2.fields.length = x.o.fields.length) (hj : x.o.refs + j < x.o.fields.length) (hv : o2.fields.getD (x.o.refs + j) 0 < 18446744073709551616) :
    LB k w5 (wr.drew.setCell ⟨gf, x.o.refs + j, none⟩ (.int .u64 (o2.fields.getD (x.o.refs + j) 0 : Int))) lo g sz vo es i x o2 (j + 1) := by
  have hu : Upd none_ wr wr.drew := (Upd.refl none_ wr).drew
  have hd := h.ra.upd hu (fun _ _ _ h => h) (fun _ _ h => h)
  have hx : (es.set i ⟨mixO x.o o2 j, x.v⟩)[i]? = some ⟨mixO x.o o2 j, x.v⟩ := List.getElem?_set_self hi
  have ht := (h.ra.fl i _ hx).2 gf hg
  have h1 := hd.put hx (gf := gf) (j := x.o.refs + j) (v := o2.fields.getD (x.o.refs + j) 0) hg (by rw [mixO_len _ _ _ hl]; exact hj) hv
  rw [List.set_set, mixO_succ x.o o2 j hl hj] at h1
  exact ⟨h1, (h.upd.drew).put (.inl ⟨_, ht⟩) _ _⟩
def StbR (k : Nat) (W w' : World) (lo : Own) (g sz : Nat) (vo : Value) (es : List RO) (p f : Int) (bs : List Nat) (e : Ending) : Prop :=
  e = .returned (.int .i64 (stbR (obs es) p f bs).1) ∧ ∃ es', obs es' = (stbR (obs es) p f bs).2 ∧ RA k w' lo g sz vo es' ∧ Upd (fun b => ∃ t, lo b = some (k, t)) W w'
set_option maxHeartbeats 16000000 in
theorem setBytes.calls {k : Nat} {W : World} {lo : Own} {g sz : Nat} {vo : Value} {es : List RO} (h : RA k W lo g sz vo es) (hlt : ∀ b, lo b ≠ none → b < W.heap.size) (p f : Int) (hf : -9223372036854775808 ≤ f ∧ f < 9223372036854775808) (bs : List Nat) (hbs : ∀ c ∈ bs, c < 256) (Ad : Option Addr) (cd : Nat)
    (hcell : ∀ (i x : Nat), bs[i]? = some x → ∃ ad, Ad = some ad ∧ W.cell? (ad.add i) = some (.int .u8 (x : Int))) (hn : bs.length ≤ 9000000000000000) :
    Calls Try.prog 61 #[.pointer (some ⟨g, 0, none⟩), .int .i64 p, .int .i64 f, .slice Ad bs.length cd] W fun e w' => StbR k W w' lo g sz vo es p f bs e := by
  have H := Aside0.mk h
  have HLT := Aside0.mk hlt
  obtain ⟨A, c, hv, hcc⟩ := GenS.own_slice h.tb
  subst hv
  clear h hlt
  obtain ⟨nb, hnb⟩ : ∃ nb, nb = bs.length := ⟨_, rfl⟩
  have HNB := Aside0.mk hnb
  have HCELL := Aside0.mk hcell
  have HBS := Aside0.mk hbs
  rw [← hnb] at hn
  rw [← hnb]
  clear hnb hcell hbs
  have HBC := Aside0.mk (bytes.calls H.out p f (nb : Int) hf (by omega))
  go_enter Try.func61, Try.ntmps61
  go_wp2_with fail
  refine HBC.out.mono ?_
  clear HBC
  rintro e w1 (⟨er, h1, rfl, hb⟩ | ⟨h0, i, x, f', n', v1, hx, hat, hgone, rfl, hn', hfn, rfl, -, -, hb⟩)
  · have HR := Aside0.mk (show stbR (obs es) p f bs = (er, obs es) by unfold stbR; rw [← HNB.out, h1])
    have HB := Aside0.mk hb
    have hne : (er != 0) = true := by
      have : er = 23 ∨ er = 26 ∨ er = 25 := by
        unfold bytErr at h1
        cases hbd : badOf (obs es) p with
        | some e => rw [hbd] at h1; simp only at h1; obtain rfl := Option.some.inj h1; rcases badOf_val hbd with h | h <;> omega
        | none =>
          rw [hbd] at h1
          cases hq : obAt (obs es) p with
          | none => rw [hq] at h1; cases h1
          | some y =>
            rw [hq] at h1
            simp only at h1
            split at h1
            · cases h1
            · obtain rfl := Option.some.inj h1; exact .inr (.inr rfl)
      rcases this with rfl | rfl | rfl <;> rfl
    clear h1 hb
    go_wp2_with fail
    go_ret
    exact ⟨by rw [HR.out]; rfl, es, by rw [HR.out], H.out.below HB.out, Upd.of_below HB.out⟩
  · obtain rfl : nb = n' := by omega
    have HB := Aside0.mk hb
    have H1 := Aside0.mk (H.out.below hb)
    have HFC := Aside0.mk (find.calls H1.out p)
    rw [show fiR (obs es) p = i by unfold fiR; rw [hat]] at HFC
    have HR := Aside0.mk (show stbR (obs es) p f' bs = (0, (obs es).set i (putBs x.o f' bs)) by unfold stbR; rw [← HNB.out, h0, hat]; rfl)
    have HX := Aside0.mk (And.intro hx (And.intro hgone hfn))
    clear h0 hx hat hgone hn' hb
    go_wp2_with fail
    refine HFC.out.mono ?_
    clear HFC
    rintro e w2 ⟨rfl, hb⟩
    have HB2 := Aside0.mk (below_next HB.out hb)
    have H2 := Aside0.mk (H1.out.below hb)
    clear hb HB H1
    obtain ⟨hok, hfl, hr, hs⟩ := H2.out.okx HX.out.1
    have hi : i < es.length := (List.getElem?_eq_some_iff.1 HX.out.1).1
    obtain ⟨go, cap, cur, e1, e2, e3, e4, e5⟩ := H2.out.ob HX.out.1
    simp only [Value.slice.injEq] at e1
    obtain ⟨rfl, _, rfl⟩ := e1
    have hF := ((H2.out.fl i x HX.out.1).1)
    obtain ⟨Af, cf, hff⟩ := hF.slice
    rw [List.length_map] at hff
    obtain ⟨nf, hnf⟩ : ∃ nf, nf = x.o.fields.length := ⟨_, rfl⟩
    rw [← hnf] at hff hfl
    have HC : Aside0 (∀ j u, (#[.int .i64 (place (obs es) i : Int), .int .i64 (x.o.kind : Int), .int .i64 (x.o.refs : Int), .slice Af nf cf, .bool x.o.gone.isSome, .int .i64 ((x.o.gone.getD 0 : Nat) : Int)]).toList[j]? = some u → w2.cell? ((⟨go, i * 6, none⟩ : Addr).add j) = some u) := ⟨fun j u hu => by
      rw [Addr.add_lit]
      exact e5 j u (by rw [← hu]; simp [oc, hff])⟩
    have HSZ := Aside0.mk (show (Try.prog.info? 152).map (·.size) = some 6 by kernel_rfl)
    have HSZ2 := Aside0.mk (show (Try.prog.info? 152).map (·.size) = some (#[.int .i64 (place (obs es) i : Int), .int .i64 (x.o.kind : Int), .int .i64 (x.o.refs : Int), .slice Af nf cf, .bool x.o.gone.isSome, .int .i64 ((x.o.gone.getD 0 : Nat) : Int)] : Array Value).size by kernel_rfl)
    have HONE := Aside0.mk (show (#[.int .i64 (place (obs es) i : Int), .int .i64 (x.o.kind : Int), .int .i64 (x.o.refs : Int), .slice Af nf cf, .bool x.o.gone.isSome, .int .i64 ((x.o.gone.getD 0 : Nat) : Int)] : Array Value).all (·.oneCell') = true by simp [Value.oneCell'])
    have hcf : nf ≤ cf := by
      rcases hF with ⟨e, hnil⟩ | ⟨gf, cf', ef, hG⟩
      · have h5 := congrArg List.length hnil
        rw [List.length_map, List.length_nil] at h5
        omega
      · obtain ⟨cur', _, q1, q2, _⟩ := hG
        rw [hff] at ef
        simp only [Value.slice.injEq] at ef
        rw [List.length_map] at q2
        omega
    have hx2 := H2.out.c2
    have hi' : (i : Int) < es.length := by omega
    have hi0 : (0 : Int) ≤ i := by omega
    have hr9 : (x.o.refs : Int) ≤ nf := by omega
    have hr8 : (x.o.refs : Int) ≤ cf := by omega
    have hr0 : (0 : Int) ≤ x.o.refs := by omega
    have HX2 := Aside0.mk (And.intro hok (And.intro hfl (And.intro hr (And.intro hs (And.intro hff hnf)))))
    have HF := Aside0.mk hF
    clear hok hfl hr hs hff hnf hF e2 e3 e4 e5
    go_upto_region 6 with (first
      | ((with_reducible refine gate_dst (N := 40) rfl ?_); refine wpList_load_at rfl 152 (.tmp 39) rfl (⟨go, i * 6, none⟩ : Addr) rfl (#[.int .i64 (place (obs es) i : Int), .int .i64 (x.o.kind : Int), .int .i64 (x.o.refs : Int), .slice Af nf cf, .bool x.o.gone.isSome, .int .i64 ((x.o.gone.getD 0 : Nat) : Int)]).toList _ HC.out Try.underlying152 rfl HSZ.out ?_)
      | ((with_reducible refine gate_dst (N := 12) rfl ?_); refine box_event ?hg (N := 12) ?hd (cs := #[.int .i64 0, .int .i64 0, .int .i64 0, .slice none 0 0, .bool false, .int .i64 0]) (t := 152) ?hr ?_; (case hd => rfl); (case hg => rfl); (case hr => first | (go_simp; done) | (go_simp; rfl)); intro ga hga w7 hbox hb; have BA := Aside0.mk hbox; have HB7 := Aside0.mk hb; have GA := Aside0.mk hga; clear hbox hb hga)
      | ((with_reducible refine gate_store (p := 12) rfl ?_); refine wpList_store_row rfl 152 (.tmp 12) (.tmp 40) rfl ga #[.int .i64 (place (obs es) i : Int), .int .i64 (x.o.kind : Int), .int .i64 (x.o.refs : Int), .slice Af nf cf, .bool x.o.gone.isSome, .int .i64 ((x.o.gone.getD 0 : Nat) : Int)] rfl rfl 152 #[.int .i64 0, .int .i64 0, .int .i64 0, .slice none 0 0, .bool false, .int .i64 0] BA.out HSZ2.out rfl HONE.out ?_; obtain ⟨w8, hw8⟩ : ∃ w8, w8 = w7.setRow ga #[.int .i64 (place (obs es) i : Int), .int .i64 (x.o.kind : Int), .int .i64 (x.o.refs : Int), .slice Af nf cf, .bool x.o.gone.isSome, .int .i64 ((x.o.gone.getD 0 : Nat) : Int)] := ⟨_, rfl⟩; rw [← hw8]; have BC := Aside0.mk (show w8.heap[ga]? = some (.cells #[.int .i64 (place (obs es) i : Int), .int .i64 (x.o.kind : Int), .int .i64 (x.o.refs : Int), .slice Af nf cf, .bool x.o.gone.isSome, .int .i64 ((x.o.gone.getD 0 : Nat) : Int)] 152 (0, 0)) by rw [hw8]; exact setRow_heap _ _ _ _ _ _ BA.out); have HB8 := Aside0.mk (show Below w2.heap.size w2 w8 by rw [hw8]; exact below_setRow HB7.out (by rw [GA.out]; exact Nat.le_refl _) _); clear hw8))
    generalize Value.agg (#[.int .i64 (place (obs es) i : Int), .int .i64 (x.o.kind : Int), .int .i64 (x.o.refs : Int), .slice Af nf cf, .bool x.o.gone.isSome, .int .i64 ((x.o.gone.getD 0 : Nat) : Int)]).toList.toArray = vq
    clear hx2
    have H8 := Aside0.mk (H2.out.below HB8.out)
    have b2 : w8.cell? ⟨ga, 2, none⟩ = some (.int .i64 (x.o.refs : Int)) := (blk_cell BC.out 2).trans rfl
    have b3 : w8.cell? ⟨ga, 3, none⟩ = some (.slice Af nf cf) := (blk_cell BC.out 3).trans rfl
    obtain ⟨Ar, hAr⟩ : ∃ Ar, (if cf = x.o.refs then Af else Option.map (fun a => a.add x.o.refs) Af) = Ar := ⟨_, rfl⟩
    obtain ⟨nr, hnr⟩ : ∃ nr, nf - x.o.refs = nr := ⟨_, rfl⟩
    obtain ⟨cr, hcr⟩ : ∃ cr, cf - x.o.refs = cr := ⟨_, rfl⟩
    have hnr2 : nr = x.o.raws := by have := HX2.out.2.1; omega
    have hnc : nr ≤ cr := by omega
    have hraw : nr ≤ 1048576 := by have := HX2.out.2.2.2.1; omega
    obtain ⟨m, hm⟩ : ∃ m, m = 8 * nr := ⟨_, rfl⟩
    have hCR : (Kd.int .u64).C w2 Ar nr (rl x.o) := by
      have h5 := cut_reads (r := x.o.refs) (l := x.o.fields) (cf := cf) (nf := nf) (Af := Af) (by rw [← HX2.out.2.2.2.2.1]; exact HF.out) HX2.out.2.2.2.2.2 hcf (by omega) (by have := HX2.out; omega)
      rw [hAr] at h5
      have e : ((x.o.fields.drop x.o.refs).map Int.ofNat).length = nr := by rw [hnr2]; exact rl_len x.o
      rw [e] at h5
      exact h5
    obtain ⟨K, hK⟩ := Ev.rounds (RefU.Unpack_ok (rl x.o) (rl_in HX2.out.1) m (by rw [rl_len]; omega) (by omega) (by rw [rl_len]; omega))
    have HU : Aside0 (∀ w, Below w2.heap.size w2 w → Calls Try.prog 84 #[.slice Ar nr cr, .int .i64 (m : Int)] w fun e w' => ∃ v0_ : Value, e = .returned (.tuple #[v0_, .int .i64 0]) ∧ Kd.R (Kd.int .u8) 5 w' w.heap.size (fun _ => True) v0_ (byL x.o 0 m) ∧ Below w.heap.size w w') := ⟨fun w hb => by
      have h5 := larderref1_Unpack.calls K Ar cr (rl x.o) (m : Int) _ _ w (by rw [rl_len, ← hnr2]; exact Kd.C_below hCR hb) (by rw [rl_len]; omega) hK
      rw [unpack_rl, rl_len, ← hnr2] at h5
      exact h5⟩
    have HMM := Aside0.mk (And.intro hm hnr2)
    have hm9 : (m : Int) ≤ 8388608 := by omega
    have HEQ := Aside0.mk (NumB.mul_i 8 (nr : Int) m (by omega) (by omega))
    clear hnr2 hCR hK hm
    go_upto_region 7 with fail
    clear hAr hnr hcr
    obtain ⟨e1, f1⟩ := HEQ.out
    go_wp2_with fail
    clear e1 f1
    refine (HU.out _ HB8.out).mono ?_
    rintro e w3 ⟨v3, rfl, hR, hb⟩
    obtain ⟨hG3, hG3n⟩ := FreM.gv_of_R hR
    obtain ⟨Aa, ca, rfl⟩ := hG3.slice
    rw [List.length_map, byL_len] at hG3 hG3n
    rw [List.length_map, byL_len]
    have HG3 := Aside0.mk (And.intro hG3 hG3n)
    have H3 := Aside0.mk (H8.out.below hb)
    have HB3 := Aside0.mk (below_next (below_next HB2.out HB8.out) hb)
    have b2' := pw_cell_below hb b2
    have HB38 := Aside0.mk hb
    clear hR hb hG3 hG3n b2 b3
    have hm2 : m = 8 * x.o.raws := by have := HMM.out; omega
    have HLA0 : Aside0 (LA w3 w3 (.slice Aa m ca) x.o f' m bs 0) := ⟨⟨HG3.out.1, Upd.refl _ _⟩⟩
    have HM2 := Aside0.mk hm2
    clear hm2
    go_upto_region 9 with fail
    go_loopw [16] (fun i wr => ∃ j : Nat, j ≤ nb ∧ i = .int .i64 j ∧ Aside0 (LA w3 wr (.slice Aa m ca) x.o f' m bs j)) (fun i _ => nb - (intOf i).toNat)
    case atStart => exact ⟨0, by omega, rfl, HLA0⟩
    case round =>
      obtain ⟨j, hj, rfl, HLA⟩ := hrel
      clear HLA0
      rename World => wr
      by_cases hlt : j < nb
      · have hlt' : (j : Int) < nb := by omega
        have hj0 : (0 : Int) ≤ j := by omega
        obtain ⟨y, hy⟩ : ∃ y, bs[j]? = some y := ⟨_, List.getElem?_eq_getElem (by have := HNB.out; omega)⟩
        obtain ⟨ad, rfl, hcy⟩ := HCELL.out j y hy
        obtain ⟨s, hs⟩ : ∃ s, s = f' + j := ⟨_, rfl⟩
        have hsm : (s : Int) < m := by have := HX.out.2.2; have := HM2.out; omega
        have hs0 : (0 : Int) ≤ s := by omega
        obtain ⟨gA, hgA⟩ : ∃ gA, Aa = some ⟨gA, 0, none⟩ := by
          rcases HLA.out.gv with ⟨e, hnil⟩ | ⟨g', c', e, _⟩
          · have h5 := congrArg List.length hnil
            rw [List.length_map, byL_len, List.length_nil] at h5
            omega
          · simp only [Value.slice.injEq] at e; exact ⟨g', e.1⟩
        subst hgA
        obtain ⟨hGA, -⟩ := GenAt.of_gv HLA.out.gv
        obtain ⟨old, hold⟩ : ∃ old, ((byL (putBs x.o f' (bs.take j)) 0 m).map (Value.int .u8))[s]? = some old := ⟨_, List.getElem?_eq_getElem (by rw [List.length_map, byL_len]; omega)⟩
        have hkk := hGA.get s old hold
        have hfz := gen_frozen hGA s
        have hgn := HG3.out.2 gA rfl
        have hcd := cell_upd (cell_upd hcy (Upd.of_below HB3.out) (S := none_) (fun h => h)) HLA.out.upd (fun e => by
          have h5 : gA = (ad.add j).block := Option.some.inj e
          have h6 : (ad.add j).block < W.heap.size := World.block_lt_of_cell? _ _ hcy
          have h7 := HB2.out.size
          have h8 := HB8.out.size
          omega)
        have HEQ2 := Aside0.mk (NumB.sum_i (f' : Int) j s (by omega) (by omega))
        have HLA2 := Aside0.mk (HLA.out.step HX2.out.1 HBS.out hy (by have := HX.out.2.2; have := HM2.out; have := HNB.out; omega) HM2.out)
        rw [← hs] at HLA2
        clear hy hcy hs hGA hold hgn
        obtain ⟨e1, f1⟩ := HEQ2.out
        go_wp2_with fail
        clear e1 f1
        first
          | exact ⟨⟨j + 1, by omega, by rw [Int.natCast_succ], HLA2⟩, by simp only [intOf]; omega⟩
          | (go_roundw
             case measure => simp only [intOf]; omega
             case rel => first | exact ⟨j + 1, by omega, by rw [Int.natCast_succ], HLA2⟩ | ((repeat apply Exists.intro); exact ⟨⟨j + 1, by omega, by rw [Int.natCast_succ], HLA2⟩, rfl⟩))
      · obtain rfl : j = nb := by omega
        clear hlt
        obtain ⟨o2, ho2⟩ : ∃ o2, o2 = putBs x.o f' bs := ⟨_, rfl⟩
        have hgv := HLA.out.gv
        rw [HNB.out, List.take_length, ← ho2] at hgv
        obtain ⟨s1, s2, s3, s4⟩ := putBs_same bs x.o f'
        rw [← ho2] at s1 s2 s3 s4
        have hok2 : o2.ok := by rw [ho2]; exact putBs_ok bs HBS.out f' HX2.out.1
        have hraws : o2.raws = x.o.raws := by unfold Ob.raws; rw [s2, s3]
        have hpk : RefU.pack (byL o2 0 m) = rl o2 := by rw [HM2.out, ← hraws]; exact pack_rl hok2
        obtain ⟨q1, q2, q3⟩ := FreM.gu_reads (FreM.GU.of_gv hgv)
        obtain ⟨K2, hK2⟩ := Ev.rounds (RefU.Pack (byL o2 0 m) (byL_in _ _ _) (by rw [byL_len]; have := HMM.out; omega))
        rw [hpk] at hK2
        have HPK := Aside0.mk (larderref1_Pack.calls K2 Aa ca (byL o2 0 m) _ wr q3 q2 hK2)
        rw [byL_len] at HPK
        have HO2 := Aside0.mk (And.intro ho2 (And.intro s1 (And.intro s2 (And.intro s3 (And.intro s4 (And.intro hok2 hraws))))))
        have HWR : Aside0 (Upd (fun b => w3.heap.size ≤ b ∨ w8.heap.size ≤ b) w3 wr) := ⟨HLA.out.upd.mono (fun b hb => .inr (HG3.out.2 b hb))⟩
        clear hgv s1 s2 s3 s4 hok2 hraws hpk q1 q2 q3 hK2 ho2
        go_wp2_with fail
        refine HPK.out.mono ?_
        clear HPK
        rintro e w5 ⟨v5, rfl, hR, hb⟩
        obtain ⟨A5, c5, rfl, hc5, hC5⟩ := Kd.R_reads hR
        have e5l : (rl o2).length = nr := by rw [rl_len, HO2.out.2.2.2.2.2.2]; exact HMM.out.2.symm
        rw [e5l] at hc5 hC5
        rw [e5l]
        have u38 : Upd (fun b => w8.heap.size ≤ b) w8 wr := ((Upd.of_below HB38.out).trans (HLA.out.upd.mono (fun b hb => HG3.out.2 b hb)))
        have u85 : Below w8.heap.size w8 wr := u38.below _ (Nat.le_refl _) (fun b hb => hb)
        have H5 := Aside0.mk ((H8.out.below u85).below hb)
        have HB5 := Aside0.mk (below_next (below_next (below_next HB2.out HB8.out) u85) hb)
        have hb2 : w5.cell? ⟨ga, 2, none⟩ = some (.int .i64 (x.o.refs : Int)) := ((blk_cell (blk_below (blk_below BC.out u85) hb) 2)).trans rfl
        have HB2c := Aside0.mk hb2
        have HC5 := Aside0.mk hC5
        have HW5 : Aside0 (∀ wq ad u, Upd (fun b => ∃ t, lo b = some (k, t)) w5 wq → w5.cell? ad = some u → W.heap.size ≤ ad.block → wq.cell? ad = some u) := ⟨fun wq ad u hu hc hbk => cell_upd hc hu (fun ⟨t, ht⟩ => by have := HLT.out ad.block (by rw [ht]; simp); omega)⟩
        have hgal : W.heap.size ≤ ga := by rw [GA.out]; exact HB2.out.size
        have HGA := Aside0.mk hgal
        have hA5 : ∀ b, (Value.slice A5 nr c5).ownBlock = some b → W.heap.size ≤ b := fun b hb6 => by
          have h5 := (FreM.gv_of_R hR).2 b (by cases A5 <;> exact hb6)
          have h6 := u85.size
          have h7 := HB8.out.size
          have h8 := HB2.out.size
          omega
        have HA5 := Aside0.mk hA5
        have HLB0 : Aside0 (LB k w5 w5 lo g sz (.slice (some ⟨go, 0, none⟩) es.length c) es i x o2 0) := ⟨by
          refine ⟨?_, Upd.refl _ _⟩
          rw [mixO_zero x.o o2 (fun i' hi' => by rw [HO2.out.1]; exact BytO.field_putBs bs f' i' hi') HO2.out.2.2.2.1]
          have e6 : es.set i ⟨x.o, x.v⟩ = es := by
            apply List.ext_getElem?
            intro n
            by_cases hn : i = n
            · subst hn; rw [List.getElem?_set_self hi, HX.out.1]
            · rw [List.getElem?_set_ne hn]
          rw [e6]
          exact H5.out⟩
        clear hR hb hC5 e5l u38 u85 hb2 hgal hA5
        go_upto_region 14 with fail
        go_loopw [18] (fun i' wq => ∃ j : Nat, j ≤ nr ∧ i' = .int .i64 j ∧ Aside0 (LB k w5 wq lo g sz (.slice (some ⟨go, 0, none⟩) es.length c) es i x o2 j)) (fun i' _ => nr - (intOf i').toNat)
        case atStart => exact ⟨0, by omega, rfl, HLB0⟩
        case round =>
          obtain ⟨j, hj, rfl, HLB⟩ := hrel
          clear HLB0
          rename World => wq
          by_cases hlt : j < nr
          · have hlt' : (j : Int) < nr := by omega
            have hj0 : (0 : Int) ≤ j := by omega
            have hy : (es.set i ⟨mixO x.o o2 j, x.v⟩)[i]? = some ⟨mixO x.o o2 j, x.v⟩ := List.getElem?_set_self hi
            obtain ⟨go', cap', cur', e1, e2, e3, e4, e5⟩ := HLB.out.ra.ob hy
            rw [List.length_set] at e1
            simp only [Value.slice.injEq, Option.some.injEq, Addr.mk.injEq, and_true] at e1
            obtain ⟨rfl, -, rfl⟩ := e1
            have hx2 := HLB.out.ra.c2
            have hc3 : wq.cell? ⟨go, i * 6 + 3, none⟩ = some (.slice Af nf cf) := by rw [← HX2.out.2.2.2.2.1]; exact e5 3 _ rfl
            have hb2 := HW5.out wq _ _ HLB.out.upd HB2c.out HGA.out
            obtain ⟨ad5, c5', rfl, hl5, hk5, hc5c⟩ := Kd.C_get HC5.out 0 (j : Int) hj0 hlt'
            rw [Int.toNat_natCast] at hk5 hc5c
            obtain rfl : c5' = [.int .u64 ((rl o2).getD j 0)] := hk5
            have hv5 : (rl o2).getD j 0 = ((o2.fields.getD (x.o.refs + j) 0 : Nat) : Int) := by
              unfold rl
              rw [List.getD_eq_getElem?_getD, List.getElem?_map, List.getElem?_drop, HO2.out.2.2.1, List.getD_eq_getElem?_getD]
              cases o2.fields[x.o.refs + j]? <;> rfl
            have hcc5 := hc5c 0 _ rfl
            rw [hv5, show j * (Kd.int .u64).sz + 0 = j from by show j * 1 + 0 = _; omega] at hcc5
            have hcl := HW5.out wq _ _ HLB.out.upd hcc5 (HA5.out _ (by simp [Value.ownBlock, Addr.add]; split <;> rfl))
            obtain ⟨vv, hvv⟩ : ∃ vv, vv = o2.fields.getD (x.o.refs + j) 0 := ⟨_, rfl⟩
            obtain ⟨s, hs⟩ : ∃ s, s = x.o.refs + j := ⟨_, rfl⟩
            have hsn : s < nf := by have := HX2.out.2.1; have := HMM.out; omega
            have hsm : (s : Int) < nf := by omega
            have hsb : s ≤ 2097152 := by have := HX2.out.2.2.1; omega
            have hs0 : (0 : Int) ≤ s := by omega
            have hvl : vv < 18446744073709551616 := by rw [hvv]; exact getD_lt HO2.out.2.2.2.2.2.1 _
            have hGf := (HLB.out.ra.fl i _ hy).1
            rw [show (RO.mk (mixO x.o o2 j) x.v).v = x.v from rfl, HX2.out.2.2.2.2.1] at hGf
            obtain ⟨gf, hgf⟩ : ∃ gf, Af = some ⟨gf, 0, none⟩ := by
              rcases hGf with ⟨e, hnil⟩ | ⟨g', c', e, _⟩
              · have h5 := congrArg List.length hnil
                rw [List.length_map, List.length_nil, mixO_len _ _ _ HO2.out.2.2.2.1] at h5
                have := HX2.out.2.2.2.2.2
                omega
              · simp only [Value.slice.injEq] at e; exact ⟨g', e.1⟩
            subst hgf
            obtain ⟨hGG, -⟩ := GenAt.of_gv hGf
            obtain ⟨old, hold⟩ : ∃ old, ((mixO x.o o2 j).fields.map RowU.u64)[s]? = some old := ⟨_, List.getElem?_eq_getElem (by rw [List.length_map, mixO_len _ _ _ HO2.out.2.2.2.1]; have := HX2.out.2.2.2.2.2; omega)⟩
            have hkk := hGG.get s old hold
            have hfz := gen_frozen hGG s
            have HEQ2 := Aside0.mk (NumB.sum_i (x.o.refs : Int) j s (by omega) (by omega))
            have HLB2 := Aside0.mk (HLB.out.step hi (gf := gf) (by rw [HX2.out.2.2.2.2.1]; rfl) HO2.out.2.2.2.1 (by rw [← HX2.out.2.2.2.2.2, ← hs]; exact hsn) (by rw [← hvv]; exact hvl))
            rw [← hvv, ← hs] at HLB2
            rw [← hvv] at hcl
            clear hy e2 e3 e4 e5 hl5 hc5c hv5 hcc5 hvv hs hGf hGG hold hvl
            obtain ⟨e1, f1⟩ := HEQ2.out
            go_wp2_with fail
            go_still_tail 17, (by kernel_rfl)
            change wpList _ _ _ _ _ wq.drew
            go_wp2_with fail
            clear e1 f1
            exact ⟨⟨j + 1, by omega, by rw [Int.natCast_succ], HLB2⟩, by simp only [intOf]; omega⟩
          · obtain rfl : j = nr := by omega
            go_wp2_with fail
            go_ret
            refine ⟨by rw [HR.out]; rfl, _, ?_, HLB.out.ra, (Upd.of_below HB5.out).trans HLB.out.upd⟩
            rw [obs_set, HR.out]
            show (obs es).set i (mixO x.o o2 j) = (obs es).set i (putBs x.o f' bs)
            rw [HMM.out.2, mixO_all x.o o2 HO2.out.2.2.2.1 HX2.out.1.r2 HO2.out.2.1 HO2.out.2.2.1 HO2.out.2.2.2.2.1, HO2.out.1]
end Go.Proofs.Ytgjcffjicbmkhaa.RfV
end

section
namespace Go.Proofs.Ytgjcffjicbmkhaa.PF
open Go.RowKit Go.Proofs.YtgjcffjicbmkhaaW.PrintWords Go.Proofs.YtgjcffjicbmkhaaW.PrintLast Go.Proofs.YtgjcffjicbmkhaaW.PrintMore
attribute [local go_sem] max2_int min2_int max_two min_two max_three min_three max_four min_four   -- for this text's walks alone
set_option linter.unusedVariables false
set_option linter.unusedSimpArgs false
def larderref1_Head.f (a0 : Int) (a1 : Int) (a2 : Int) : Option (Int × Int) := if a0 < 1 then (some (0, 10)) else (if a0 > 255 then (some (0, 10)) else (if a1 < 0 then (some (0, 10)) else (if a1 > 1048576 then (some (0, 10)) else (if a2 < 0 then (some (0, 10)) else (if a2 > 1048576 then (some (0, 10)) else (some (IntKind.u64.wrap ((IntKind.u64.wrap ((IntKind.u64.wrap (a0)) + (IntKind.u64.wrap (256 * (IntKind.u64.wrap (a1)))))) + (IntKind.u64.wrap (4294967296 * (IntKind.u64.wrap (a2))))), 0)))))))
set_option maxHeartbeats 8000000 in
set_option maxRecDepth 100000 in
theorem larderref1_Head.calls (a0 : Int) (a1 : Int) (a2 : Int) (r1 : Int) (r2 : Int) (w : World) (h : larderref1_Head.f a0 a1 a2 = some (r1, r2)) :
    Calls Try.prog 80 #[.int .i64 a0, .int .i64 a1, .int .i64 a2] w fun e w' => e = .returned (.tuple #[.int .u64 r1, .int .i64 r2]) ∧ Drawn0 w w' := by
  have H : (if a0 < 1 then (some (0, 10)) else (if a0 > 255 then (some (0, 10)) else (if a1 < 0 then (some (0, 10)) else (if a1 > 1048576 then (some (0, 10)) else (if a2 < 0 then (some (0, 10)) else (if a2 > 1048576 then (some (0, 10)) else (some (IntKind.u64.wrap ((IntKind.u64.wrap ((IntKind.u64.wrap (a0)) + (IntKind.u64.wrap (256 * (IntKind.u64.wrap (a1)))))) + (IntKind.u64.wrap (4294967296 * (IntKind.u64.wrap (a2))))), 0)))))))) = some (r1, r2) := h
  clear h
  by_cases c4 : a0 < 1
  · rw [if_pos c4] at H
    have c4b0 : decide (a0 < 1) = true := decide_eq_true c4
    clear c4
    simp only [Option.some.injEq, Prod.mk.injEq] at H
    obtain ⟨rfl, rfl⟩ := H
    go_enter Try.func80, Try.ntmps80
    go_wp2
    go_ret2
    exact ⟨by first | rfl | (simp; done) | (simp [*]; done), by repeat (first | exact Drawn0.refl _ | apply Drawn0.step)⟩
  · rw [if_neg c4] at H
    have c4b0 : decide (a0 < 1) = false := decide_eq_false c4
    clear c4
    by_cases c5 : a0 > 255
    · rw [if_pos c5] at H
      have c5b0 : decide (255 < a0) = true := decide_eq_true c5
      clear c5
      simp only [Option.some.injEq, Prod.mk.injEq] at H
      obtain ⟨rfl, rfl⟩ := H
      go_enter Try.func80, Try.ntmps80
      go_wp2
      go_ret2
      exact ⟨by first | rfl | (simp; done) | (simp [*]; done), by repeat (first | exact Drawn0.refl _ | apply Drawn0.step)⟩
    · rw [if_neg c5] at H
      have c5b0 : decide (255 < a0) = false := decide_eq_false c5
      clear c5
      by_cases c6 : a1 < 0
      · rw [if_pos c6] at H
        have c6b0 : decide (a1 < 0) = true := decide_eq_true c6
        clear c6
        simp only [Option.some.injEq, Prod.mk.injEq] at H
        obtain ⟨rfl, rfl⟩ := H
        go_enter Try.func80, Try.ntmps80
        go_wp2
        go_ret2
        exact ⟨by first | rfl | (simp; done) | (simp [*]; done), by repeat (first | exact Drawn0.refl _ | apply Drawn0.step)⟩
      · rw [if_neg c6] at H
        have c6b0 : decide (a1 < 0) = false := decide_eq_false c6
        clear c6
        by_cases c7 : a1 > 1048576
        · rw [if_pos c7] at H
          have c7b0 : decide (1048576 < a1) = true := decide_eq_true c7
          clear c7
          simp only [Option.some.injEq, Prod.mk.injEq] at H
          obtain ⟨rfl, rfl⟩ := H
          go_enter Try.func80, Try.ntmps80
          go_wp2
          go_ret2
          exact ⟨by first | rfl | (simp; done) | (simp [*]; done), by repeat (first | exact Drawn0.refl _ | apply Drawn0.step)⟩
        · rw [if_neg c7] at H
          have c7b0 : decide (1048576 < a1) = false := decide_eq_false c7
          clear c7
          by_cases c8 : a2 < 0
          · rw [if_pos c8] at H
            have c8b0 : decide (a2 < 0) = true := decide_eq_true c8
            clear c8
            simp only [Option.some.injEq, Prod.mk.injEq] at H
            obtain ⟨rfl, rfl⟩ := H
            go_enter Try.func80, Try.ntmps80
            go_wp2
            go_ret2
            exact ⟨by first | rfl | (simp; done) | (simp [*]; done), by repeat (first | exact Drawn0.refl _ | apply Drawn0.step)⟩
          · rw [if_neg c8] at H
            have c8b0 : decide (a2 < 0) = false := decide_eq_false c8
            clear c8
            by_cases c9 : a2 > 1048576
            · rw [if_pos c9] at H
              have c9b0 : decide (1048576 < a2) = true := decide_eq_true c9
              clear c9
              simp only [Option.some.injEq, Prod.mk.injEq] at H
              obtain ⟨rfl, rfl⟩ := H
              go_enter Try.func80, Try.ntmps80
              go_wp2
              go_ret2
              exact ⟨by first | rfl | (simp; done) | (simp [*]; done), by repeat (first | exact Drawn0.refl _ | apply Drawn0.step)⟩
            · rw [if_neg c9] at H
              have c9b0 : decide (1048576 < a2) = false := decide_eq_false c9
              clear c9
              simp only [Option.some.injEq, Prod.mk.injEq] at H
              obtain ⟨rfl, rfl⟩ := H
              go_enter Try.func80, Try.ntmps80
              go_wp2
              go_ret2
              exact ⟨by first | rfl | (simp; done) | (simp [*]; done), by repeat (first | exact Drawn0.refl _ | apply Drawn0.step)⟩
end Go.Proofs.Ytgjcffjicbmkhaa.PF
end

section
namespace Go.Proofs.Ytgjcffjicbmkhaa.RfA
open Go Go.RowKit Go.Proofs.YtgjcffjicbmkhaaW.PrintWords Go.Proofs.YtgjcffjicbmkhaaW.PrintLast Go.Proofs.YtgjcffjicbmkhaaW.PrintMore Go.Proofs.Ytgjcffjicbmkhaa.RowU Go.Proofs.Ytgjcffjicbmkhaa.ArS Go.Proofs.Ytgjcffjicbmkhaa.ArM Go.Proofs.Ytgjcffjicbmkhaa.ArW Go.Proofs.Ytgjcffjicbmkhaa.ArX Go.Proofs.Ytgjcffjicbmkhaa.ArY Go.Proofs.Ytgjcffjicbmkhaa.ArT Go.Proofs.Ytgjcffjicbmkhaa.GenM Go.Proofs.Ytgjcffjicbmkhaa.GenN Go.Proofs.Ytgjcffjicbmkhaa.GenS Go.Proofs.Ytgjcffjicbmkhaa.BokA Go.Proofs.Ytgjcffjicbmkhaa.ArP Go.Proofs.Ytgjcffjicbmkhaa.RfM Go.Proofs.Ytgjcffjicbmkhaa.RfF Go.Proofs.Ytgjcffjicbmkhaa.RfG Go.Proofs.Ytgjcffjicbmkhaa.RfH Go.Proofs.Ytgjcffjicbmkhaa.PF
set_option linter.unusedVariables false
set_option maxRecDepth 100000
theorem head_yes (k r s : Int) (h : PA.headOk k r s) : larderref1_Head.f k r s = some (k + 256 * r + 4294967296 * s, 0) := by
  obtain ⟨h1, h2, h3, h4, h5, h6⟩ := h
  unfold larderref1_Head.f
  rw [if_neg (by omega), if_neg (by omega), if_neg (by omega), if_neg (by omega), if_neg (by omega), if_neg (by omega)]
  simp only [IntKind.wrap_u64, Option.some.injEq, Prod.mk.injEq, and_true]
  omega
theorem head_no (k r s : Int) (h : ¬ PA.headOk k r s) : larderref1_Head.f k r s = some (0, 10) := by
  unfold larderref1_Head.f
  by_cases c1 : k < 1
  · rw [if_pos c1]
  rw [if_neg c1]
  by_cases c2 : k > 255
  · rw [if_pos c2]
  rw [if_neg c2]
  by_cases c3 : r < 0
  · rw [if_pos c3]
  rw [if_neg c3]
  by_cases c4 : r > 1048576
  · rw [if_pos c4]
  rw [if_neg c4]
  by_cases c5 : s < 0
  · rw [if_pos c5]
  rw [if_neg c5]
  by_cases c6 : s > 1048576
  · rw [if_pos c6]
  exact absurd ⟨by omega, by omega, by omega, by omega, by omega, by omega⟩ h
theorem gen_of_words {W : World} {g cap : Nat} {l : List Nat} (h : WordsAt W g cap l) : GenAt 36 W g cap (l.map u64) := by
  obtain ⟨cur, h1, h2, h3, h4, h5⟩ := h
  exact ⟨cur, h1, h2, by rw [List.length_map]; exact h3, h4, by rw [List.length_map]; exact h5⟩
def AllR (k : Nat) (W w' : World) (lo : Own) (g sz : Nat) (es : List RO) (kd rf rw_ : Int) (e : Ending) : Prop :=
  e = .returned (.tuple #[.int .i64 (allR sz (obs es) kd rf rw_).1, .int .i64 (allR sz (obs es) kd rf rw_).2.1]) ∧ ∃ lo' vo' es', obs es' = (allR sz (obs es) kd rf rw_).2.2 ∧ RA k w' lo' g sz vo' es' ∧ Lay k W w' lo lo' (fun _ => False)
set_option maxHeartbeats 4000000 in
theorem alloc.calls {k : Nat} {W : World} {lo : Own} {g sz : Nat} {vo : Value} {es : List RO} (h : RA k W lo g sz vo es) (hlt : ∀ b, lo b ≠ none → b < W.heap.size) (kd rf rw_ : Int) :
    Calls Try.prog 52 #[.pointer (some ⟨g, 0, none⟩), .int .i64 kd, .int .i64 rf, .int .i64 rw_] W fun e w' => AllR k W w' lo g sz es kd rf rw_ e := by
  have H := Aside0.mk h
  have HT := Aside0.mk hlt
  clear h hlt
  have HE : Aside0 (∀ (a b : Int) w', allR sz (obs es) kd rf rw_ = (a, b, obs es) → Below W.heap.size W w' → AllR k W w' lo g sz es kd rf rw_ (.returned (.tuple #[.int .i64 a, .int .i64 b]))) := ⟨fun a b w' ha hb => by
    unfold AllR
    rw [ha]
    exact ⟨rfl, lo, vo, es, rfl, H.out.below hb, Lay.keep (Upd.of_below hb) HT.out⟩⟩
  by_cases hk : PA.headOk kd rf rw_
  · have HK := Aside0.mk (larderref1_Head.calls kd rf rw_ _ _ W (head_yes kd rf rw_ hk))
    obtain ⟨k1, k2, r1, r2, s1, s2⟩ := id hk
    obtain ⟨kd, rfl⟩ := Int.eq_ofNat_of_zero_le (show 0 ≤ kd by omega)
    obtain ⟨rf, rfl⟩ := Int.eq_ofNat_of_zero_le r1
    obtain ⟨rw_, rfl⟩ := Int.eq_ofNat_of_zero_le s1
    obtain ⟨u, hu⟩ : ∃ u, u = used (obs es) := ⟨_, rfl⟩
    have hus : u ≤ sz := by rw [hu]; exact H.out.fit
    have hs9 := H.out.sz1
    obtain ⟨n, hn⟩ : ∃ n, n = rf + rw_ := ⟨_, rfl⟩
    obtain ⟨m1, hm1⟩ : ∃ m1, m1 = 1 + rf := ⟨_, rfl⟩
    obtain ⟨m2, hm2⟩ : ∃ m2, m2 = m1 + rw_ := ⟨_, rfl⟩
    obtain ⟨d, hd⟩ : ∃ d, d = sz - u := ⟨_, rfl⟩
    have HEQ := Aside0.mk (And.intro (NumB.sum_i (1 : Int) rf m1 (by omega) (by omega)) (And.intro (NumB.sum_i (m1 : Int) rw_ m2 (by omega) (by omega)) (And.intro (NumB.dif_i (sz : Int) u d (by omega) (by omega)) (NumB.sum_i (rf : Int) rw_ n (by omega) (by omega)))))
    have HNN := Aside0.mk (And.intro hu (And.intro hn (And.intro hm1 (And.intro hm2 hd))))
    have hgr : allR sz (obs es) kd rf rw_ = if d < m2 then (0, 22, obs es) else ((u : Int), 0, obs es ++ [newOb kd rf rw_]) := by
      unfold allR
      rw [if_pos hk]
      by_cases c : d < m2
      · rw [if_pos c, if_pos (by omega)]
      · rw [if_neg c, if_neg (by omega), hu]; rfl
    by_cases hf : d < m2
    · have HR := Aside0.mk (fun w' => HE.out 0 22 w' (hgr.trans (if_pos hf)))
      have hf' : (m2 : Int) > (d : Int) := by omega
      clear hgr hf hu hn hm1 hm2 hd hk
      go_enter Try.func52, Try.ntmps52
      go_wp2_with fail
      refine HK.out.mono ?_
      rintro e w1 ⟨rfl, hb⟩
      have HB1 := Aside0.mk hb.below
      have H1 := Aside0.mk (H.out.below hb.below)
      have hx0 := H1.out.c0
      have hx1 := H1.out.c1
      rw [← HNN.out.1] at hx1
      obtain ⟨⟨e1, f1⟩, ⟨e2, f2⟩, ⟨e3, f3⟩, _⟩ := HEQ.out
      clear hb HK
      go_upto_region 4 with fail
      go_quiet (fail)
      go_wp2_with fail
      go_ret2
      exact HR.out _ (pw_below_drewN HB1.out _)
    · have HR := Aside0.mk (hgr.trans (if_neg hf))
      have hf' : ¬ (m2 : Int) > (d : Int) := by omega
      have hf2 : decide ((m2 : Int) > (d : Int)) = false := decide_eq_false hf'
      have hf3 : decide (d < m2) = false := decide_eq_false hf
      have hok : (newOb kd rf rw_).ok := newOb_ok kd rf rw_ (by omega) (by omega) (by omega)
      have hnl : (newOb kd rf rw_).fields.length = n := by simp [newOb, hn]
      have HNL := Aside0.mk hnl
      have hn9 : n ≤ 2097152 := by omega
      have hmk := fun u : World => make_u64 n (by omega) u
      have HL : Aside0 (∀ w, Below W.heap.size W w → Calls Try.prog 81 #[.pointer (some ⟨g, 0, none⟩), .int .i64 (kd : Int), .int .i64 (rf : Int), .slice (some ⟨w.heap.size, 0, none⟩) n n] (w.alloc (.cells (madeCells #[.int .u64 0] n) 36))
          fun e w' => LayR k (w.alloc (.cells (madeCells #[.int .u64 0] n) 36)) w' lo g sz vo es ⟨newOb kd rf rw_, .slice (some ⟨w.heap.size, 0, none⟩) n n⟩ e) := ⟨fun w hb => by
        have hbw := below_alloc (Below.refl w.heap.size w) (.cells (madeCells #[.int .u64 0] n) 36)
        have h1 := lay.calls ((H.out.below hb).below hbw) (fun b h => Nat.lt_of_lt_of_le (HT.out b h) (Nat.le_trans hb.size hbw.size)) kd rf (newOb kd rf rw_).fields (some ⟨w.heap.size, 0, none⟩) n hok
          (.inr ⟨w.heap.size, n, by rw [List.length_map], by
            have := gen_of_words (words_made w n (by unfold maxLen; omega))
            simpa [newOb, hn] using this⟩)
          (fun b hb2 => by
            obtain rfl := Option.some.inj hb2
            exact Classical.byContradiction fun hne => by have h3 : w.heap.size < W.heap.size := HT.out _ hne; have := hb.size; omega) (by rw [hnl]; exact hn9)
        rw [hnl] at h1
        exact h1⟩
      clear hgr hf hu hn hm1 hm2 hd hk hok hnl
      go_enter Try.func52, Try.ntmps52
      go_wp2_with fail
      refine HK.out.mono ?_
      rintro e w1 ⟨rfl, hb⟩
      have HB1 := Aside0.mk hb.below
      have H1 := Aside0.mk (H.out.below hb.below)
      have hx0 := H1.out.c0
      have hx1 := H1.out.c1
      rw [← HNN.out.1] at hx1
      obtain ⟨⟨e1, f1⟩, ⟨e2, f2⟩, ⟨e3, f3⟩, e4, f4⟩ := HEQ.out
      clear hb HK
      go_upto_region 4 with fail
      go_quiet (fail)
      go_wp2_with fail
      refine (HL.out _ (pw_below_drewN HB1.out _)).mono ?_
      clear e1 f1 e2 f2 e3 f3 e4 f4
      rintro e w2 hR
      rcases hR with ⟨h1, rfl, hb⟩ | ⟨h1, rfl, lo', vo', hA, hL⟩
      · exfalso
        have := HNN.out
        simp only [HNL.out] at h1
        omega
      · have HA := Aside0.mk (And.intro hA hL)
        clear h1 hA hL
        go_wp2_with fail
        go_ret2
        refine ⟨by rw [HR.out, HNN.out.1]; rfl, lo', vo', es ++ [⟨newOb kd rf rw_, _⟩], by rw [HR.out, obs_snoc], HA.out.1, HA.out.2.le, fun b hb => ?_, HA.out.2.lt, ?_⟩
        · have s1 := HB1.out.size
          rcases HA.out.2.own b hb with h1 | h1 | h1
          · exact .inl h1
          · obtain rfl := Option.some.inj h1
            exact .inr (.inr s1)
          · exact .inr (.inr (Nat.le_trans s1 (Nat.le_trans (below_alloc (Below.refl _ _) _).size h1)))
        · exact ((Upd.of_below (below_alloc (pw_below_drewN HB1.out _) _))).trans HA.out.2.upd
  · have HK := Aside0.mk (larderref1_Head.calls kd rf rw_ _ _ W (head_no kd rf rw_ hk))
    have HR := Aside0.mk (HE.out 0 21)
    have HRR := Aside0.mk (show allR sz (obs es) kd rf rw_ = (0, 21, obs es) by unfold allR; rw [if_neg hk])
    clear hk
    go_enter Try.func52, Try.ntmps52
    go_wp2_with fail
    refine HK.out.mono ?_
    rintro e w1 ⟨rfl, hb⟩
    have HB1 := Aside0.mk hb.below
    clear hb HK
    go_wp2_with fail
    go_ret2
    exact HR.out _ HRR.out HB1.out
end Go.Proofs.Ytgjcffjicbmkhaa.RfA
end

section
namespace Go.Proofs.Ytgjcffjicbmkhaa.RfI
open Go Go.RowKit Go.Proofs.YtgjcffjicbmkhaaW.PrintWords Go.Proofs.YtgjcffjicbmkhaaW.PrintLast Go.Proofs.YtgjcffjicbmkhaaW.PrintMore Go.Proofs.Ytgjcffjicbmkhaa.RowU Go.Proofs.Ytgjcffjicbmkhaa.ArS Go.Proofs.Ytgjcffjicbmkhaa.ArM Go.Proofs.Ytgjcffjicbmkhaa.ArW Go.Proofs.Ytgjcffjicbmkhaa.ArX Go.Proofs.Ytgjcffjicbmkhaa.GenM Go.Proofs.Ytgjcffjicbmkhaa.GenN Go.Proofs.Ytgjcffjicbmkhaa.GenS Go.Proofs.Ytgjcffjicbmkhaa.BokA Go.Proofs.Ytgjcffjicbmkhaa.ArP Go.Proofs.Ytgjcffjicbmkhaa.RfM Go.Proofs.Ytgjcffjicbmkhaa.RfF Go.Proofs.Ytgjcffjicbmkhaa.RfG Go.Proofs.Ytgjcffjicbmkhaa.RfH Go.Proofs.Ytgjcffjicbmkhaa.RfT Go.Proofs.Ytgjcffjicbmkhaa.RfA Go.Proofs.Ytgjcffjicbmkhaa.LoadA Go.Proofs.Ytgjcffjicbmkhaa.PF
set_option linter.unusedVariables false
set_option maxRecDepth 100000
def OW (base : Nat) (W : World) (v : Value) (l : List Nat) : Prop := W.ownsRow base 36 1 v l.length (nums .u64 (l.map Int.ofNat))
theorem OW.below {base : Nat} {W W' : World} {v : Value} {l : List Nat} (h : OW base W v l) (hb : Below W.heap.size W W') : OW base W' v l := by
  obtain ⟨h0, h1 | ⟨g, cap, cur, rfl, hg, hh, h2⟩⟩ := h
  · exact ⟨h0, .inl h1⟩
  · exact ⟨h0, .inr ⟨g, cap, cur, rfl, hg, blk_below hh hb, h2⟩⟩
theorem OW.gv {base : Nat} {W : World} {v : Value} {l : List Nat} (h : OW base W v l) : GV 36 W v (l.map u64) ∧ ∀ b, v.ownBlock = some b → base ≤ b := by
  unfold OW at h
  rw [ints_u64] at h
  exact GV.of_own h (by rw [List.length_map])
theorem ow_one (W : World) : OW W.heap.size (W.alloc (.cells #[.int .u64 0] 36)) (.slice (some ⟨W.heap.size, 0, none⟩) 1 1) [0] :=
  ⟨rfl, .inr ⟨W.heap.size, 1, #[.int .u64 0], rfl, Nat.le_refl _, blk_new W _, Nat.le_refl _, by decide, rfl, rfl⟩⟩
theorem reads_one (W : World) (x : Nat) : ReadsInt (W.alloc (.cells #[.int .u64 (x : Int)] 36)) .u64 (some ⟨W.heap.size, 0, none⟩) 1 [(x : Int)] := by
  refine ⟨rfl, by omega, fun _ => ⟨_, rfl, fun j hj => ?_⟩⟩
  obtain rfl : j = 0 := by omega
  exact cell_one_new _ _ _ 0 _ rfl
theorem reads_gv {W : World} {Af : Option Addr} {nf cf : Nat} {l : List Nat} (h : GV 36 W (.slice Af nf cf) (l.map RowU.u64)) (hn : nf = l.length) (hl : nf ≤ 9000000000000000 := by omega) : ReadsInt W .u64 Af nf (l.map Int.ofNat) := by
  refine ⟨by rw [List.length_map, hn], by omega, fun h0 => ?_⟩
  rcases h with ⟨_, hnil⟩ | ⟨gf, cf', ef, hG⟩
  · have := congrArg List.length hnil
    rw [List.length_map, List.length_nil] at this
    omega
  · simp only [Value.slice.injEq] at ef
    refine ⟨⟨gf, 0, none⟩, ef.1, fun j hj => ?_⟩
    rw [Addr.add_lit, Nat.zero_add]
    have hjj : l[j]? = some l[j] := List.getElem?_eq_getElem (by omega)
    rw [hG.get j (RowU.u64 l[j]) (by rw [List.getElem?_map, hjj]; rfl)]
    rw [List.getD_eq_getElem?_getD, List.getElem?_map, hjj]
    rfl
theorem obs_take_succ {es : List RO} {i : Nat} {x : RO} (h : es[i]? = some x) : words (obs (es.take (i + 1))) = words (obs (es.take i)) ++ (x.o.head :: x.o.fields) := by
  rw [List.take_add_one, h, Option.toList_some, obs_snoc, words_snoc]
theorem used_take {es : List RO} (i : Nat) : (words (obs (es.take i))).length ≤ used (obs es) := by
  have h : obs es = obs (es.take i) ++ obs (es.drop i) := by rw [obs, obs, obs, ← List.map_append, List.take_append_drop]
  rw [h, used_append]
  show used (obs (es.take i)) ≤ _
  omega
set_option maxHeartbeats 16000000 in
theorem image.calls {k : Nat} {W : World} {lo : Own} {g sz : Nat} {vo : Value} {es : List RO} (h : RA k W lo g sz vo es) :
    Calls Try.prog 63 #[.pointer (some ⟨g, 0, none⟩)] W fun e w' => ∃ v, e = .returned v ∧ GV 36 w' v ((words (obs es)).map u64) ∧ (∀ b, v.ownBlock = some b → W.heap.size ≤ b) ∧ Below W.heap.size W w' := by
  have H := Aside0.mk h
  obtain ⟨A, c, hv, hcc⟩ := GenS.own_slice h.tb
  subst hv
  clear h
  have HW0 : Aside0 (Below W.heap.size W (W.alloc (.cells #[.int .u64 0] 36)) ∧ OW W.heap.size (W.alloc (.cells #[.int .u64 0] 36)) (.slice (some ⟨W.heap.size, 0, none⟩) 1 1) (words (obs (es.take 0)))) := ⟨below_alloc (Below.refl _ _) _, ow_one W⟩
  go_enter Try.func63, Try.ntmps63
  go_upto_region 3 with fail
  go_loopw [3, 4] (fun v i wr => ∃ j : Nat, j ≤ es.length ∧ i = .int .i64 j ∧ Aside0 (Below W.heap.size W wr ∧ OW W.heap.size wr v (words (obs (es.take j))))) (fun _ i _ => es.length - (intOf i).toNat)
  case atStart => exact ⟨0, by omega, rfl, HW0⟩
  case round =>
    obtain ⟨i, hi9, rfl, HV⟩ := hrel
    clear HW0
    rename World => wr
    have HR := Aside0.mk (H.out.upd (S := none_) (Upd.of_below HV.out.1) (fun _ _ _ h => h) (fun _ _ h => h))
    have hx2 := HR.out.c2
    have hlen9 := HR.out.len
    by_cases hlt : i < es.length
    · have hi' : (i : Int) < es.length := by omega
      have hi0 : (0 : Int) ≤ i := by omega
      obtain ⟨x, hx⟩ : ∃ x, es[i]? = some x := ⟨_, List.getElem?_eq_getElem hlt⟩
      obtain ⟨hok, hfl, hr, hs⟩ := HR.out.okx hx
      obtain ⟨go, cap, cur, e1, e2, e3, e4, e5⟩ := HR.out.ob hx
      simp only [Value.slice.injEq] at e1
      obtain ⟨rfl, _, rfl⟩ := e1
      have hF := ((HR.out.fl i x hx).1)
      obtain ⟨Af, cf, hff⟩ := hF.slice
      rw [List.length_map] at hff
      obtain ⟨nf, hnf⟩ : ∃ nf, nf = x.o.fields.length := ⟨_, rfl⟩
      rw [← hnf] at hff hfl
      have HC : Aside0 (∀ j u, (#[.int .i64 (place (obs es) i : Int), .int .i64 (x.o.kind : Int), .int .i64 (x.o.refs : Int), .slice Af nf cf, .bool x.o.gone.isSome, .int .i64 ((x.o.gone.getD 0 : Nat) : Int)]).toList[j]? = some u → wr.cell? ((⟨go, i * 6, none⟩ : Addr).add j) = some u) := ⟨fun j u hu => by
        rw [Addr.add_lit]
        exact e5 j u (by rw [← hu]; simp [oc, hff])⟩
      have HSZ := Aside0.mk (show (Try.prog.info? 152).map (·.size) = some 6 by kernel_rfl)
      have HSZ2 := Aside0.mk (show (Try.prog.info? 152).map (·.size) = some (#[.int .i64 (place (obs es) i : Int), .int .i64 (x.o.kind : Int), .int .i64 (x.o.refs : Int), .slice Af nf cf, .bool x.o.gone.isSome, .int .i64 ((x.o.gone.getD 0 : Nat) : Int)] : Array Value).size by kernel_rfl)
      have HONE := Aside0.mk (show (#[.int .i64 (place (obs es) i : Int), .int .i64 (x.o.kind : Int), .int .i64 (x.o.refs : Int), .slice Af nf cf, .bool x.o.gone.isSome, .int .i64 ((x.o.gone.getD 0 : Nat) : Int)] : Array Value).all (·.oneCell') = true by simp [Value.oneCell'])
      have hRI : ReadsInt wr .u64 Af nf (x.o.fields.map Int.ofNat) := by
        refine ⟨by rw [List.length_map, hnf], by omega, fun h0 => ?_⟩
        rcases hF with ⟨_, hnil⟩ | ⟨gf, cf', ef, hG⟩
        · have := congrArg List.length hnil
          rw [List.length_map, List.length_nil] at this
          omega
        · rw [hff] at ef
          simp only [Value.slice.injEq] at ef
          refine ⟨⟨gf, 0, none⟩, ef.1, fun j hj => ?_⟩
          rw [Addr.add_lit, Nat.zero_add]
          have hjj : x.o.fields[j]? = some x.o.fields[j] := List.getElem?_eq_getElem (by omega)
          rw [hG.get j (RowU.u64 x.o.fields[j]) (by rw [List.getElem?_map, hjj]; rfl)]
          rw [List.getD_eq_getElem?_getD, List.getElem?_map, hjj]
          rfl
      have HRI := Aside0.mk hRI
      have HFF := Aside0.mk hff
      obtain ⟨h0, hh0⟩ : ∃ h0 : Nat, h0 = x.o.kind + 256 * x.o.refs + 4294967296 * x.o.raws := ⟨_, rfl⟩
      have hhd : PA.headOk (x.o.kind : Int) x.o.refs x.o.raws := ⟨by have := hok.k1; omega, by have := hok.k2; omega, by omega, by omega, by omega, by omega⟩
      have hhy : larderref1_Head.f (x.o.kind : Int) x.o.refs x.o.raws = some ((h0 : Int), 0) := by rw [head_yes _ _ _ hhd, hh0]; congr 1
      have HHC := Aside0.mk (fun w => larderref1_Head.calls (x.o.kind : Int) x.o.refs x.o.raws _ _ w hhy)
      have HHD := Aside0.mk (show x.o.head = match x.o.gone with | some t => 9223372036854775808 + t | none => h0 by unfold Ob.head; rw [hh0]; cases x.o.gone <;> rfl)
      have HEQ := Aside0.mk (NumB.dif_i (nf : Int) x.o.refs x.o.raws (by omega) (by omega))
      have HX := Aside0.mk (And.intro hx (And.intro hok (And.intro hnf (And.intro hfl (And.intro hr hs)))))
      have hr9 : (x.o.refs : Int) ≤ nf := by omega
      have HU9 : Aside0 ((words (obs (es.take i))).length ≤ 1048576 ∧ (words (obs (es.take (i + 1)))).length ≤ 1048576) := ⟨by have h1 := used_take (es := es) i; have h2 := used_take (es := es) (i + 1); have := HR.out.fit; have := HR.out.sz1; exact ⟨by omega, by omega⟩⟩
      have HWS := Aside0.mk (obs_take_succ hx)
      clear hx hok hfl hr hs e2 e3 e4 e5 hF hff hnf hRI hh0 hhd hhy
      go_upto_region 6 with (first
        | ((with_reducible refine gate_dst (N := 24) rfl ?_); refine wpList_load_at rfl 152 (.tmp 23) rfl (⟨go, i * 6, none⟩ : Addr) rfl (#[.int .i64 (place (obs es) i : Int), .int .i64 (x.o.kind : Int), .int .i64 (x.o.refs : Int), .slice Af nf cf, .bool x.o.gone.isSome, .int .i64 ((x.o.gone.getD 0 : Nat) : Int)]).toList _ HC.out Try.underlying152 rfl HSZ.out ?_)
        | ((with_reducible refine gate_dst (N := 5) rfl ?_); refine box_event ?hg (N := 5) ?hd (cs := #[.int .i64 0, .int .i64 0, .int .i64 0, .slice none 0 0, .bool false, .int .i64 0]) (t := 152) ?hr ?_; (case hd => rfl); (case hg => rfl); (case hr => first | (go_simp; done) | (go_simp; rfl)); intro ga hga w7 hbox hb; have BA := Aside0.mk hbox; have HB7 := Aside0.mk hb; have GA := Aside0.mk hga; clear hbox hb hga)
        | ((with_reducible refine gate_store (p := 5) rfl ?_); refine wpList_store_row rfl 152 (.tmp 5) (.tmp 24) rfl ga #[.int .i64 (place (obs es) i : Int), .int .i64 (x.o.kind : Int), .int .i64 (x.o.refs : Int), .slice Af nf cf, .bool x.o.gone.isSome, .int .i64 ((x.o.gone.getD 0 : Nat) : Int)] rfl rfl 152 #[.int .i64 0, .int .i64 0, .int .i64 0, .slice none 0 0, .bool false, .int .i64 0] BA.out HSZ2.out rfl HONE.out ?_; obtain ⟨w8, hw8⟩ : ∃ w8, w8 = w7.setRow ga #[.int .i64 (place (obs es) i : Int), .int .i64 (x.o.kind : Int), .int .i64 (x.o.refs : Int), .slice Af nf cf, .bool x.o.gone.isSome, .int .i64 ((x.o.gone.getD 0 : Nat) : Int)] := ⟨_, rfl⟩; rw [← hw8]; have BC := Aside0.mk (show w8.heap[ga]? = some (.cells #[.int .i64 (place (obs es) i : Int), .int .i64 (x.o.kind : Int), .int .i64 (x.o.refs : Int), .slice Af nf cf, .bool x.o.gone.isSome, .int .i64 ((x.o.gone.getD 0 : Nat) : Int)] 152 (0, 0)) by rw [hw8]; exact setRow_heap _ _ _ _ _ _ BA.out); have HB8 := Aside0.mk (show Below wr.heap.size wr w8 by rw [hw8]; exact below_setRow HB7.out (by rw [GA.out]; exact Nat.le_refl _) _); clear hw8))
      generalize Value.agg (#[.int .i64 (place (obs es) i : Int), .int .i64 (x.o.kind : Int), .int .i64 (x.o.refs : Int), .slice Af nf cf, .bool x.o.gone.isSome, .int .i64 ((x.o.gone.getD 0 : Nat) : Int)]).toList.toArray = vq
      clear hx2
      have b1 : w8.cell? ⟨ga, 1, none⟩ = some (.int .i64 (x.o.kind : Int)) := (blk_cell BC.out 1).trans rfl
      have b2 : w8.cell? ⟨ga, 2, none⟩ = some (.int .i64 (x.o.refs : Int)) := (blk_cell BC.out 2).trans rfl
      have b3 : w8.cell? ⟨ga, 3, none⟩ = some (.slice Af nf cf) := (blk_cell BC.out 3).trans rfl
      obtain ⟨e1, f1⟩ := HEQ.out
      go_wp2_with fail
      clear e1 f1
      refine (HHC.out w8).mono ?_
      rintro e w9 ⟨rfl, hd⟩
      have HB9 := Aside0.mk hd.below
      have b3' := pw_cell_below hd.below b3
      have b4 : w9.cell? ⟨ga, 4, none⟩ = some (.bool x.o.gone.isSome) := (blk_cell (blk_below BC.out hd.below) 4).trans rfl
      have b5 : w9.cell? ⟨ga, 5, none⟩ = some (.int .i64 ((x.o.gone.getD 0 : Nat) : Int)) := (blk_cell (blk_below BC.out hd.below) 5).trans rfl
      clear hd b1 b2 b3
      obtain ⟨bg, hbg⟩ : ∃ bg, bg = x.o.gone.isSome := ⟨_, rfl⟩
      rw [← hbg] at b4
      have HBG := Aside0.mk hbg
      clear hbg
      go_upto_if 40 with fail
      go_cut [6] (fun v6 wc => v6 = .int .u64 (x.o.head : Int) ∧ wc = w9)
      case first =>
        cases bg with
        | false =>
          have HG : Aside0 (x.o.head = h0) := ⟨by
            have h5 := HBG.out
            rw [HHD.out]
            cases hgs : x.o.gone with
            | none => rfl
            | some t => rw [hgs] at h5; cases h5⟩
          clear b5
          go_wp2_with fail
          go_meet
          exact ⟨by rw [HG.out], rfl⟩
        | true =>
          obtain ⟨t, hgs⟩ : ∃ t, x.o.gone = some t := by
            have h5 := HBG.out
            cases hgs : x.o.gone with
            | none => rw [hgs] at h5; cases h5
            | some t => exact ⟨t, rfl⟩
          have ht : t ≤ 1048576 := HX.out.2.1.g1 t hgs
          have HG := Aside0.mk (show x.o.head = 9223372036854775808 + t by rw [HHD.out]; simp only [hgs])
          rw [hgs] at b5
          simp only [Option.getD_some] at b5
          clear hgs
          go_wp2_with fail
          go_meet
          refine ⟨?_, rfl⟩
          rw [HG.out]; rfl
      case rest =>
        obtain ⟨rfl, hwc⟩ := hcut
        have hwc2 := hwc.symm
        clear hwc
        subst hwc2
        have hb9 : Below W.heap.size W w9 := below_next (below_next HV.out.1 HB8.out) HB9.out
        have hba : Below W.heap.size W (w9.alloc (.cells #[.int .u64 (x.o.head : Int)] 36)) := below_next hb9 (below_alloc (Below.refl _ _) _)
        have HO1 : Aside0 (OW W.heap.size (w9.alloc (.cells #[.int .u64 (x.o.head : Int)] 36)) u3 (words (obs (es.take i)))) := ⟨((HV.out.2.below HB8.out).below HB9.out).below (below_alloc (Below.refl _ _) _)⟩
        have HBA2 := Aside0.mk hba
        have HR1 := Aside0.mk (reads_one w9 x.o.head)
        have HL1 : Aside0 ((((words (obs (es.take i))).map Int.ofNat).length + 1) * 8 ≤ 140737488355328) := ⟨by rw [List.length_map]; have := HU9.out; omega⟩
        have HGAL : Aside0 (∀ b, u3.ownBlock = some b → b < ga) := ⟨fun b hb => by rw [GA.out]; exact HV.out.2.gv.1.lt b hb⟩
        have HBC9 := Aside0.mk (blk_below BC.out HB9.out)
        clear hb9 hba b3' b4 b5
        go_upto_region 10 with ((with_reducible refine gate_builtin (b := .append) (xs := #[.tmp 45, .tmp 47]) rfl ?_); at_builtin; refine print_append_row (w0 := W) W.heap.size rfl (.tmp 45) (.tmp 47) 34 36 .u64 8 rfl Try.underlying34 (by kernel_rfl) (by decide) u3 ((words (obs (es.take i))).map Int.ofNat) [(x.o.head : Int)] _ _ _ rfl rfl (by have h5 := HO1.out; unfold OW at h5; rw [List.length_map]; exact h5) HR1.out HBA2.out HBA2.out.size HL1.out ?_; intro v10 w10 ho hb10 hg10 _; have HO10 := Aside0.mk ho; have HB10 := Aside0.mk hb10; have HG10 := Aside0.mk hg10; clear ho hb10 hg10)
        have hb3 : w10.cell? ⟨ga, 3, none⟩ = some (.slice Af nf cf) := by
          have h5 := blk_below HBC9.out (below_alloc (Below.refl w9.heap.size w9) (.cells #[.int .u64 (x.o.head : Int)] 36))
          exact (blk_cell (blk_upd h5 (Upd.of_grown (S := fun b => u3.ownBlock = some b) HG10.out (fun b hb => hb)) (fun hb => by have := HGAL.out ga hb; omega)) 3).trans rfl
        have HRI10 : Aside0 (ReadsInt w10 .u64 Af nf (x.o.fields.map Int.ofNat)) := ⟨by
          have h5 := ((H.out.fl i x HX.out.1).1).upd (S := none_) (Upd.of_below HB10.out) (fun _ _ h => h)
          rw [HFF.out] at h5
          exact reads_gv h5 HX.out.2.2.1 (by have := HX.out.2.2; omega)⟩
        have HL10 : Aside0 ((((words (obs (es.take i))).map Int.ofNat ++ [(x.o.head : Int)]).length + nf) * 8 ≤ 140737488355328) := ⟨by
          have h5 := HU9.out.2
          rw [HWS.out, List.length_append, List.length_cons] at h5
          rw [List.length_append, List.length_map, List.length_singleton]
          have := HX.out.2.2.1
          omega⟩
        go_upto_region 99 with ((with_reducible refine gate_builtin (b := .append) (xs := #[.tmp 49, .tmp 51]) rfl ?_); at_builtin; refine print_append_row (w0 := W) W.heap.size rfl (.tmp 49) (.tmp 51) 34 36 .u64 8 rfl Try.underlying34 (by kernel_rfl) (by decide) v10 ((words (obs (es.take i))).map Int.ofNat ++ [(x.o.head : Int)]) (x.o.fields.map Int.ofNat) Af nf cf rfl rfl HO10.out HRI10.out HB10.out HB10.out.size HL10.out ?_; intro v11 w11 ho hb11 _ _; have HO11 := Aside0.mk ho; have HB11 := Aside0.mk hb11; clear ho hb11)
        have HFIN : Aside0 (Below W.heap.size W w11 ∧ OW W.heap.size w11 v11 (words (obs (es.take (i + 1))))) := ⟨HB11.out, by
          have h5 := HO11.out
          unfold OW
          rw [HWS.out, List.map_append, List.map_cons]
          have e : (words (obs (es.take i))).map Int.ofNat ++ [(x.o.head : Int)] ++ x.o.fields.map Int.ofNat = (words (obs (es.take i))).map Int.ofNat ++ (Int.ofNat x.o.head :: x.o.fields.map Int.ofNat) := by simp
          rw [e] at h5
          simpa using h5⟩
        go_wp2_with fail
        first
          | exact ⟨⟨i + 1, by omega, by rw [Int.natCast_succ], HFIN⟩, by simp only [intOf]; omega⟩
          | (go_roundw
             case measure => simp only [intOf]; omega
             case rel => first | exact ⟨i + 1, by omega, by rw [Int.natCast_succ], HFIN⟩ | ((repeat apply Exists.intro); exact ⟨⟨i + 1, by omega, by rw [Int.natCast_succ], HFIN⟩, rfl⟩))
    · obtain rfl : i = es.length := by omega
      clear hlt
      go_wp2_with fail
      go_ret
      have h1 := HV.out.2
      rw [List.take_length] at h1
      exact ⟨_, rfl, h1.gv.1, h1.gv.2, HV.out.1⟩
end Go.Proofs.Ytgjcffjicbmkhaa.RfI
end

section
namespace Go.Proofs.Ytgjcffjicbmkhaa.XrM
open Go Go.RowKit Go.Proofs.YtgjcffjicbmkhaaW.PrintWords Go.Proofs.YtgjcffjicbmkhaaW.PrintLast Go.Proofs.YtgjcffjicbmkhaaW.PrintMore Go.Proofs.Ytgjcffjicbmkhaa.RowU Go.Proofs.Ytgjcffjicbmkhaa.ArS Go.Proofs.Ytgjcffjicbmkhaa.ArM Go.Proofs.Ytgjcffjicbmkhaa.ArX Go.Proofs.Ytgjcffjicbmkhaa.GenM Go.Proofs.Ytgjcffjicbmkhaa.GenN Go.Proofs.Ytgjcffjicbmkhaa.GenS Go.Proofs.Ytgjcffjicbmkhaa.BokA Go.Proofs.Ytgjcffjicbmkhaa.BokB Go.Proofs.Ytgjcffjicbmkhaa.ArP Go.Proofs.Ytgjcffjicbmkhaa.ArQ Go.Proofs.Ytgjcffjicbmkhaa.RfM Go.Proofs.Ytgjcffjicbmkhaa.RfH Go.Proofs.Ytgjcffjicbmkhaa.RfT
set_option linter.unusedVariables false
set_option maxRecDepth 100000
structure XQ where
  d : Nat → ArD
  on : Nat → Bool
  rg : Nat → Nat
  rv : Nat → Value
  re : Nat → List RO
  lo : Own
  ro : Nat → Value
  ow : Own
  vB : Value
  vBo : Value
  eB : List Ent
  aB : Nat
  vW : Value
  vWo : Value
  eW : List Ent
  aW : Nat
  turn : Nat
  done : Nat
  used : Nat
def pC (q : XQ) (j : Nat) : Value := if q.on j = true then .pointer (some ⟨(q.d j).g, 0, none⟩) else .pointer none
def qC (q : XQ) (j : Nat) : Value := if q.on j = true then .pointer (some ⟨q.rg j, 0, none⟩) else .pointer none
def XQ.prog (q : XQ) (b : Nat) : Prop := ∃ k, k < 3 ∧ q.on k = true ∧ (q.d k).blk b
def XQ.mine (q : XQ) (gW b : Nat) : Prop := b = gW ∨ q.lo b ≠ none ∨ q.ow b ≠ none ∨ q.prog b
structure XC (W wr : World) (gW : Nat) (q : XQ) (n : Nat) : Prop where
  th : Three wr q.d q.on
  rf : ∀ k, k < 3 → q.on k = true → RA k wr q.lo (q.rg k) (q.d k).sz (q.rv k) (q.re k)
  bk : Bk wr gW 6 q.ow q.vB q.vBo q.eB q.aB q.vW q.vWo q.eW q.aW q.turn q.done q.used
  pc : ∀ j, j < 3 → wr.cell? ⟨gW, j, none⟩ = some (pC q j)
  qc : ∀ j, j < 3 → wr.cell? ⟨gW, 3 + j, none⟩ = some (qC q j)
  rc : ∀ j, j < 64 → wr.cell? ⟨gW, 39 + j, none⟩ = some (q.ro j)
  rm : ∀ j, j < 64 → (∃ l, GV 5 wr (q.ro j) l) ∧ ∀ b, (q.ro j).ownBlock = some b → q.lo b = some (3 + j, 0)
  x1 : ∀ b, q.lo b ≠ none → q.ow b = none ∧ b ≠ gW
  x2 : ∀ b, q.prog b → q.lo b = none ∧ q.ow b = none ∧ b ≠ gW
  old : ∀ b, q.mine gW b → W.heap.size ≤ b ∧ b < wr.heap.size
  bel : Below W.heap.size W wr
  cnt : q.turn ≤ n
def XE (q : XQ) : Prop := ∀ k, k < 3 → q.on k = true → obs (q.re k) = (q.d k).l
variable {W wr w' : World} {gW : Nat} {q : XQ} {n : Nat}
theorem XC.blk (h : XC W wr gW q n) : ∃ cur T, wr.heap[gW]? = some (.cells cur T (0, 0)) := h.bk.hd.blk
theorem XC.lo_lt (h : XC W wr gW q n) (b : Nat) (hb : q.lo b ≠ none) : b < wr.heap.size := (h.old b (.inr (.inl hb))).2
theorem XC.gW_lt (h : XC W wr gW q n) : gW < wr.heap.size := (h.old gW (.inl rfl)).2
theorem XC.moveU (h : XC W wr gW q n) {S : Nat → Prop} (hu : Upd S wr w') (hS : ∀ b, q.mine gW b → ¬ S b) (hs : ∀ b, S b → W.heap.size ≤ b) : XC W w' gW q n := by
  have hg : ¬ S gW := hS gW (.inl rfl)
  have hlo : ∀ b, q.lo b ≠ none → ¬ S b := fun b hb => hS b (.inr (.inl hb))
  refine ⟨⟨fun i hi ho => ArD.upd (h.th.at_ i hi ho) hu (fun b hb => hS b (.inr (.inr (.inr ⟨i, hi, ho, hb⟩)))), h.th.sep⟩, fun k hk ho => (h.rf k hk ho).upd hu (fun b t hb => hlo b (by rw [hb]; simp)) (fun _ _ h => h),
    h.bk.move hu hg (fun b hb => hS b (.inr (.inr (.inl hb)))), fun j hj => (upd_keep h.blk hu hg).trans (h.pc j hj), fun j hj => (upd_keep h.blk hu hg).trans (h.qc j hj), fun j hj => (upd_keep h.blk hu hg).trans (h.rc j hj), fun j hj => ?_, h.x1, h.x2, fun b hb => ⟨(h.old b hb).1, Nat.lt_of_lt_of_le (h.old b hb).2 hu.size⟩, hu.to_below h.bel h.bel.size hs, h.cnt⟩
  obtain ⟨⟨l, hl⟩, ht⟩ := h.rm j hj
  exact ⟨⟨l, hl.upd hu (fun b hb => hlo b (by rw [ht b hb]; simp))⟩, ht⟩
theorem XC.below (h : XC W wr gW q n) (hb : Below wr.heap.size wr w') : XC W w' gW q n :=
  h.moveU (S := none_) (Upd.of_below hb) (fun _ _ h => h) (fun _ h => h.elim)
theorem XC.more (h : XC W wr gW q n) {m : Nat} (hm : n ≤ m) : XC W wr gW q m :=
  ⟨h.th, h.rf, h.bk, h.pc, h.qc, h.rc, h.rm, h.x1, h.x2, h.old, h.bel, Nat.le_trans h.cnt hm⟩
theorem XC.fresh (h : XC W wr gW q n) {b : Nat} (hb : wr.heap.size ≤ b) : ¬ q.mine gW b ∧ W.heap.size ≤ b :=
  ⟨fun hm => by have := (h.old b hm).2; omega, Nat.le_trans h.bel.size hb⟩
theorem XC.progs (h : XC W wr gW q n) {d' : Nat → ArD} (hT : Three w' d' q.on) (hg : ∀ k, k < 3 → q.on k = true → (d' k).g = (q.d k).g ∧ (d' k).sz = (q.d k).sz) (hb : ∀ k, k < 3 → q.on k = true → ∀ b, (d' k).blk b → q.prog b ∨ wr.heap.size ≤ b) (hu : Upd q.prog wr w') :
    XC W w' gW { q with d := d' } n := by
  have hgp : ¬ q.prog gW := fun hp => (h.x2 gW hp).2.2 rfl
  have hlo : ∀ b, q.lo b ≠ none → ¬ q.prog b := fun b hb hp => hb (h.x2 b hp).1
  have cls : ∀ b, ({ q with d := d' } : XQ).prog b → q.prog b ∨ wr.heap.size ≤ b := fun b ⟨k, hk, ho, hb2⟩ => hb k hk ho b hb2
  refine ⟨hT, fun k hk ho => ?_, h.bk.move hu hgp (fun b hb hp => hb (h.x2 b hp).2.1), fun j hj => ?_, fun j hj => (upd_keep h.blk hu hgp).trans (h.qc j hj), fun j hj => (upd_keep h.blk hu hgp).trans (h.rc j hj), fun j hj => ?_, h.x1, fun b hp => ?_, fun b hm => ?_, hu.to_below h.bel h.bel.size (fun b hp => (h.old b (.inr (.inr (.inr hp)))).1), h.cnt⟩
  · have h1 := (h.rf k hk ho).upd hu (fun b t hb => hlo b (by rw [hb]; simp)) (fun _ _ h => h)
    show RA k w' q.lo (q.rg k) (d' k).sz (q.rv k) (q.re k)
    rw [(hg k hk ho).2]
    exact h1
  · rw [(upd_keep h.blk hu hgp).trans (h.pc j hj)]
    unfold pC
    show some _ = some (if q.on j = true then _ else _)
    by_cases ho : q.on j = true
    · rw [if_pos ho, if_pos ho]
      show _ = some (Value.pointer (some ⟨(d' j).g, 0, none⟩))
      rw [(hg j hj ho).1]
    · rw [if_neg ho, if_neg ho]
  · obtain ⟨⟨l, hl⟩, ht⟩ := h.rm j hj
    exact ⟨⟨l, hl.upd hu (fun b hb => hlo b (by rw [ht b hb]; simp))⟩, ht⟩
  · rcases cls b hp with h1 | h1
    · exact h.x2 b h1
    · have hf := (h.fresh h1).1
      refine ⟨?_, ?_, fun e => hf (.inl e)⟩ <;> apply Classical.byContradiction <;> intro e
      · exact hf (.inr (.inl e))
      · exact hf (.inr (.inr (.inl e)))
  · rcases hm with h1 | h1 | h1 | h1
    · have := h.old b (.inl h1); exact ⟨this.1, Nat.lt_of_lt_of_le this.2 hu.size⟩
    · have := h.old b (.inr (.inl h1)); exact ⟨this.1, Nat.lt_of_lt_of_le this.2 hu.size⟩
    · have := h.old b (.inr (.inr (.inl h1))); exact ⟨this.1, Nat.lt_of_lt_of_le this.2 hu.size⟩
    · rcases cls b h1 with h2 | h2
      · have := h.old b (.inr (.inr (.inr h2))); exact ⟨this.1, Nat.lt_of_lt_of_le this.2 hu.size⟩
      · obtain ⟨k, hk, ho, hb2⟩ := h1
        exact ⟨Nat.le_trans h.bel.size h2, ArD.lt (hT.at_ k hk ho) b hb2⟩
def XQ.doc (q : XQ) (b : Nat) : Prop := ∃ k t, k < 3 ∧ q.lo b = some (k, t)
theorem XC.refs (h : XC W wr gW q n) {lo' : Own} {rv' : Nat → Value} {re' : Nat → List RO} (hR : ∀ k, k < 3 → q.on k = true → RA k w' lo' (q.rg k) (q.d k).sz (rv' k) (re' k)) (hle : ∀ b t, q.lo b = some t → lo' b = some t) (hown : ∀ b, lo' b ≠ none → q.lo b ≠ none ∨ (¬ q.mine gW b ∧ W.heap.size ≤ b)) (hlt : ∀ b, lo' b ≠ none → b < w'.heap.size) (hu : Upd q.doc wr w') :
    XC W w' gW { q with lo := lo', rv := rv', re := re' } n := by
  have hdl : ∀ b, q.doc b → q.lo b ≠ none := fun b ⟨k, t, _, hb⟩ => by rw [hb]; simp
  have hgp : ¬ q.doc gW := fun hp => (h.x1 gW (hdl _ hp)).2 rfl
  refine ⟨⟨fun i hi ho => ArD.upd (h.th.at_ i hi ho) hu (fun b hb hp => hdl b hp (h.x2 b ⟨i, hi, ho, hb⟩).1), h.th.sep⟩, hR, h.bk.move hu hgp (fun b hb hp => hb (h.x1 b (hdl b hp)).1), fun j hj => (upd_keep h.blk hu hgp).trans (h.pc j hj), fun j hj => (upd_keep h.blk hu hgp).trans (h.qc j hj), fun j hj => (upd_keep h.blk hu hgp).trans (h.rc j hj), fun j hj => ?_, fun b hb => ?_, fun b hp => ?_, fun b hm => ?_, hu.to_below h.bel h.bel.size (fun b hp => (h.old b (.inr (.inl (hdl b hp)))).1), h.cnt⟩
  · obtain ⟨⟨l, hl⟩, ht⟩ := h.rm j hj
    refine ⟨⟨l, hl.upd hu (fun b hb ⟨k, t, hk, hb2⟩ => ?_)⟩, fun b hb => hle _ _ (ht b hb)⟩
    rw [ht b hb] at hb2
    simp only [Option.some.injEq, Prod.mk.injEq] at hb2
    omega
  · rcases hown b hb with h1 | h1
    · exact h.x1 b h1
    · refine ⟨?_, fun e => h1.1 (.inl e)⟩
      apply Classical.byContradiction
      intro e
      exact h1.1 (.inr (.inr (.inl e)))
  · have h0 := h.x2 b hp
    refine ⟨?_, h0.2⟩
    apply Classical.byContradiction
    intro e
    rcases hown b e with h1 | h1
    · exact h1 h0.1
    · exact h1.1 (.inr (.inr (.inr hp)))
  · rcases hm with h1 | h1 | h1 | h1
    · have := h.old b (.inl h1); exact ⟨this.1, Nat.lt_of_lt_of_le this.2 hu.size⟩
    · refine ⟨?_, hlt b h1⟩
      rcases hown b h1 with h2 | h2
      · exact (h.old b (.inr (.inl h2))).1
      · exact h2.2
    · have := h.old b (.inr (.inr (.inl h1))); exact ⟨this.1, Nat.lt_of_lt_of_le this.2 hu.size⟩
    · have := h.old b (.inr (.inr (.inr h1))); exact ⟨this.1, Nat.lt_of_lt_of_le this.2 hu.size⟩
theorem XC.book (h : XC W wr gW q n) {X : Nat → Prop} {ow' : Own} {vB' vBo' : Value} {eB' : List Ent} {aB' : Nat} {vW' vWo' : Value} {eW' : List Ent} {aW' turn' done' used' m : Nat} (hb : Bk w' gW 6 ow' vB' vBo' eB' aB' vW' vWo' eW' aW' turn' done' used') (hS : BkS wr w' gW 6 q.ow ow' X)
    (hX : ∀ b, X b → ¬ q.mine gW b ∧ W.heap.size ≤ b) (hm : turn' ≤ m) : XC W w' gW { q with ow := ow', vB := vB', vBo := vBo', eB := eB', aB := aB', vW := vW', vWo := vWo', eW := eW', aW := aW', turn := turn', done := done', used := used' } m := by
  have hlo : ∀ b, q.lo b ≠ none → ¬ (b = gW ∨ q.ow b ≠ none ∨ X b) := fun b hb h1 => by
    have h0 := h.x1 b hb
    rcases h1 with h1 | h1 | h1
    · exact h0.2 h1
    · exact h1 h0.1
    · exact (hX b h1).1 (.inr (.inl hb))
  have hpr : ∀ b, q.prog b → ¬ (b = gW ∨ q.ow b ≠ none ∨ X b) := fun b hb h1 => by
    have h0 := h.x2 b hb
    rcases h1 with h1 | h1 | h1
    · exact h0.2.2 h1
    · exact h1 h0.2.1
    · exact (hX b h1).1 (.inr (.inr (.inr hb)))
  have cls : ∀ b, ow' b ≠ none → q.ow b ≠ none ∨ (¬ q.mine gW b ∧ W.heap.size ≤ b) := fun b h1 => by
    rcases hS.own b h1 with h2 | h2 | h2
    · exact .inl h2
    · exact .inr (hX b h2)
    · exact .inr (h.fresh h2)
  have kp : ∀ j, (j < 6 ∨ 39 ≤ j) → w'.cell? ⟨gW, j, none⟩ = wr.cell? ⟨gW, j, none⟩ := fun j hj => hS.keep j hj
  refine ⟨⟨fun i hi ho => ArD.upd (h.th.at_ i hi ho) hS.upd (fun b hb2 => hpr b ⟨i, hi, ho, hb2⟩), h.th.sep⟩, fun k hk ho => (h.rf k hk ho).upd hS.upd (fun b t hb2 => hlo b (by rw [hb2]; simp)) (fun _ _ h => h), hb, fun j hj => (kp j (.inl (by omega))).trans (h.pc j hj), fun j hj => (kp _ (.inl (by omega))).trans (h.qc j hj), fun j hj => (kp _ (.inr (by omega))).trans (h.rc j hj), fun j hj => ?_, fun b hb2 => ⟨?_, (h.x1 b hb2).2⟩, fun b hp => ⟨(h.x2 b hp).1, ?_, (h.x2 b hp).2.2⟩, fun b hm2 => ?_, hS.upd.to_below h.bel h.bel.size (fun b h1 => ?_), hm⟩
  · obtain ⟨⟨l, hl⟩, ht⟩ := h.rm j hj
    exact ⟨⟨l, hl.upd hS.upd (fun b hb2 => hlo b (by rw [ht b hb2]; simp))⟩, ht⟩
  · apply Classical.byContradiction
    intro e
    rcases cls b e with h2 | h2
    · exact h2 (h.x1 b hb2).1
    · exact h2.1 (.inr (.inl hb2))
  · apply Classical.byContradiction
    intro e
    rcases cls b e with h2 | h2
    · exact h2 (h.x2 b hp).2.1
    · exact h2.1 (.inr (.inr (.inr hp)))
  · rcases hm2 with h1 | h1 | h1 | h1
    · have := h.old b (.inl h1); exact ⟨this.1, Nat.lt_of_lt_of_le this.2 hS.upd.size⟩
    · have := h.old b (.inr (.inl h1)); exact ⟨this.1, Nat.lt_of_lt_of_le this.2 hS.upd.size⟩
    · refine ⟨?_, hb.lt b h1⟩
      rcases cls b h1 with h2 | h2
      · exact (h.old b (.inr (.inr (.inl h2)))).1
      · exact h2.2
    · have := h.old b (.inr (.inr (.inr h1))); exact ⟨this.1, Nat.lt_of_lt_of_le this.2 hS.upd.size⟩
  · rcases h1 with h1 | h1 | h1
    · exact (h.old b (.inl h1)).1
    · exact (h.old b (.inr (.inr (.inl h1)))).1
    · exact (hX b h1).2
end Go.Proofs.Ytgjcffjicbmkhaa.XrM
end

section
namespace Go.Proofs.Ytgjcffjicbmkhaa.BegW
open Go Go.RowKit Go.Proofs.YtgjcffjicbmkhaaW.PrintWords Go.Proofs.YtgjcffjicbmkhaaW.PrintLast Go.Proofs.YtgjcffjicbmkhaaW.PrintMore Go.Proofs.Ytgjcffjicbmkhaa.RowU Go.Proofs.Ytgjcffjicbmkhaa.ArS Go.Proofs.Ytgjcffjicbmkhaa.ArM Go.Proofs.Ytgjcffjicbmkhaa.ArW Go.Proofs.Ytgjcffjicbmkhaa.ArX Go.Proofs.Ytgjcffjicbmkhaa.ArY Go.Proofs.Ytgjcffjicbmkhaa.ArP Go.Proofs.Ytgjcffjicbmkhaa.ArQ
set_option linter.unusedVariables false
set_option maxRecDepth 100000
theorem used_one : used [newOb 3 1 2] = 5 := by rfl
set_option maxHeartbeats 1600000 in
theorem begun.calls (W : World) : Calls Try.prog 28 #[] W fun e w' => e = .returned (.bool true) ∧ Below W.heap.size W w' := by
  have HN : Aside0 (Calls Try.prog 22 #[.int .i64 8] W fun e w' => ∃ g gw gf, e = .returned (.tuple #[.pointer (some ⟨g, 0, none⟩), .int .i64 0]) ∧ ArAt w' g gw gf 8 [] ∧ W.heap.size ≤ g ∧ W.heap.size ≤ gw ∧ W.heap.size ≤ gf ∧ Below W.heap.size W w') := ⟨new.calls W 8 (by decide) (by decide)⟩
  have HA : Aside0 (∀ W2 g gw gf, ArAt W2 g gw gf 8 [] → Calls Try.prog 35 #[.pointer (some ⟨g, 0, none⟩), .int .i64 3, .int .i64 1, .int .i64 2] W2 fun e w' => e = .returned (.tuple #[.int .i64 1, .int .i64 0]) ∧ ∃ gw' gf', ArAt w' g gw' gf' 8 [newOb 3 1 2] ∧ (gw' = gw ∨ W2.heap.size ≤ gw') ∧ (gf' = gf ∨ W2.heap.size ≤ gf') ∧ Upd (three_ g gw gf) W2 w') := ⟨fun W2 g gw gf h => alloc.yes h 3 1 2 (by decide) (by decide) (by decide) (by decide)⟩
  have HF : Aside0 (∀ W2 g gw gf, ArAt W2 g gw gf 8 [newOb 3 1 2] → Calls Try.prog 35 #[.pointer (some ⟨g, 0, none⟩), .int .i64 3, .int .i64 1, .int .i64 2] W2 fun e w' => e = .returned (.tuple #[.int .i64 0, .int .i64 22]) ∧ Below W2.heap.size W2 w') := ⟨fun W2 g gw gf h => alloc.full h 3 1 2 (by decide) (by decide) (by decide) (by decide)⟩
  have HU : Aside0 (∀ W2 g gw gf, ArAt W2 g gw gf 8 [newOb 3 1 2] → Calls Try.prog 18 #[.pointer (some ⟨g, 0, none⟩)] W2 fun e w' => e = .returned (.int .i64 5) ∧ Below W2.heap.size W2 w') := ⟨fun W2 g gw gf h => used.calls h⟩
  go_enter Try.func28, Try.ntmps28
  go_wp2_with fail
  refine HN.out.mono ?_
  rintro e w2 ⟨g, gw, gf, rfl, hA, h1, h2, h3, hb⟩
  have H2 := Aside0.mk (And.intro hA (And.intro h1 (And.intro h2 (And.intro h3 hb))))
  clear hA h1 h2 h3 hb HN
  go_wp2_with fail
  refine (num.calls _ _).mono ?_
  rintro e w3 ⟨rfl, rfl⟩
  go_wp2_with fail
  refine (HA.out _ _ _ _ H2.out.1).mono ?_
  rintro e w4 ⟨rfl, gw', gf', r1, r2, r3, r4⟩
  have R := Aside0.mk r1
  have H4 : Aside0 (Below W.heap.size W w4) := ⟨Upd.to_below H2.out.2.2.2.2 r4 H2.out.2.2.2.2.size (by rintro i (rfl | rfl | rfl); exact H2.out.2.1; exact H2.out.2.2.1; exact H2.out.2.2.2.1)⟩
  clear r1 r2 r3 r4 HA
  go_wp2_with fail
  refine (HF.out _ _ _ _ R.out).mono ?_
  rintro e w5 ⟨rfl, hb⟩
  have R5 := Aside0.mk (R.out.below hb)
  have H5 := Aside0.mk (below_next H4.out hb)
  clear hb HF
  go_wp2_with fail
  refine (num.calls _ _).mono ?_
  rintro e w6 ⟨rfl, rfl⟩
  go_wp2_with fail
  refine (num.calls _ _).mono ?_
  rintro e w7 ⟨rfl, rfl⟩
  go_wp2_with fail
  refine (HU.out _ _ _ _ R5.out).mono ?_
  rintro e w8 ⟨rfl, hb⟩
  have H8 := Aside0.mk (below_next H5.out hb)
  clear hb HU
  go_wp2_with fail
  go_ret
  exact ⟨rfl, H8.out⟩
def mod3 (n : Int) : Nat := (Int.tmod (Int.tmod n 3 + 3) 3).toNat
theorem mod3_lt (n : Int) : mod3 n < 3 := by
  unfold mod3
  have h1 : -(3 : Int) < Int.tmod n 3 := Int.lt_tmod_of_pos n (by decide)
  have h3 : 0 ≤ Int.tmod (Int.tmod n 3 + 3) 3 := Int.tmod_nonneg _ (by omega)
  have h4 : Int.tmod (Int.tmod n 3 + 3) 3 < 3 := Int.tmod_lt_of_pos _ (by decide)
  omega
end Go.Proofs.Ytgjcffjicbmkhaa.BegW
end

section
namespace Go.Proofs.Ytgjcffjicbmkhaa.PF
open Go.RowKit Go.Proofs.YtgjcffjicbmkhaaW.PrintWords Go.Proofs.YtgjcffjicbmkhaaW.PrintLast Go.Proofs.YtgjcffjicbmkhaaW.PrintMore
attribute [local go_sem] max2_int min2_int max_two min_two max_three min_three max_four min_four   -- for this text's walks alone
set_option linter.unusedVariables false
set_option linter.unusedSimpArgs false
def larderlaw2_three.f (a0 : Int) : Option (Int) := some (Int.tmod (wrap64 ((Int.tmod a0 3) + 3)) 3)
set_option maxHeartbeats 8000000 in
set_option maxRecDepth 100000 in
theorem larderlaw2_three.calls (a0 : Int) (r : Int) (w : World) (h : larderlaw2_three.f a0 = some r) :
    Calls Try.prog 30 #[.int .i64 a0] w fun e w' => e = .returned (.int .i64 r) ∧ Drawn0 w w' := by
  have H : (some (Int.tmod (wrap64 ((Int.tmod a0 3) + 3)) 3)) = some r := h
  clear h
  obtain rfl := Option.some.inj H
  go_enter Try.func30, Try.ntmps30
  go_wp2
  go_ret
  exact ⟨by first | rfl | (simp; done) | (simp [*]; done), by repeat (first | exact Drawn0.refl _ | apply Drawn0.step)⟩
end Go.Proofs.Ytgjcffjicbmkhaa.PF
end

section
namespace Go.Proofs.Ytgjcffjicbmkhaa.XrN
open Go Go.RowKit Go.Proofs.YtgjcffjicbmkhaaW.PrintWords Go.Proofs.YtgjcffjicbmkhaaW.PrintLast Go.Proofs.YtgjcffjicbmkhaaW.PrintMore Go.Proofs.Ytgjcffjicbmkhaa.RowU Go.Proofs.Ytgjcffjicbmkhaa.ArS Go.Proofs.Ytgjcffjicbmkhaa.ArM Go.Proofs.Ytgjcffjicbmkhaa.ArX Go.Proofs.Ytgjcffjicbmkhaa.ArT Go.Proofs.Ytgjcffjicbmkhaa.GenM Go.Proofs.Ytgjcffjicbmkhaa.BokA Go.Proofs.Ytgjcffjicbmkhaa.ArP Go.Proofs.Ytgjcffjicbmkhaa.ArQ Go.Proofs.Ytgjcffjicbmkhaa.RfM Go.Proofs.Ytgjcffjicbmkhaa.RfH Go.Proofs.Ytgjcffjicbmkhaa.RfT Go.Proofs.Ytgjcffjicbmkhaa.XrM Go.Proofs.Ytgjcffjicbmkhaa.BegW Go.Proofs.Ytgjcffjicbmkhaa.PF
set_option linter.unusedVariables false
set_option maxRecDepth 100000
variable {W wr w' : World} {gW : Nat} {q : XQ} {n : Nat}
theorem three_f (x : Int) : larderlaw2_three.f x = some (mod3 x : Int) := by
  unfold larderlaw2_three.f mod3
  have h1 : -(3 : Int) < Int.tmod x 3 := Int.lt_tmod_of_pos x (by decide)
  have h2 : Int.tmod x 3 < 3 := Int.tmod_lt_of_pos x (by decide)
  rw [ArW.w64_small _ (by omega) (by omega)]
  have h3 : 0 ≤ Int.tmod (Int.tmod x 3 + 3) 3 := Int.tmod_nonneg _ (by omega)
  congr 1
  omega
theorem three_q (x : Int) (w : World) : Calls Try.prog 30 #[.int .i64 x] w fun e w' => e = .returned (.int .i64 (mod3 x : Int)) ∧ Drawn0 w w' := larderlaw2_three.calls x (mod3 x : Int) w (three_f x)
def putP (q : XQ) (k : Nat) (gw' gf' : Nat) (l' : List Ob) : XQ := { q with d := putD q.d k ⟨(q.d k).g, gw', gf', (q.d k).sz, l'⟩ }
def putR (q : XQ) (k : Nat) (lo' : Own) (vo' : Value) (es' : List RO) : XQ := { q with lo := lo', rv := fun j => if j = k then vo' else q.rv j, re := fun j => if j = k then es' else q.re j }
theorem _root_.Go.Proofs.Ytgjcffjicbmkhaa.XrM.XC.p1 (h : XC W wr gW q n) {k : Nat} (hk : k < 3) (ho : q.on k = true) {gw' gf' : Nat} {l' : List Ob} (hA : ArAt w' (q.d k).g gw' gf' (q.d k).sz l') (h1 : gw' = (q.d k).gw ∨ wr.heap.size ≤ gw') (h2 : gf' = (q.d k).gf ∨ wr.heap.size ≤ gf') (hu : Upd (three_ (q.d k).g (q.d k).gw (q.d k).gf) wr w') : XC W w' gW (putP q k gw' gf' l') n := by
  refine h.progs (h.th.step hk ho hA h1 h2 hu) (fun j hj hoj => ?_) (fun j hj hoj b hb => ?_) (hu.mono (fun b hb => ⟨k, hk, ho, hb⟩))
  · by_cases c : j = k
    · subst c; rw [putD_self]; exact ⟨rfl, rfl⟩
    · rw [putD_other _ _ _ _ c]; exact ⟨rfl, rfl⟩
  · by_cases c : j = k
    · subst c
      rw [putD_self] at hb
      rcases hb with e | e | e
      · exact .inl ⟨j, hj, hoj, .inl e⟩
      · rcases h1 with h3 | h3
        · exact .inl ⟨j, hj, hoj, .inr (.inl (e.trans h3))⟩
        · exact .inr (by rw [e]; exact h3)
      · rcases h2 with h3 | h3
        · exact .inl ⟨j, hj, hoj, .inr (.inr (e.trans h3))⟩
        · exact .inr (by rw [e]; exact h3)
    · rw [putD_other _ _ _ _ c] at hb
      exact .inl ⟨j, hj, hoj, hb⟩
theorem _root_.Go.Proofs.Ytgjcffjicbmkhaa.XrM.XC.r1 (h : XC W wr gW q n) {k : Nat} (hk : k < 3) (ho : q.on k = true) {lo' : Own} {vo' : Value} {es' : List RO} (hR : RA k w' lo' (q.rg k) (q.d k).sz vo' es') (hle : ∀ b t, q.lo b = some t → lo' b = some t) (hown : ∀ b, lo' b ≠ none → q.lo b ≠ none ∨ wr.heap.size ≤ b) (hlt : ∀ b, lo' b ≠ none → b < w'.heap.size) (hu : Upd (fun b => ∃ t, q.lo b = some (k, t)) wr w') :
    XC W w' gW (putR q k lo' vo' es') n := by
  refine h.refs (fun j hj hoj => ?_) hle (fun b hb => (hown b hb).imp id (fun h1 => h.fresh h1)) hlt (hu.mono (fun b ⟨t, ht⟩ => ⟨k, t, hk, ht⟩))
  by_cases c : j = k
  · subst c
    simp only [if_true]
    exact hR
  · simp only [if_neg c]
    exact (h.rf j hj hoj).upd hu (fun b t hb ⟨t', ht'⟩ => by rw [hb] at ht'; simp only [Option.some.injEq, Prod.mk.injEq] at ht'; exact c ht'.1) (fun b t hb => hle b _ hb)
theorem _root_.Go.Proofs.Ytgjcffjicbmkhaa.XrM.XE.both (he : XE q) {k : Nat} {gw' gf' : Nat} {l' : List Ob} {lo' : Own} {vo' : Value} {es' : List RO} (h : obs es' = l') : XE (putR (putP q k gw' gf' l') k lo' vo' es') := by
  intro j hj ho
  show obs (if j = k then es' else q.re j) = (putD q.d k _ j).l
  by_cases c : j = k
  · subst c
    rw [if_pos rfl, putD_self, h]
  · rw [if_neg c, putD_other _ _ _ _ c]
    exact he j hj ho
theorem putP_on (q : XQ) (k gw' gf' : Nat) (l' : List Ob) : (putP q k gw' gf' l').on = q.on := rfl
theorem putP_sz (q : XQ) (k gw' gf' : Nat) (l' : List Ob) : ((putP q k gw' gf' l').d k).sz = (q.d k).sz := by show (putD q.d k _ k).sz = _; rw [putD_self]
theorem putP_rf (q : XQ) (k gw' gf' : Nat) (l' : List Ob) : (putP q k gw' gf' l').rg = q.rg ∧ (putP q k gw' gf' l').rv = q.rv ∧ (putP q k gw' gf' l').re = q.re ∧ (putP q k gw' gf' l').lo = q.lo := ⟨rfl, rfl, rfl, rfl⟩
end Go.Proofs.Ytgjcffjicbmkhaa.XrN
end

section
namespace Go.Proofs.Ytgjcffjicbmkhaa.XrP
open Go Go.RowKit Go.Proofs.YtgjcffjicbmkhaaW.PrintWords Go.Proofs.YtgjcffjicbmkhaaW.PrintLast Go.Proofs.YtgjcffjicbmkhaaW.PrintMore Go.Proofs.Ytgjcffjicbmkhaa.RowU Go.Proofs.Ytgjcffjicbmkhaa.ArS Go.Proofs.Ytgjcffjicbmkhaa.ArM Go.Proofs.Ytgjcffjicbmkhaa.ArX Go.Proofs.Ytgjcffjicbmkhaa.ArT Go.Proofs.Ytgjcffjicbmkhaa.GenM Go.Proofs.Ytgjcffjicbmkhaa.BokA Go.Proofs.Ytgjcffjicbmkhaa.ArP Go.Proofs.Ytgjcffjicbmkhaa.ArQ Go.Proofs.Ytgjcffjicbmkhaa.RfM Go.Proofs.Ytgjcffjicbmkhaa.RfG Go.Proofs.Ytgjcffjicbmkhaa.RfH Go.Proofs.Ytgjcffjicbmkhaa.RfT Go.Proofs.Ytgjcffjicbmkhaa.RfA Go.Proofs.Ytgjcffjicbmkhaa.XrM Go.Proofs.Ytgjcffjicbmkhaa.XrN
set_option linter.unusedVariables false
set_option maxRecDepth 100000
variable {W wr w' : World} {gW : Nat} {q : XQ} {n : Nat}
def Keep (q : XQ) (gW : Nat) (wr w' : World) : Prop := Upd (fun b => q.mine gW b ∨ wr.heap.size ≤ b) wr w'
theorem Keep.of {S : Nat → Prop} (h : Upd S wr w') (hS : ∀ b, S b → q.mine gW b ∨ wr.heap.size ≤ b) : Keep q gW wr w' := h.mono hS
theorem Keep.below (h : Below wr.heap.size wr w') : Keep q gW wr w' := Upd.of_below h
theorem Keep.then {w'' : World} {S : Nat → Prop} (h : Keep q gW wr w') (hu : Upd S w' w'') (hS : ∀ b, S b → q.mine gW b ∨ wr.heap.size ≤ b) : Keep q gW wr w'' := Upd.trans h (hu.mono hS)
def StX (W w' : World) (gW : Nat) (q : XQ) (n : Nat) : Prop := ∃ q', XC W w' gW q' n ∧ XE q' ∧ q'.on = q.on
def PQ (W wr : World) (gW : Nat) (q : XQ) (n f g : Nat) (aP aQ : Array Value) (r : Value) : Prop :=
  Calls Try.prog f aP wr fun e w1 => e = .returned r ∧ Keep q gW wr w1 ∧ ∀ w2, Below w1.heap.size w1 w2 → Calls Try.prog g aQ w2 fun e w3 => e = .returned r ∧ Keep q gW wr w3 ∧ StX W w3 gW q n
theorem doc_mine {b k t : Nat} (h : q.lo b = some (k, t)) : q.mine gW b := .inr (.inl (by rw [h]; simp))
theorem pq_object (h : XC W wr gW q n) (he : XE q) {k : Nat} (hk : k < 3) (ho : q.on k = true) (x : Int) :
    ∃ a b c d : Int, PQ W wr gW q n 15 53 #[.pointer (some ⟨(q.d k).g, 0, none⟩), .int .i64 x] #[.pointer (some ⟨q.rg k, 0, none⟩), .int .i64 x] (.tuple #[.int .i64 a, .int .i64 b, .int .i64 c, .int .i64 d]) := by
  refine ⟨(objR (q.d k).l x).1, (objR (q.d k).l x).2.1, (objR (q.d k).l x).2.2.1, (objR (q.d k).l x).2.2.2, (object_all (h.th.at_ k hk ho) x).mono ?_⟩
  rintro e w1 ⟨rfl, hb⟩
  refine ⟨rfl, Keep.below hb, fun w2 hb2 => ?_⟩
  have h2 := (h.below hb).below hb2
  refine (object.calls (h2.rf k hk ho) x).mono ?_
  rintro e w3 ⟨rfl, hb3⟩
  refine ⟨by rw [he k hk ho], Keep.below (below_next (below_next hb hb2) hb3), q, h2.below hb3, he, rfl⟩
theorem pq_get (h : XC W wr gW q n) (he : XE q) {k : Nat} (hk : k < 3) (ho : q.on k = true) (x y : Int) :
    ∃ a b : Int, PQ W wr gW q n 16 54 #[.pointer (some ⟨(q.d k).g, 0, none⟩), .int .i64 x, .int .i64 y] #[.pointer (some ⟨q.rg k, 0, none⟩), .int .i64 x, .int .i64 y] (.tuple #[.int .u64 a, .int .i64 b]) := by
  refine ⟨(getR (q.d k).l x y).1, (getR (q.d k).l x y).2, (get_all (h.th.at_ k hk ho) x y).mono ?_⟩
  rintro e w1 ⟨rfl, hb⟩
  refine ⟨rfl, Keep.below hb, fun w2 hb2 => ?_⟩
  have h2 := (h.below hb).below hb2
  refine (get.calls (h2.rf k hk ho) x y).mono ?_
  rintro e w3 ⟨rfl, hb3⟩
  refine ⟨by rw [he k hk ho], Keep.below (below_next (below_next hb hb2) hb3), q, h2.below hb3, he, rfl⟩
theorem pq_moved (h : XC W wr gW q n) (he : XE q) {k : Nat} (hk : k < 3) (ho : q.on k = true) (x : Int) :
    ∃ (a : Int) (b : Bool) (c : Int), PQ W wr gW q n 25 56 #[.pointer (some ⟨(q.d k).g, 0, none⟩), .int .i64 x] #[.pointer (some ⟨q.rg k, 0, none⟩), .int .i64 x] (.tuple #[.int .i64 a, .bool b, .int .i64 c]) := by
  refine ⟨(movR (q.d k).l x).1, (movR (q.d k).l x).2.1, (movR (q.d k).l x).2.2, (moved_all (h.th.at_ k hk ho) x).mono ?_⟩
  rintro e w1 ⟨rfl, hb⟩
  refine ⟨rfl, Keep.below hb, fun w2 hb2 => ?_⟩
  have h2 := (h.below hb).below hb2
  refine (moved.calls (h2.rf k hk ho) x).mono ?_
  rintro e w3 ⟨rfl, hb3⟩
  refine ⟨by rw [he k hk ho], Keep.below (below_next (below_next hb hb2) hb3), q, h2.below hb3, he, rfl⟩
theorem _root_.Go.Proofs.Ytgjcffjicbmkhaa.XrM.XC.second (h : XC W wr gW q n) (he : XE q) {k : Nat} (hk : k < 3) (ho : q.on k = true) {w1 w2 w3 : World} {gw' gf' : Nat} {l' : List Ob} (h1 : XC W w1 gW (putP q k gw' gf' l') n) (hk1 : Keep q gW wr w1) (hb2 : Below w1.heap.size w1 w2) {lo' : Own} {vo' : Value} {es' : List RO} (hR : RA k w3 lo' (q.rg k) (q.d k).sz vo' es') (heq : obs es' = l')
    (hle : ∀ b t, q.lo b = some t → lo' b = some t) (hown : ∀ b, lo' b ≠ none → q.lo b ≠ none ∨ w2.heap.size ≤ b) (hlt : ∀ b, lo' b ≠ none → b < w3.heap.size) (hu : Upd (fun b => ∃ t, q.lo b = some (k, t)) w2 w3) : Keep q gW wr w3 ∧ StX W w3 gW q n := by
  refine ⟨(hk1.then (S := none_) (Upd.of_below hb2) (fun _ h => h.elim)).then hu (fun b ⟨t, ht⟩ => .inl (doc_mine ht)), _, (h1.below hb2).r1 (q := putP q k gw' gf' l') hk ho (by rw [putP_sz]; exact hR) hle hown hlt hu, he.both heq, rfl⟩
theorem pq_alloc (h : XC W wr gW q n) (he : XE q) {k : Nat} (hk : k < 3) (ho : q.on k = true) (x y z : Int) :
    ∃ a b : Int, PQ W wr gW q n 35 52 #[.pointer (some ⟨(q.d k).g, 0, none⟩), .int .i64 x, .int .i64 y, .int .i64 z] #[.pointer (some ⟨q.rg k, 0, none⟩), .int .i64 x, .int .i64 y, .int .i64 z] (.tuple #[.int .i64 a, .int .i64 b]) := by
  refine ⟨(allR (q.d k).sz (q.d k).l x y z).1, (allR (q.d k).sz (q.d k).l x y z).2.1, (alloc_all (h.th.at_ k hk ho) x y z).mono ?_⟩
  rintro e w1 ⟨rfl, gw', gf', hA, e1, e2, hu⟩
  have h1 := h.p1 hk ho hA e1 e2 hu
  have hk1 : Keep q gW wr w1 := Keep.of hu (fun b hb => .inl (.inr (.inr (.inr ⟨k, hk, ho, hb⟩))))
  refine ⟨rfl, hk1, fun w2 hb2 => ?_⟩
  have h2 := h1.below hb2
  have hr2 := h2.rf k hk ho
  rw [putP_sz] at hr2
  refine (alloc.calls (lo := q.lo) hr2 (fun b hb => h2.lo_lt b hb) x y z).mono ?_
  rintro e w3 ⟨rfl, lo', vo', es', heq, hR, hL⟩
  have heo := he k hk ho
  refine ⟨by show _ = Ending.returned _; rw [← heo]; rfl, h.second he hk ho h1 hk1 hb2 hR (by rw [heq, ← heo]; rfl) hL.le (fun b hb => (hL.own b hb).imp id (fun h3 => h3.elim (fun h => h.elim) id)) hL.lt hL.upd⟩
theorem pq_set (h : XC W wr gW q n) (he : XE q) {k : Nat} (hk : k < 3) (ho : q.on k = true) (x y : Int) (v : Nat) (hv : v < 18446744073709551616) :
    ∃ a : Int, PQ W wr gW q n 13 55 #[.pointer (some ⟨(q.d k).g, 0, none⟩), .int .i64 x, .int .i64 y, .int .u64 (v : Int)] #[.pointer (some ⟨q.rg k, 0, none⟩), .int .i64 x, .int .i64 y, .int .u64 (v : Int)] (.int .i64 a) := by
  refine ⟨(setR (q.d k).l x y v).1, (set_all (h.th.at_ k hk ho) x y v hv).mono ?_⟩
  rintro e w1 ⟨rfl, hA, hu⟩
  have hu3 : Upd (three_ (q.d k).g (q.d k).gw (q.d k).gf) wr w1 := hu.mono (fun b hb => .inr (.inl hb))
  have h1 := h.p1 hk ho hA (.inl rfl) (.inl rfl) hu3
  have hk1 : Keep q gW wr w1 := Keep.of hu3 (fun b hb => .inl (.inr (.inr (.inr ⟨k, hk, ho, hb⟩))))
  refine ⟨rfl, hk1, fun w2 hb2 => ?_⟩
  have h2 := h1.below hb2
  have hr2 := h2.rf k hk ho
  rw [putP_sz] at hr2
  refine (set.calls (lo := q.lo) hr2 x y v hv).mono ?_
  rintro e w3 ⟨rfl, es', heq, hR, hu2⟩
  have heo := he k hk ho
  refine ⟨by show _ = Ending.returned _; rw [← heo]; rfl, h.second he hk ho h1 hk1 hb2 hR (by rw [heq, ← heo]; rfl) (fun _ _ h => h) (fun b hb => .inl hb) (fun b hb => Nat.lt_of_lt_of_le (h2.lo_lt b hb) hu2.size) hu2⟩
end Go.Proofs.Ytgjcffjicbmkhaa.XrP
end

section
namespace Go.Proofs.Ytgjcffjicbmkhaa.OpO
open Go Go.RowKit Go.Proofs.YtgjcffjicbmkhaaW.PrintWords Go.Proofs.Ytgjcffjicbmkhaa.Open Go.Proofs.Ytgjcffjicbmkhaa.MemO Go.Proofs.Ytgjcffjicbmkhaa.BytO
set_option linter.unusedVariables false
set_option maxRecDepth 100000
def kThree : Kd (Int × Int × Int) := Kd.pair (Kd.int .i64) (Kd.pair (Kd.int .i64) (Kd.int .i64))
theorem o_ints3 {P : Program} {t e : TypeId} (hu : P.underlying t = some (.array 3 e)) (he : P.underlying e = some (.int .i64)) (hc : P.cellsOf t = 3) (hce : P.cellsOf e = 1) : Opens P t kThree (fun _ => True) := fun F => {
  sz := hc.symm
  op := by
    intro H enc W base spare held fuel cs x hf h hw
    obtain ⟨xs, m, rfl, rfl, hcl, hxl, hx⟩ := DataW.trod_array hu h
    rw [hc] at hcl
    match cs, hcl with
    | [c0, c1, c2], _ =>
      match xs, hxl with
      | [x0, x1, x2], _ =>
        have h0 := hx 0 (by omega)
        have h1 := hx 1 (by omega)
        have h2 := hx 2 (by omega)
        rw [hce] at h0 h1 h2
        obtain ⟨n0, e0, _⟩ := DataW.trod_int he (show DataW.trod enc P W base spare held m e [c0] = some x0 from h0)
        obtain ⟨n1, e1, _⟩ := DataW.trod_int he (show DataW.trod enc P W base spare held m e [c1] = some x1 from h1)
        obtain ⟨n2, e2, _⟩ := DataW.trod_int he (show DataW.trod enc P W base spare held m e [c2] = some x2 from h2)
        simp only [List.cons.injEq, and_true] at e0 e1 e2
        subst e0 e1 e2
        exact ⟨(n0, n1, n2), ⟨[.int .i64 n0], [.int .i64 n1, .int .i64 n2], rfl, rfl, ⟨[.int .i64 n1], [.int .i64 n2], rfl, rfl, rfl⟩⟩, trivial⟩ }
def kOp : Kd (Int × Int × Int × Int × Int × Int × Int × List Int) := Kd.pair (Kd.int .i64) (Kd.pair (Kd.int .i64) (Kd.pair (Kd.int .i64) (Kd.pair (Kd.int .i64) (Kd.pair (Kd.int .i64) (Kd.pair (Kd.int .i64) (Kd.pair (Kd.int .u64) (Kd.slice 5 (Kd.int .u8))))))))
def gOp (y : Int × Int × Int × Int × Int × Int × Int × List Int) : Prop := gI y.1 ∧ gI y.2.1 ∧ gI y.2.2.1 ∧ gI y.2.2.2.1 ∧ gI y.2.2.2.2.1 ∧ gI y.2.2.2.2.2.1 ∧ gU y.2.2.2.2.2.2.1 ∧ gBytes y.2.2.2.2.2.2.2
theorem o_op : Opens Try.prog 80 kOp gOp :=
  opens_struct Try.underlying80 rfl (by kernel_rfl) (fields2 rfl o_int (fields2 rfl o_int (fields2 rfl o_int (fields2 rfl o_int (fields2 rfl o_int (fields2 rfl o_int (fields2 rfl o_u64 (fields1 rfl o_bytes))))))))
def kThr : Kd ((Int × Int × Int) × List (Int × Int × Int × Int × Int × Int × Int × List Int)) := Kd.pair kThree (Kd.slice 80 kOp)
def gThr (y : (Int × Int × Int) × List (Int × Int × Int × Int × Int × Int × Int × List Int)) : Prop := True ∧ GoodL 80 gOp y.2
theorem o_thr : Opens Try.prog 76 kThr gThr :=
  opens_struct Try.underlying76 rfl (by kernel_rfl) (fields2 rfl (o_ints3 Try.underlying73 Try.underlying3 (by kernel_rfl) (by kernel_rfl)) (fields1 rfl (opens_slice Try.underlying74 (by kernel_rfl) (by kernel_rfl) o_op)))
theorem o_script : Opens Try.prog 74 (Kd.slice 80 kOp) (GoodL 80 gOp) := opens_slice Try.underlying74 (by kernel_rfl) (by kernel_rfl) o_op
end Go.Proofs.Ytgjcffjicbmkhaa.OpO
end

section
namespace Go.Proofs.Ytgjcffjicbmkhaa.OpP
open Go Go.RowKit Go.Proofs.YtgjcffjicbmkhaaW.PrintWords Go.Proofs.Ytgjcffjicbmkhaa.Open Go.Proofs.Ytgjcffjicbmkhaa.MemO Go.Proofs.Ytgjcffjicbmkhaa.BytO Go.Proofs.Ytgjcffjicbmkhaa.OpO Go.Proofs.Ytgjcffjicbmkhaa.LoadA
set_option linter.unusedVariables false
set_option maxRecDepth 100000
def opCells (K Bk Sr A B C V : Int) (Ad : Option Addr) (n c : Nat) : List Value := [.int .i64 K, .int .i64 Bk, .int .i64 Sr, .int .i64 A, .int .i64 B, .int .i64 C, .int .u64 V, .slice Ad n c]
theorem op_cells {w : World} {A : Option Addr} {n : Nat} {ls : List (Int × Int × Int × Int × Int × Int × Int × List Int)} (h : kOp.C w A n ls) (i : Nat) (hi : i < ls.length) :
    ∃ ad K Bk Sr x y z V D Ad c, A = some ad ∧ ls[i]? = some (K, Bk, Sr, x, y, z, V, D) ∧ D.length ≤ c ∧ (Kd.int .u8).C w Ad D.length D ∧ ∀ j u, (opCells K Bk Sr x y z V Ad D.length c)[j]? = some u → w.cell? ((ad.add (i * 8)).add j) = some u := by
  have hn : ls.length = n := h.1
  obtain ⟨⟨K, Bk, Sr, x, y, z, V, D⟩, hy⟩ : ∃ t, ls[i]? = some t := ⟨_, List.getElem?_eq_getElem hi⟩
  obtain ⟨ad, c, hh, hc, hK, hcells⟩ := Kd.C_get h (K, Bk, Sr, x, y, z, V, D) (i : Int) (by omega) (by omega)
  rw [Int.toNat_natCast] at hK hcells
  have he : ls.getD i (K, Bk, Sr, x, y, z, V, D) = (K, Bk, Sr, x, y, z, V, D) := by rw [List.getD_eq_getElem?_getD, hy]; rfl
  rw [he] at hK
  obtain ⟨b0, b1, rfl, h0, c0, c1, rfl, h1, d0, d1, rfl, h2, e0, e1, rfl, h3, f0, f1, rfl, h4, g0, g1, rfl, h5, i0, i1, rfl, h6, ⟨Ad, cc, rfl, hl, hC⟩⟩ := hK
  have a0 : b0 = [_] := h0
  have a1 : c0 = [_] := h1
  have a2 : d0 = [_] := h2
  have a3 : e0 = [_] := h3
  have a4 : f0 = [_] := h4
  have a5 : g0 = [_] := h5
  have a6 : i0 = [_] := h6
  subst a0 a1 a2 a3 a4 a5 a6
  refine ⟨ad, K, Bk, Sr, x, y, z, V, D, Ad, cc, hh, hy, hl, hC, fun j u hj => ?_⟩
  rw [LoadA.add_add]
  exact hcells j u hj
theorem op_open {W : World} {A : Option Addr} {n : Nat} {ls : List (Int × Int × Int × Int × Int × Int × Int × List Int)} (h : kOp.C W A n ls) (hg : ∀ y ∈ ls, gOp y) (i : Nat) (hi : i < ls.length) :
    ∃ (ad : Addr) (K Bk Sr x y z : Int) (V : Nat) (bs : List Nat) (Ad : Option Addr) (c : Nat), A = some ad ∧ V < 18446744073709551616 ∧ (∀ b ∈ bs, b < 256) ∧ bs.length ≤ 9000000000000000 ∧ (∀ (i x : Nat), bs[i]? = some x → ∃ ad, Ad = some ad ∧ W.cell? (ad.add i) = some (.int .u8 (x : Int))) ∧ ∀ j u, (opCells K Bk Sr x y z V Ad bs.length c)[j]? = some u → W.cell? ((ad.add (i * 8)).add j) = some u := by
  obtain ⟨ad, K, Bk, Sr, x, y, z, V, D, Ad, c, hA, hy, hl, hC, hc⟩ := op_cells h i hi
  obtain ⟨_, _, _, _, _, _, gV, gD⟩ := hg _ (List.mem_of_getElem? hy)
  obtain ⟨v0, v1⟩ := wf_u64 gV
  obtain ⟨bs, hbs, hb⟩ := byte_nat D (fun q hq => wf_u8 (gD.2 q hq))
  have gl := gD.1
  simp only at v0 v1 gl
  obtain ⟨Vn, rfl⟩ := Int.eq_ofNat_of_zero_le v0
  subst hbs
  refine ⟨ad, K, Bk, Sr, x, y, z, Vn, bs, Ad, c, hA, by omega, hb, by rw [List.length_map] at gl; omega, fun j q hq => byte_cell hC j q hq, fun j u hu => hc j u ?_⟩
  rw [List.length_map]
  exact hu
end Go.Proofs.Ytgjcffjicbmkhaa.OpP
end

section
namespace Go.Proofs.Ytgjcffjicbmkhaa.XrW
open Go Go.RowKit Go.Proofs.YtgjcffjicbmkhaaW.PrintWords Go.Proofs.YtgjcffjicbmkhaaW.PrintLast Go.Proofs.YtgjcffjicbmkhaaW.PrintMore Go.Proofs.Ytgjcffjicbmkhaa.RowU Go.Proofs.Ytgjcffjicbmkhaa.ArS Go.Proofs.Ytgjcffjicbmkhaa.ArM Go.Proofs.Ytgjcffjicbmkhaa.BokA Go.Proofs.Ytgjcffjicbmkhaa.ArP Go.Proofs.Ytgjcffjicbmkhaa.ArQ Go.Proofs.Ytgjcffjicbmkhaa.XrM Go.Proofs.Ytgjcffjicbmkhaa.XrN Go.Proofs.Ytgjcffjicbmkhaa.XrP Go.Proofs.Ytgjcffjicbmkhaa.BegW
set_option linter.unusedVariables false
set_option maxRecDepth 100000
variable {W wr w' : World} {gW : Nat} {q : XQ} {n : Nat}
def StR (W w' : World) (gW : Nat) (q : XQ) (n : Nat) (e : Ending) : Prop := e = .returned (.bool true) ∧ StX W w' gW q n
set_option maxHeartbeats 16000000 in
theorem words.calls (h : XC W wr gW q n) (he : XE q) (K Bk Sr x y z : Int) (V : Nat) (hV : V < 18446744073709551616) (Ad : Option Addr) (nb cd : Nat) (hon : q.on (mod3 Bk) = true) :
    Calls Try.prog 47 #[.pointer (some ⟨gW, 0, none⟩), .agg #[.int .i64 K, .int .i64 Bk, .int .i64 Sr, .int .i64 x, .int .i64 y, .int .i64 z, .int .u64 (V : Int), .slice Ad nb cd]] wr fun e w' => StR W w' gW q n e ∧ Keep q gW wr w' := by
  have H := Aside0.mk h
  obtain ⟨m, hm⟩ : ∃ m, m = mod3 Bk := ⟨_, rfl⟩
  have hm3 : m < 3 := by rw [hm]; exact mod3_lt Bk
  have HE := Aside0.mk (And.intro he (And.intro hon hV))
  have HT : Aside0 (∀ w, Calls Try.prog 30 #[.int .i64 Bk] w fun e w' => e = .returned (.int .i64 (m : Int)) ∧ Drawn0 w w') := ⟨fun w => by rw [hm]; exact three_q Bk w⟩
  rw [← hm] at HE
  clear h he hon hV hm
  go_enter Try.func47, Try.ntmps47
  go_upto_region 1 with ((with_reducible refine gate_dst (N := 3) rfl ?_); refine box_event ?hg (N := 3) ?hd (cs := #[.int .i64 K, .int .i64 Bk, .int .i64 Sr, .int .i64 x, .int .i64 y, .int .i64 z, .int .u64 (V : Int), .slice Ad nb cd]) (t := 80) ?hr ?_; (case hd => rfl); (case hg => rfl); (case hr => first | (go_simp; done) | (go_simp; rfl)); intro ga hga w1 hbox hb; have BA := Aside0.mk hbox; have HB := Aside0.mk hb; have GA := Aside0.mk hga; clear hbox hb hga)
  have H1 := Aside0.mk (H.out.below HB.out)
  have b1 : w1.cell? ⟨ga, 1, none⟩ = some (.int .i64 Bk) := (blk_cell BA.out 1).trans rfl
  have hpc : w1.cell? ⟨gW, m, none⟩ = some (.pointer (some ⟨(q.d m).g, 0, none⟩)) := by rw [H1.out.pc m hm3]; unfold pC; rw [if_pos HE.out.2.1]
  have hqc : w1.cell? ⟨gW, 3 + m, none⟩ = some (.pointer (some ⟨q.rg m, 0, none⟩)) := by rw [H1.out.qc m hm3]; unfold qC; rw [if_pos HE.out.2.1]
  have hmi : (m : Int) < 3 := by omega
  have hm0 : (0 : Int) ≤ m := by omega
  go_quiet (first | (go_at_call 30; (with_reducible refine (HT.out _).mono ?_); rintro e w' ⟨rfl, ⟨nd, rfl⟩⟩; (try first | exact ⟨rfl, _, World.drewN_drewN _ _ _⟩ | exact ⟨rfl, _, Eq.trans (World.drewN_drewN _ _ _) (congrArg (World.drewN _) (Nat.add_assoc _ _ _))⟩)))
  have hbd := pw_below_drewN (Below.refl w1.heap.size w1) nq
  have H2 := Aside0.mk (H1.out.below hbd)
  have BA2 := Aside0.mk (blk_below BA.out hbd)
  have HNM : Aside0 (¬ (q.mine gW ga ∨ (w1.drewN nq).heap.size ≤ ga)) := ⟨by
    rintro (h1 | h1)
    · exact (H.out.fresh (b := ga) (by rw [GA.out]; exact Nat.le_refl _)).1 h1
    · have := cell_lt BA2.out; omega⟩
  have HB2 := Aside0.mk (below_next HB.out hbd)
  clear hbd b1 hpc hqc H1 BA HB
  generalize w1.drewN nq = w2 at *
  by_cases k2 : K = 2
  · subst k2
    obtain ⟨v0, v1, hpq⟩ := pq_alloc H2.out HE.out.1 hm3 HE.out.2.1 x y z
    have HPQ := Aside0.mk hpq
    clear hpq
    have b0 : w2.cell? ⟨ga, 0, none⟩ = some (.int .i64 2) := (blk_cell BA2.out 0).trans rfl
    have b3 : w2.cell? ⟨ga, 3, none⟩ = some (.int .i64 x) := (blk_cell BA2.out 3).trans rfl
    have b4 : w2.cell? ⟨ga, 4, none⟩ = some (.int .i64 y) := (blk_cell BA2.out 4).trans rfl
    have b5 : w2.cell? ⟨ga, 5, none⟩ = some (.int .i64 z) := (blk_cell BA2.out 5).trans rfl
    go_wp2_with fail
    refine HPQ.out.mono ?_
    clear HPQ
    rintro e w3 ⟨rfl, hkp, hsec⟩
    have HSEC := Aside0.mk hsec
    have BA3 := Aside0.mk (blk_upd BA2.out hkp HNM.out)
    clear hkp hsec
    have c3 : w3.cell? ⟨ga, 3, none⟩ = some (.int .i64 x) := (blk_cell BA3.out 3).trans rfl
    have c4 : w3.cell? ⟨ga, 4, none⟩ = some (.int .i64 y) := (blk_cell BA3.out 4).trans rfl
    have c5 : w3.cell? ⟨ga, 5, none⟩ = some (.int .i64 z) := (blk_cell BA3.out 5).trans rfl
    go_wp2_with fail
    refine (HSEC.out w3 (Below.refl _ _)).mono ?_
    rintro e w4 ⟨rfl, hk4, hst⟩
    have HST := Aside0.mk (And.intro hst (show Keep q gW wr w4 from Upd.trans (Upd.of_below HB2.out) (hk4.mono (fun b hb => hb.imp id (fun h1 => Nat.le_trans HB2.out.size h1)))))
    clear hst hk4
    go_wp2_with fail
    refine (ArY.num.calls _ _).mono ?_
    rintro e w5 ⟨rfl, rfl⟩
    go_wp2_with fail
    go_ret
    exact ⟨⟨by first | rfl | simp, HST.out.1⟩, HST.out.2⟩
  by_cases k3 : K = 3
  · subst k3
    obtain ⟨v0, v1, v2, v3, hpq⟩ := pq_object H2.out HE.out.1 hm3 HE.out.2.1 x
    have HPQ := Aside0.mk hpq
    clear hpq
    have b0 : w2.cell? ⟨ga, 0, none⟩ = some (.int .i64 3) := (blk_cell BA2.out 0).trans rfl
    have b3 : w2.cell? ⟨ga, 3, none⟩ = some (.int .i64 x) := (blk_cell BA2.out 3).trans rfl
    go_wp2_with fail
    refine HPQ.out.mono ?_
    clear HPQ
    rintro e w3 ⟨rfl, hkp, hsec⟩
    have HSEC := Aside0.mk hsec
    have BA3 := Aside0.mk (blk_upd BA2.out hkp HNM.out)
    clear hkp hsec
    have c3 : w3.cell? ⟨ga, 3, none⟩ = some (.int .i64 x) := (blk_cell BA3.out 3).trans rfl
    go_wp2_with fail
    refine (HSEC.out w3 (Below.refl _ _)).mono ?_
    rintro e w4 ⟨rfl, hk4, hst⟩
    have HST := Aside0.mk (And.intro hst (show Keep q gW wr w4 from Upd.trans (Upd.of_below HB2.out) (hk4.mono (fun b hb => hb.imp id (fun h1 => Nat.le_trans HB2.out.size h1)))))
    clear hst hk4
    go_wp2_with fail
    refine (ArY.num.calls _ _).mono ?_
    rintro e w5 ⟨rfl, rfl⟩
    go_wp2_with fail
    go_ret
    exact ⟨⟨by first | rfl | simp, HST.out.1⟩, HST.out.2⟩
  by_cases k4 : K = 4
  · subst k4
    obtain ⟨v0, v1, hpq⟩ := pq_get H2.out HE.out.1 hm3 HE.out.2.1 x y
    have HPQ := Aside0.mk hpq
    clear hpq
    have b0 : w2.cell? ⟨ga, 0, none⟩ = some (.int .i64 4) := (blk_cell BA2.out 0).trans rfl
    have b3 : w2.cell? ⟨ga, 3, none⟩ = some (.int .i64 x) := (blk_cell BA2.out 3).trans rfl
    have b4 : w2.cell? ⟨ga, 4, none⟩ = some (.int .i64 y) := (blk_cell BA2.out 4).trans rfl
    go_wp2_with fail
    refine HPQ.out.mono ?_
    clear HPQ
    rintro e w3 ⟨rfl, hkp, hsec⟩
    have HSEC := Aside0.mk hsec
    have BA3 := Aside0.mk (blk_upd BA2.out hkp HNM.out)
    clear hkp hsec
    have c3 : w3.cell? ⟨ga, 3, none⟩ = some (.int .i64 x) := (blk_cell BA3.out 3).trans rfl
    have c4 : w3.cell? ⟨ga, 4, none⟩ = some (.int .i64 y) := (blk_cell BA3.out 4).trans rfl
    go_wp2_with fail
    refine (HSEC.out w3 (Below.refl _ _)).mono ?_
    rintro e w4 ⟨rfl, hk4, hst⟩
    have HST := Aside0.mk (And.intro hst (show Keep q gW wr w4 from Upd.trans (Upd.of_below HB2.out) (hk4.mono (fun b hb => hb.imp id (fun h1 => Nat.le_trans HB2.out.size h1)))))
    clear hst hk4
    go_wp2_with fail
    refine (ArY.num.calls _ _).mono ?_
    rintro e w5 ⟨rfl, rfl⟩
    go_wp2_with fail
    go_ret
    exact ⟨⟨by first | rfl | simp, HST.out.1⟩, HST.out.2⟩
  by_cases k5 : K = 5
  · subst k5
    obtain ⟨v0, hpq⟩ := pq_set H2.out HE.out.1 hm3 HE.out.2.1 x y V HE.out.2.2
    have HPQ := Aside0.mk hpq
    clear hpq
    have b0 : w2.cell? ⟨ga, 0, none⟩ = some (.int .i64 5) := (blk_cell BA2.out 0).trans rfl
    have b3 : w2.cell? ⟨ga, 3, none⟩ = some (.int .i64 x) := (blk_cell BA2.out 3).trans rfl
    have b4 : w2.cell? ⟨ga, 4, none⟩ = some (.int .i64 y) := (blk_cell BA2.out 4).trans rfl
    have b6 : w2.cell? ⟨ga, 6, none⟩ = some (.int .u64 (V : Int)) := (blk_cell BA2.out 6).trans rfl
    go_wp2_with fail
    refine HPQ.out.mono ?_
    clear HPQ
    rintro e w3 ⟨rfl, hkp, hsec⟩
    have HSEC := Aside0.mk hsec
    have BA3 := Aside0.mk (blk_upd BA2.out hkp HNM.out)
    clear hkp hsec
    have c3 : w3.cell? ⟨ga, 3, none⟩ = some (.int .i64 x) := (blk_cell BA3.out 3).trans rfl
    have c4 : w3.cell? ⟨ga, 4, none⟩ = some (.int .i64 y) := (blk_cell BA3.out 4).trans rfl
    have c6 : w3.cell? ⟨ga, 6, none⟩ = some (.int .u64 (V : Int)) := (blk_cell BA3.out 6).trans rfl
    go_wp2_with fail
    refine (HSEC.out w3 (Below.refl _ _)).mono ?_
    rintro e w4 ⟨rfl, hk4, hst⟩
    have HST := Aside0.mk (And.intro hst (show Keep q gW wr w4 from Upd.trans (Upd.of_below HB2.out) (hk4.mono (fun b hb => hb.imp id (fun h1 => Nat.le_trans HB2.out.size h1)))))
    clear hst hk4
    go_wp2_with fail
    refine (ArY.num.calls _ _).mono ?_
    rintro e w5 ⟨rfl, rfl⟩
    go_wp2_with fail
    go_ret
    exact ⟨⟨by first | rfl | simp, HST.out.1⟩, HST.out.2⟩
  by_cases k9 : K = 9
  · subst k9
    obtain ⟨v0, v1, v2, hpq⟩ := pq_moved H2.out HE.out.1 hm3 HE.out.2.1 x
    have HPQ := Aside0.mk hpq
    clear hpq
    have b0 : w2.cell? ⟨ga, 0, none⟩ = some (.int .i64 9) := (blk_cell BA2.out 0).trans rfl
    have b3 : w2.cell? ⟨ga, 3, none⟩ = some (.int .i64 x) := (blk_cell BA2.out 3).trans rfl
    go_wp2_with fail
    refine HPQ.out.mono ?_
    clear HPQ
    rintro e w3 ⟨rfl, hkp, hsec⟩
    have HSEC := Aside0.mk hsec
    have BA3 := Aside0.mk (blk_upd BA2.out hkp HNM.out)
    clear hkp hsec
    have c3 : w3.cell? ⟨ga, 3, none⟩ = some (.int .i64 x) := (blk_cell BA3.out 3).trans rfl
    go_wp2_with fail
    refine (HSEC.out w3 (Below.refl _ _)).mono ?_
    rintro e w4 ⟨rfl, hk4, hst⟩
    have HST := Aside0.mk (And.intro hst (show Keep q gW wr w4 from Upd.trans (Upd.of_below HB2.out) (hk4.mono (fun b hb => hb.imp id (fun h1 => Nat.le_trans HB2.out.size h1)))))
    clear hst hk4
    go_wp2_with fail
    refine (ArY.num.calls _ _).mono ?_
    rintro e w5 ⟨rfl, rfl⟩
    go_wp2_with fail
    go_ret
    exact ⟨⟨by first | rfl | simp, HST.out.1⟩, HST.out.2⟩
  have b0 : w2.cell? ⟨ga, 0, none⟩ = some (.int .i64 K) := (blk_cell BA2.out 0).trans rfl
  have e2 : (K == 2) = false := by simp [k2]
  have e3 : (K == 3) = false := by simp [k3]
  have e4 : (K == 4) = false := by simp [k4]
  have e5 : (K == 5) = false := by simp [k5]
  have e9 : (K == 9) = false := by simp [k9]
  clear k2 k3 k4 k5 k9
  go_wp2_with fail
  go_ret
  exact ⟨⟨rfl, q, H2.out, HE.out.1, rfl⟩, Keep.below HB2.out⟩
end Go.Proofs.Ytgjcffjicbmkhaa.XrW
end

section
namespace Go.Proofs.Ytgjcffjicbmkhaa.PF
open Go.RowKit Go.Proofs.YtgjcffjicbmkhaaW.PrintWords Go.Proofs.YtgjcffjicbmkhaaW.PrintLast Go.Proofs.YtgjcffjicbmkhaaW.PrintMore
attribute [local go_sem] max2_int min2_int max_two min_two max_three min_three max_four min_four   -- for this text's walks alone
set_option linter.unusedVariables false
set_option linter.unusedSimpArgs false
def larderlaw2_sameWords.l0 : Nat → List Int → List Int → Int → Option (Bool)
  | 0, _, _, _ => none
  | k + 1, x0, x1, x5 => if x5 < (x0.length : Int) then (if 0 ≤ x5 then (if x5 < (x1.length : Int) then (if (rd x0 x5) = (rd x1 x5) then (larderlaw2_sameWords.l0 k x0 x1 (wrap64 (x5 + 1))) else (some false)) else (none)) else (none)) else (some true)
def larderlaw2_sameWords.f (k : Nat) (l0 : List Int) (l1 : List Int) : Option (Bool) := if (l0.length : Int) = (l1.length : Int) then (larderlaw2_sameWords.l0 k l0 l1 0) else (some false)
theorem larderlaw2_sameWords.mono_l : ∀ k, (∀ y0 y1 y2, LeO (larderlaw2_sameWords.l0 k y0 y1 y2) (larderlaw2_sameWords.l0 (k + 1) y0 y1 y2))
  | 0 => fun _ _ _ r h => by simp [larderlaw2_sameWords.l0] at h
  | k + 1 => by
    have ih0 := larderlaw2_sameWords.mono_l k
    · intro y0 y1 y2
      unfold larderlaw2_sameWords.l0
      repeat' first
      | (with_reducible exact ih0 _ _ _)
      | (with_reducible exact LeO.refl _)
      | (with_reducible exact LeO.none _)
      | (with_reducible refine LeO.ite ?_ ?_)
      | (with_reducible refine LeO.bind ?_ (fun _ => ?_))
      | exact ih0 _ _ _
      | exact LeO.none _
      | refine LeO.ite ?_ ?_
      | refine LeO.bind ?_ (fun _ => ?_)
theorem larderlaw2_sameWords.mono : ∀ a0 a1 k, LeO (larderlaw2_sameWords.f k a0 a1) (larderlaw2_sameWords.f (k + 1) a0 a1) := by
  intro a0 a1 k
  have ih0 := larderlaw2_sameWords.mono_l k
  unfold larderlaw2_sameWords.f
  repeat' first
      | (with_reducible exact ih0 _ _ _)
      | (with_reducible exact LeO.refl _)
      | (with_reducible exact LeO.none _)
      | (with_reducible refine LeO.ite ?_ ?_)
      | (with_reducible refine LeO.bind ?_ (fun _ => ?_))
      | exact ih0 _ _ _
      | exact LeO.none _
      | refine LeO.ite ?_ ?_
      | refine LeO.bind ?_ (fun _ => ?_)
set_option maxHeartbeats 8000000 in
set_option maxRecDepth 100000 in
theorem larderlaw2_sameWords.calls (k : Nat) (A0 : Option Addr) (c0 : Nat) (l0 : List Int) (A1 : Option Addr) (c1 : Nat) (l1 : List Int) (r : Bool) (w : World) (hr0 : Kd.C (Kd.int .u64) w A0 l0.length l0) (hc0 : l0.length ≤ c0) (hr1 : Kd.C (Kd.int .u64) w A1 l1.length l1) (hc1 : l1.length ≤ c1) (h : larderlaw2_sameWords.f k l0 l1 = some r) :
    Calls Try.prog 31 #[.slice A0 l0.length c0, .slice A1 l1.length c1] w fun e w' => e = .returned (.bool r) ∧ Drawn0 w w' := by
  have HR0 := Aside0.mk hr0
  have HC0 := Aside0.mk hc0
  clear hr0 hc0
  have HR1 := Aside0.mk hr1
  have HC1 := Aside0.mk hc1
  clear hr1 hc1
  have H : (if (l0.length : Int) = (l1.length : Int) then (larderlaw2_sameWords.l0 k l0 l1 0) else (some false)) = some r := h
  clear h
  by_cases c3 : (l0.length : Int) = (l1.length : Int)
  · rw [if_pos c3] at H
    have c3b0 : ((l0.length : Int) == (l1.length : Int)) = true := beq_iff_eq.mpr c3
    have c3b1 : ((l0.length : Int) != (l1.length : Int)) = false := bne_eq_false_iff_eq.mpr c3
    have c3b2 : (l0.length == l1.length) = true := by first | simpa using c3 | (simp at c3 ⊢; omega)
    clear c3
    have H' := Aside0.mk H
    clear H
    go_enter Try.func31, Try.ntmps31
    go_wp2
    repeat (go_quiet (fail); try go_wp2)
    go_loopg [5] k (fun kq v5 w' => ∃ (x5_1 : Int), v5 = .int .i64 x5_1 ∧ Aside0 (larderlaw2_sameWords.l0 kq l0 l1 x5_1 = some r) ∧ Aside0 (kq ≤ k) ∧ Drawn0 w w')
    case atStart => exact ⟨(0), (by first | rfl | (simp; done) | (simp [*]; done)), H', ⟨Nat.le_refl _⟩, by repeat (first | exact Drawn0.refl _ | apply Drawn0.step)⟩
    case round =>
      clear H'
      try clear c1
      try clear p2
      try clear c3
      try clear c3b0
      try clear c3b1
      try clear c3b2
      obtain ⟨x5_1, rfl, HA, HK1, ⟨m1, rfl⟩⟩ := hrel
      cases gk with
      | zero => exact absurd HA.out (by simp [larderlaw2_sameWords.l0])
      | succ k1 =>
        have H := HA.out
        clear HA
        simp only [larderlaw2_sameWords.l0] at H
        by_cases c4 : x5_1 < (l0.length : Int)
        · rw [if_pos c4] at H
          have c4b0 : decide (x5_1 < (l0.length : Int)) = true := decide_eq_true c4
          clear c4
          by_cases c5 : 0 ≤ x5_1
          · rw [if_pos c5] at H
            have c5b0 : decide (0 ≤ x5_1) = true := decide_eq_true c5
            clear c5
            by_cases c6 : x5_1 < (l1.length : Int)
            · rw [if_pos c6] at H
              have c6b0 : decide (x5_1 < (l1.length : Int)) = true := decide_eq_true c6
              clear c6
              by_cases c7 : (rd l0 x5_1) = (rd l1 x5_1)
              · rw [if_pos c7] at H
                have c7b0 : ((rd l0 x5_1) == (rd l1 x5_1)) = true := beq_iff_eq.mpr c7
                have c7b1 : ((rd l0 x5_1) != (rd l1 x5_1)) = false := bne_eq_false_iff_eq.mpr c7
                clear c7
                have H' := Aside0.mk H
                clear H
                have p114 : 0 ≤ (x5_1 : Int) := of_decide_eq_true (by first | (with_reducible assumption) | assumption)
                have q114 : x5_1 < (l0.length : Int) := of_decide_eq_true (by first | (with_reducible assumption) | assumption)
                obtain ⟨ad114, e114, hx114_0⟩ := Kd.at_int HR0.out x5_1 p114 q114
                cases e114
                replace p114 := eq_true p114
                replace q114 := eq_true q114
                have p115 : 0 ≤ (x5_1 : Int) := of_decide_eq_true (by first | (with_reducible assumption) | assumption)
                have q115 : x5_1 < (l1.length : Int) := of_decide_eq_true (by first | (with_reducible assumption) | assumption)
                obtain ⟨ad115, e115, hx115_0⟩ := Kd.at_int HR1.out x5_1 p115 q115
                cases e115
                replace p115 := eq_true p115
                replace q115 := eq_true q115
                go_wp2
                repeat (go_quiet (fail); try go_wp2)
                go_roundg k1
                case measure => have := HK1.out; omega
                case rel => exact ⟨(wrap64 (x5_1 + 1)), (by first | rfl | (simp; done) | (simp [*]; done)), H', ⟨by have := HK1.out; omega⟩, by repeat (first | exact Drawn0.refl _ | apply Drawn0.step)⟩
              · rw [if_neg c7] at H
                have c7b0 : ((rd l0 x5_1) == (rd l1 x5_1)) = false := beq_eq_false_iff_ne.mpr c7
                have c7b1 : ((rd l0 x5_1) != (rd l1 x5_1)) = true := bne_iff_ne.mpr c7
                obtain rfl := Option.some.inj H
                have p114 : 0 ≤ (x5_1 : Int) := of_decide_eq_true (by first | (with_reducible assumption) | assumption)
                have q114 : x5_1 < (l0.length : Int) := of_decide_eq_true (by first | (with_reducible assumption) | assumption)
                obtain ⟨ad114, e114, hx114_0⟩ := Kd.at_int HR0.out x5_1 p114 q114
                cases e114
                replace p114 := eq_true p114
                replace q114 := eq_true q114
                have p115 : 0 ≤ (x5_1 : Int) := of_decide_eq_true (by first | (with_reducible assumption) | assumption)
                have q115 : x5_1 < (l1.length : Int) := of_decide_eq_true (by first | (with_reducible assumption) | assumption)
                obtain ⟨ad115, e115, hx115_0⟩ := Kd.at_int HR1.out x5_1 p115 q115
                cases e115
                replace p115 := eq_true p115
                replace q115 := eq_true q115
                go_wp2
                repeat (go_quiet (fail); try go_wp2)
                go_ret
                exact ⟨by first | rfl | (simp; done) | (simp [*]; done), by repeat (first | exact Drawn0.refl _ | apply Drawn0.step)⟩
            · rw [if_neg c6] at H
              exact absurd H (by simp)
          · rw [if_neg c5] at H
            exact absurd H (by simp)
        · rw [if_neg c4] at H
          have c4b0 : decide (x5_1 < (l0.length : Int)) = false := decide_eq_false c4
          clear c4
          obtain rfl := Option.some.inj H
          go_wp2
          repeat (go_quiet (fail); try go_wp2)
          go_ret
          exact ⟨by first | rfl | (simp; done) | (simp [*]; done), by repeat (first | exact Drawn0.refl _ | apply Drawn0.step)⟩
  · rw [if_neg c3] at H
    have c3b0 : ((l0.length : Int) == (l1.length : Int)) = false := beq_eq_false_iff_ne.mpr c3
    have c3b1 : ((l0.length : Int) != (l1.length : Int)) = true := bne_iff_ne.mpr c3
    have c3b2 : (l0.length == l1.length) = false := by first | simpa using c3 | (simp at c3 ⊢; omega)
    obtain rfl := Option.some.inj H
    go_enter Try.func31, Try.ntmps31
    go_wp2
    repeat (go_quiet (fail); try go_wp2)
    go_ret
    exact ⟨by first | rfl | (simp; done) | (simp [*]; done), by repeat (first | exact Drawn0.refl _ | apply Drawn0.step)⟩
end Go.Proofs.Ytgjcffjicbmkhaa.PF
end

section
namespace Go.Proofs.Ytgjcffjicbmkhaa.SamW
open Go Go.RowKit Go.Proofs.YtgjcffjicbmkhaaW.PrintWords Go.Proofs.YtgjcffjicbmkhaaW.PrintLast Go.Proofs.YtgjcffjicbmkhaaW.PrintMore Go.Proofs.Ytgjcffjicbmkhaa.PF Go.Proofs.Ytgjcffjicbmkhaa.RowU Go.Proofs.Ytgjcffjicbmkhaa.ArS
set_option linter.unusedVariables false
theorem same_loop (l : List Int) (hl : l.length ≤ 100000000000000) : ∀ (n i : Nat), l.length - i ≤ n → i ≤ l.length → larderlaw2_sameWords.l0 (n + 1) l l i = some true := by
  intro n
  induction n with
  | zero =>
    intro i h1 h2
    unfold larderlaw2_sameWords.l0
    rw [if_neg (by omega)]
  | succ n ih =>
    intro i h1 h2
    unfold larderlaw2_sameWords.l0
    by_cases hi : (i : Int) < l.length
    · rw [if_pos hi, if_pos (by omega), if_pos hi, if_pos rfl, show wrap64 ((i : Int) + 1) = ((i + 1 : Nat) : Int) by rw [ArW.w64_small _ (by omega) (by omega)]; omega]
      exact ih (i + 1) (by omega) (by omega)
    · rw [if_neg hi]
theorem same_f (l : List Int) (hl : l.length ≤ 100000000000000) : larderlaw2_sameWords.f (l.length + 1) l l = some true := by
  unfold larderlaw2_sameWords.f
  rw [if_pos rfl]
  exact same_loop l hl l.length 0 (by omega) (by omega)
theorem words_read {W : World} {g cap : Nat} {l : List Nat} (h : WordsAt W g cap l) (hl : l.length ≤ 100000000000000) : Kd.C (Kd.int .u64) W (some ⟨g, 0, none⟩) (l.map (fun x : Nat => (x : Int))).length (l.map (fun x : Nat => (x : Int))) := by
  refine ⟨rfl, by rw [List.length_map]; omega, fun _ => ⟨_, rfl, fun j p hp => ?_⟩⟩
  rw [List.getElem?_map, Option.map_eq_some_iff] at hp
  obtain ⟨x, hx, rfl⟩ := hp
  refine ⟨[.int .u64 (x : Int)], rfl, rfl, fun i u hu => ?_⟩
  cases i with
  | zero =>
    simp at hu
    subst hu
    have := h.get j x hx
    rw [Addr.add_lit, show (Kd.int IntKind.u64).sz = 1 from rfl]
    simpa using this
  | succ i => simp at hu
theorem same_calls {W : World} {g1 c1 g2 c2 : Nat} {l : List Nat} (h1 : WordsAt W g1 c1 l) (h2 : WordsAt W g2 c2 l) (n : Nat) (hn : n = l.length) (hl : l.length ≤ 100000000000000) :
    Calls Try.prog 31 #[.slice (some ⟨g1, 0, none⟩) n c1, .slice (some ⟨g2, 0, none⟩) n c2] W fun e w' => e = .returned (.bool true) ∧ Below W.heap.size W w' := by
  subst hn
  have hc1 : l.length ≤ c1 := by obtain ⟨cur, _, _, k, _⟩ := h1; exact k
  have hc2 : l.length ≤ c2 := by obtain ⟨cur, _, _, k, _⟩ := h2; exact k
  have := larderlaw2_sameWords.calls ((l.map (fun x : Nat => (x : Int))).length + 1) (some ⟨g1, 0, none⟩) c1 (l.map (fun x : Nat => (x : Int))) (some ⟨g2, 0, none⟩) c2 (l.map (fun x : Nat => (x : Int))) true W (words_read h1 hl) (by rw [List.length_map]; exact hc1) (words_read h2 hl) (by rw [List.length_map]; exact hc2) (same_f _ (by rw [List.length_map]; exact hl))
  rw [List.length_map] at this
  exact this.mono fun e w' ⟨he, hd⟩ => ⟨he, hd.below⟩
end Go.Proofs.Ytgjcffjicbmkhaa.SamW
end

section
namespace Go.Proofs.Ytgjcffjicbmkhaa.XrB
open Go Go.RowKit Go.Proofs.YtgjcffjicbmkhaaW.PrintWords Go.Proofs.YtgjcffjicbmkhaaW.PrintLast Go.Proofs.YtgjcffjicbmkhaaW.PrintMore Go.Proofs.Ytgjcffjicbmkhaa.RowU Go.Proofs.Ytgjcffjicbmkhaa.ArS Go.Proofs.Ytgjcffjicbmkhaa.ArM Go.Proofs.Ytgjcffjicbmkhaa.ArB Go.Proofs.Ytgjcffjicbmkhaa.GenM Go.Proofs.Ytgjcffjicbmkhaa.BokA Go.Proofs.Ytgjcffjicbmkhaa.ArP Go.Proofs.Ytgjcffjicbmkhaa.ArQ Go.Proofs.Ytgjcffjicbmkhaa.RfM Go.Proofs.Ytgjcffjicbmkhaa.RfB Go.Proofs.Ytgjcffjicbmkhaa.RfS Go.Proofs.Ytgjcffjicbmkhaa.XrM Go.Proofs.Ytgjcffjicbmkhaa.XrN Go.Proofs.Ytgjcffjicbmkhaa.XrP Go.Proofs.Ytgjcffjicbmkhaa.PF Go.Proofs.Ytgjcffjicbmkhaa.FreM
set_option linter.unusedVariables false
set_option maxRecDepth 100000
variable {W wr w' : World} {gW : Nat} {q : XQ} {n : Nat}
theorem same8 (l : List Int) : larderlaw2_sameBytes.f l l = some true := by
  unfold larderlaw2_sameBytes.f
  simp
theorem same8_calls {w : World} {T1 T2 : TypeId} {v1 v2 : Value} {l : List Int} (h1 : GV T1 w v1 (l.map (Value.int .u8))) (h2 : GV T2 w v2 (l.map (Value.int .u8))) :
    Calls Try.prog 45 #[v1, v2] w fun e w' => e = .returned (.bool true) ∧ Below w.heap.size w w' := by
  obtain ⟨A1, c1, rfl⟩ := h1.slice
  obtain ⟨A2, c2, rfl⟩ := h2.slice
  rw [List.length_map] at h1 h2 ⊢
  obtain ⟨_, a2, a3⟩ := gu_reads (GU.of_gv h1)
  obtain ⟨_, b2, b3⟩ := gu_reads (GU.of_gv h2)
  exact (larderlaw2_sameBytes.calls A1 c1 l A2 c2 l true w a3 a2 b3 b2 (same8 l)).mono fun e w' ⟨he, hd⟩ => ⟨he, hd.below⟩
theorem bytesV_byL (o : Ob) (f n : Nat) : bytesV (fun i => Ob.byte o (f + i)) n n = (byL o f n).map (Value.int .u8) := by
  apply List.ext_getElem?
  intro j
  by_cases hj : j < n
  · rw [bytesV_get _ _ _ _ hj, if_pos hj, List.getElem?_map, byL_get o f n j hj]; rfl
  · rw [List.getElem?_eq_none (by rw [bytesV_len]; omega), List.getElem?_eq_none (by rw [List.length_map, byL_len]; omega)]
def byOf (l : List Ob) (x y z : Int) : List Int × Int := match bytErr l x y z, obAt l x with
  | some er, _ => ([], er)
  | none, some (_, o) => (byL o y.toNat z.toNat, 0)
  | none, none => ([], 0)
def BytA (wq w' : World) (bl : List Int) (er : Int) (e : Ending) : Prop := ∃ v, e = .returned (.tuple #[v, .int .i64 er]) ∧ GV 5 w' v (bl.map (Value.int .u8)) ∧ (∀ b, v.ownBlock = some b → wq.heap.size ≤ b) ∧ Below wq.heap.size wq w'
theorem p_bytes {wq : World} (h : XC W wq gW q n) {k : Nat} (hk : k < 3) (ho : q.on k = true) (x y z : Int) :
    Calls Try.prog 44 #[.pointer (some ⟨(q.d k).g, 0, none⟩), .int .i64 x, .int .i64 y, .int .i64 z] wq fun e w' => BytA wq w' (byOf (q.d k).l x y z).1 (byOf (q.d k).l x y z).2 e := by
  refine (bytes_all (h.th.at_ k hk ho) x y z).mono ?_
  rintro e w' (⟨er, h1, rfl, hb⟩ | ⟨h1, i, o, f', n', gb, h2, h3, h4, rfl, rfl, h5, rfl, ht⟩)
  · have e0 : byOf (q.d k).l x y z = ([], er) := by unfold byOf; rw [h1]
    rw [e0]
    exact ⟨_, rfl, GV.nil _ _, fun b hb => (by cases hb), hb⟩
  · have e0 : byOf (q.d k).l x f' n' = (byL o f' n', 0) := by unfold byOf; rw [h1, h2]; rfl
    rw [e0]
    refine ⟨_, rfl, .inr ⟨gb, n', by rw [List.length_map, byL_len], ?_⟩, fun b hb => by obtain rfl := Option.some.inj hb; exact ht.new, ht.below⟩
    have := ht.at_
    rw [bytesV_byL] at this
    exact this
theorem q_bytes {wq : World} (h : XC W wq gW q n) (he : XE q) {k : Nat} (hk : k < 3) (ho : q.on k = true) (x y z : Int) (hy : -9223372036854775808 ≤ y ∧ y < 9223372036854775808) (hz : -9223372036854775808 ≤ z ∧ z < 9223372036854775808) :
    Calls Try.prog 57 #[.pointer (some ⟨q.rg k, 0, none⟩), .int .i64 x, .int .i64 y, .int .i64 z] wq fun e w' => BytA wq w' (byOf (q.d k).l x y z).1 (byOf (q.d k).l x y z).2 e := by
  refine (RfB.bytes.calls (h.rf k hk ho) x y z hy hz).mono ?_
  have heo := he k hk ho
  rintro e w' (⟨er, h1, rfl, hb⟩ | ⟨h1, i, xo, f', n', v, h2, h3, h4, rfl, rfl, h5, rfl, hg, hv, hb⟩)
  · have e0 : byOf (q.d k).l x y z = ([], er) := by unfold byOf; rw [← heo, h1]
    rw [e0]
    exact ⟨_, rfl, GV.nil _ _, fun b hb => (by cases hb), hb⟩
  · have e0 : byOf (q.d k).l x f' n' = (byL xo.o f' n', 0) := by unfold byOf; rw [← heo, h1, h3]; rfl
    rw [e0]
    exact ⟨_, rfl, hg, hv, hb⟩
theorem byOf_len {wq : World} (h : XC W wq gW q n) {k : Nat} (hk : k < 3) (ho : q.on k = true) (x y z : Int) : (byOf (q.d k).l x y z).1.length ≤ 8388608 := by
  unfold byOf
  cases h1 : bytErr (q.d k).l x y z with
  | some er => simp
  | none =>
    cases h2 : obAt (q.d k).l x with
    | none => simp
    | some p =>
      obtain ⟨i, o⟩ := p
      simp only [byL_len]
      obtain ⟨h3, h4⟩ := obAt_some h2
      have hat := h.th.at_ k hk ho
      obtain ⟨_, _, hr, _⟩ := raws_lt hat h3
      unfold bytErr at h1
      cases h5 : badOf (q.d k).l x with
      | some e => rw [h5] at h1; cases h1
      | none =>
        rw [h5, h2] at h1
        simp only at h1
        split at h1
        · rename_i hs
          unfold InSpan at hs
          omega
        · cases h1
def ImA (wq w' : World) (ws : List Nat) (e : Ending) : Prop := ∃ g c, e = .returned (.slice (some ⟨g, 0, none⟩) ws.length c) ∧ WordsAt w' g c ws ∧ wq.heap.size ≤ g ∧ Below wq.heap.size wq w'
theorem p_image {wq : World} (h : XC W wq gW q n) {k : Nat} (hk : k < 3) (ho : q.on k = true) :
    Calls Try.prog 17 #[.pointer (some ⟨(q.d k).g, 0, none⟩)] wq fun e w' => ImA wq w' (words (q.d k).l) e := by
  refine (ArZ.image.calls (h.th.at_ k hk ho)).mono ?_
  rintro e w' ⟨g, c, rfl, n1, n2, n3⟩
  exact ⟨g, c, rfl, n1, n2, n3⟩
theorem words_of_gv {w : World} {v : Value} {l : List Nat} (h : GV 36 w v (l.map u64)) (hl : 0 < l.length) : ∃ g c, v = .slice (some ⟨g, 0, none⟩) l.length c ∧ WordsAt w g c l := by
  rcases h with ⟨_, hnil⟩ | ⟨g, c, e, cur, h1, h2, h3, h4, h5⟩
  · have := congrArg List.length hnil
    rw [List.length_map, List.length_nil] at this
    omega
  · rw [List.length_map] at e h3 h5
    exact ⟨g, c, e, cur, h1, h2, h3, h4, h5⟩
theorem q_image {wq : World} (h : XC W wq gW q n) (he : XE q) {k : Nat} (hk : k < 3) (ho : q.on k = true) :
    Calls Try.prog 63 #[.pointer (some ⟨q.rg k, 0, none⟩)] wq fun e w' => ImA wq w' (words (q.d k).l) e := by
  refine (RfI.image.calls (h.rf k hk ho)).mono ?_
  rintro e w' ⟨v, rfl, hg, hv, hb⟩
  rw [he k hk ho] at hg
  obtain ⟨g, c, rfl, hw⟩ := words_of_gv hg (used_pos _)
  exact ⟨g, c, rfl, hw, hv g rfl, hb⟩
theorem words_len {wq : World} (h : XC W wq gW q n) {k : Nat} (hk : k < 3) (ho : q.on k = true) : (words (q.d k).l).length ≤ 1048576 := by
  obtain ⟨cw, cf, fs, hA⟩ := h.th.at_ k hk ho
  have := hA.fit
  have := hA.sz1
  show used _ ≤ _
  omega
theorem size_q {W : World} {g gw gf sz : Nat} {l : List Ob} (hA : ArAt W g gw gf sz l) :
    Calls Try.prog 36 #[.pointer (some ⟨g, 0, none⟩)] W fun e w' => e = .returned (.int .i64 (sz : Int)) ∧ Drawn0 W w' := by
  obtain ⟨cw, cf, fs, hA⟩ := hA
  have b0 := hA.c0
  clear hA
  go_enter Try.func36, Try.ntmps36
  go_wp2_with fail
  go_ret
  exact ⟨rfl, 0, rfl⟩
theorem used_q {W : World} {g gw gf sz : Nat} {l : List Ob} (hA : ArAt W g gw gf sz l) :
    Calls Try.prog 18 #[.pointer (some ⟨g, 0, none⟩)] W fun e w' => e = .returned (.int .i64 (used l : Int)) ∧ Drawn0 W w' := by
  obtain ⟨cw, cf, fs, hA⟩ := hA
  have b1 := hA.c1
  clear hA
  go_enter Try.func18, Try.ntmps18
  go_wp2_with fail
  go_ret
  exact ⟨rfl, 0, rfl⟩
end Go.Proofs.Ytgjcffjicbmkhaa.XrB
end

section
namespace Go.Proofs.Ytgjcffjicbmkhaa.XrR
open Go Go.RowKit Go.Proofs.YtgjcffjicbmkhaaW.PrintWords Go.Proofs.YtgjcffjicbmkhaaW.PrintLast Go.Proofs.YtgjcffjicbmkhaaW.PrintMore Go.Proofs.Ytgjcffjicbmkhaa.RowU Go.Proofs.Ytgjcffjicbmkhaa.ArS Go.Proofs.Ytgjcffjicbmkhaa.ArM Go.Proofs.Ytgjcffjicbmkhaa.ArX Go.Proofs.Ytgjcffjicbmkhaa.GenM Go.Proofs.Ytgjcffjicbmkhaa.GenN Go.Proofs.Ytgjcffjicbmkhaa.BokA Go.Proofs.Ytgjcffjicbmkhaa.BokB Go.Proofs.Ytgjcffjicbmkhaa.ArP Go.Proofs.Ytgjcffjicbmkhaa.ArQ Go.Proofs.Ytgjcffjicbmkhaa.RfM Go.Proofs.Ytgjcffjicbmkhaa.XrM Go.Proofs.Ytgjcffjicbmkhaa.XrN Go.Proofs.Ytgjcffjicbmkhaa.XrP
set_option linter.unusedVariables false
set_option maxRecDepth 100000
variable {W wr w' : World} {gW : Nat} {q : XQ} {n : Nat}
theorem _root_.Go.Proofs.Ytgjcffjicbmkhaa.XrM.XC.roomU (h : XC W wr gW q n) {j : Nat} (hj : j < 64) {g : Nat} (hg : (q.ro j).ownBlock = some g) (hl : ∃ l, GV 5 w' (q.ro j) l) (hu : Upd (fun b => b = g) wr w') : XC W w' gW q n := by
  have ht : q.lo g = some (3 + j, 0) := (h.rm j hj).2 g hg
  have hne : q.lo g ≠ none := by rw [ht]; simp
  have hgW : g ≠ gW := (h.x1 g hne).2
  refine ⟨⟨fun i hi ho => ArD.upd (h.th.at_ i hi ho) hu (fun b hb e => by subst e; exact hne (h.x2 _ ⟨i, hi, ho, hb⟩).1), h.th.sep⟩, fun k hk ho => (h.rf k hk ho).upd hu (fun b t hb e => by subst e; rw [ht] at hb; simp only [Option.some.injEq, Prod.mk.injEq] at hb; omega) (fun _ _ h => h),
    h.bk.move hu (fun e => hgW e.symm) (fun b hb e => by subst e; exact hb (h.x1 _ hne).1), fun i hi => (upd_keep h.blk hu (fun e => hgW e.symm)).trans (h.pc i hi), fun i hi => (upd_keep h.blk hu (fun e => hgW e.symm)).trans (h.qc i hi), fun i hi => (upd_keep h.blk hu (fun e => hgW e.symm)).trans (h.rc i hi), fun i hi => ?_, h.x1, h.x2, fun b hb => ⟨(h.old b hb).1, Nat.lt_of_lt_of_le (h.old b hb).2 hu.size⟩, hu.to_below h.bel h.bel.size (fun b e => by subst e; exact (h.old _ (.inr (.inl hne))).1), h.cnt⟩
  by_cases c : i = j
  · subst c; exact ⟨hl, (h.rm i hi).2⟩
  · obtain ⟨⟨l, hl2⟩, ht2⟩ := h.rm i hi
    refine ⟨⟨l, hl2.upd hu (fun b hb e => ?_)⟩, ht2⟩
    subst e
    have := ht2 _ hb
    rw [ht] at this
    simp only [Option.some.injEq, Prod.mk.injEq] at this
    omega
def putO (q : XQ) (j : Nat) (v : Value) : XQ := { q with lo := q.lo.put v (3 + j, 0), ro := fun i => if i = j then v else q.ro i }
theorem _root_.Go.Proofs.Ytgjcffjicbmkhaa.XrM.XC.roomN (h : XC W wr gW q n) {j : Nat} (hj : j < 64) {v : Value} {l : List Value} {w1 : World} (hb : Below wr.heap.size wr w1) (hG : GV 5 w1 v l) (hv : ∀ b, v.ownBlock = some b → wr.heap.size ≤ b) (hw : w' = w1.setCell ⟨gW, 39 + j, none⟩ v) : XC W w' gW (putO q j v) n := by
  have h1 := h.below hb
  have hvW : ∀ b, v.ownBlock = some b → b ≠ gW := fun b hb2 e => by have := hv b hb2; have := h.gW_lt; omega
  have hnone : ∀ b, v.ownBlock = some b → q.lo b = none := fun b hb2 => Classical.byContradiction fun e => by have := hv b hb2; have := h.lo_lt b e; omega
  have hle : ∀ b t, q.lo b = some t → (q.lo.put v (3 + j, 0)) b = some t := fun b t hb2 => by
    unfold Own.put
    rw [if_neg (fun e => by rw [hnone b e] at hb2; cases hb2)]
    exact hb2
  have cls : ∀ b, (q.lo.put v (3 + j, 0)) b ≠ none → q.lo b ≠ none ∨ v.ownBlock = some b := fun b hb2 => Own.put_ne hb2
  have hu : Upd (fun b => b = gW) w1 w' := by rw [hw]; exact Upd.put (S := fun b => b = gW) (Upd.refl _ w1) (.inl rfl) _ _
  have hsz : w'.heap.size = w1.heap.size := by rw [hw]; simp [World.setCell]
  have hnp : ∀ b, q.prog b → b ≠ gW := fun b hp => (h.x2 b hp).2.2
  have hnl : ∀ b, q.lo b ≠ none → b ≠ gW := fun b hb2 => (h.x1 b hb2).2
  have kc : ∀ i, i ≠ 39 + j → w'.cell? ⟨gW, i, none⟩ = w1.cell? ⟨gW, i, none⟩ := fun i hi => by rw [hw]; exact set_keep h1.blk hi
  obtain ⟨cur, T, hbk⟩ := h1.blk
  refine ⟨⟨fun i hi ho => ArD.upd (h1.th.at_ i hi ho) hu (fun b hb2 e => hnp b ⟨i, hi, ho, hb2⟩ e), h1.th.sep⟩, fun k hk ho => (h1.rf k hk ho).upd hu (fun b t hb2 e => hnl b (by rw [hb2]; simp) e) (fun b t hb2 => hle b _ hb2), ?_, fun i hi => (kc i (by omega)).trans (h1.pc i hi), fun i hi => (kc _ (by omega)).trans (h1.qc i hi), fun i hi => ?_, fun i hi => ?_, fun b hb2 => ?_, fun b hp => ?_, fun b hm => ?_, hu.to_below h1.bel h1.bel.size (fun b e => by subst e; exact (h.old _ (.inl rfl)).1), h.cnt⟩
  · have hB := h1.bk
    refine ⟨⟨?_, fun i hi => (kc _ (by omega)).trans (hB.hd.cell i hi)⟩, hB.tB.move hu (fun b t hb2 e => by subst e; rw [hB.ng] at hb2; cases hb2) (Own.le.refl _) (Nat.le_refl _), hB.tW.move hu (fun b t hb2 e => by subst e; rw [hB.ng] at hb2; cases hb2) (Own.le.refl _) (Nat.le_refl _), fun b hb2 => by rw [hsz]; exact hB.lt b hb2, hB.ng, hB.us⟩
    rw [hw]
    exact ⟨_, T, blk_set hbk _ _⟩
  · show _ = some (if i = j then v else q.ro i)
    by_cases c : i = j
    · subst c
      rw [if_pos rfl, hw, blk_cell (blk_set hbk _ _)]
      have h2 := h1.rc i hi
      rw [blk_cell hbk] at h2
      have hlt : 39 + i < cur.size := by
        rcases Nat.lt_or_ge (39 + i) cur.size with h3 | h3
        · exact h3
        · rw [Array.getElem?_eq_none h3] at h2; cases h2
      simp [hlt]
    · rw [if_neg c]
      exact (kc _ (by omega)).trans (h1.rc i hi)
  · show (∃ l, GV 5 w' (if i = j then v else q.ro i) l) ∧ ∀ b, (if i = j then v else q.ro i).ownBlock = some b → _
    by_cases c : i = j
    · subst c
      rw [if_pos rfl]
      exact ⟨⟨l, hG.upd hu (fun b hb2 e => hvW b hb2 e)⟩, fun b hb2 => Own.put_at hb2⟩
    · rw [if_neg c]
      obtain ⟨⟨l2, hl2⟩, ht2⟩ := h1.rm i hi
      exact ⟨⟨l2, hl2.upd hu (fun b hb2 e => hnl b (by rw [ht2 b hb2]; simp) e)⟩, fun b hb2 => hle _ _ (ht2 b hb2)⟩
  · rcases cls b hb2 with h2 | h2
    · exact h.x1 b h2
    · exact ⟨Classical.byContradiction fun e => by have := hv b h2; have := (h.old b (.inr (.inr (.inl e)))).2; omega, hvW b h2⟩
  · refine ⟨?_, (h.x2 b hp).2⟩
    apply Classical.byContradiction
    intro e
    rcases cls b e with h2 | h2
    · exact h2 (h.x2 b hp).1
    · have := hv b h2; have := (h.old b (.inr (.inr (.inr hp)))).2; omega
  · rw [hsz]
    rcases hm with h2 | h2 | h2 | h2
    · exact h1.old b (.inl h2)
    · rcases cls b h2 with h3 | h3
      · exact h1.old b (.inr (.inl h3))
      · exact ⟨Nat.le_trans h.bel.size (hv b h3), hG.lt b h3⟩
    · exact h1.old b (.inr (.inr (.inl h2)))
    · exact h1.old b (.inr (.inr (.inr h2)))
structure GR (W w0 wq : World) (gW : Nat) (q q1 : XQ) (n j gr cap : Nat) (l : List Value) : Prop where
  xc : XC W wq gW q1 n
  ga : GenAt 5 wq gr cap l
  kp : Keep q gW w0 wq
  own : (q1.ro j).ownBlock = some gr
  len : ∃ A c, q1.ro j = .slice A l.length c
  new : q.mine gW gr ∨ w0.heap.size ≤ gr
theorem GR.upd {w0 wq w2 : World} {q1 : XQ} {j gr cap : Nat} {l l' : List Value} (h : GR W w0 wq gW q q1 n j gr cap l) (hj : j < 64) (hG : GenAt 5 w2 gr cap l') (hl : l'.length = l.length) (hu : Upd (fun b => b = gr) wq w2) : GR W w0 w2 gW q q1 n j gr cap l' := by
  obtain ⟨A, c, e⟩ := h.len
  have hA : A = some ⟨gr, 0, none⟩ ∧ c = cap := by
    obtain ⟨⟨l0, hl0⟩, _⟩ := h.xc.rm j hj
    rw [e] at hl0
    have ho := h.own
    rw [e] at ho
    rcases hl0 with ⟨e2, _⟩ | ⟨g', c', e2, hg'⟩
    · simp only [Value.slice.injEq] at e2
      obtain ⟨rfl, _, _⟩ := e2
      cases ho
    · simp only [Value.slice.injEq] at e2
      obtain ⟨rfl, _, rfl⟩ := e2
      obtain rfl := Option.some.inj ho
      refine ⟨rfl, ?_⟩
      obtain ⟨cu, a1, a2, _⟩ := hg'
      obtain ⟨cv, b1, b2, _⟩ := h.ga
      rw [a1] at b1
      simp only [Option.some.injEq, Obj.cells.injEq, and_true] at b1
      have := congrArg Array.size b1
      simp at this
      omega
  exact ⟨h.xc.roomU hj h.own ⟨l', by rw [e, hA.1, hA.2]; exact .inr ⟨gr, cap, by rw [hl], hG⟩⟩ hu, hG, h.kp.then hu (fun b hb => by subst hb; exact h.new), h.own, by rw [hl]; exact h.len, h.new⟩
theorem GR.below {w0 wq w2 : World} {q1 : XQ} {j gr cap : Nat} {l : List Value} (h : GR W w0 wq gW q q1 n j gr cap l) (hb : Below wq.heap.size wq w2) : GR W w0 w2 gW q q1 n j gr cap l :=
  ⟨h.xc.below hb, h.ga.upd (S := none_) (Upd.of_below hb) (fun h => h), h.kp.then (S := none_) (Upd.of_below hb) (fun _ h => h.elim), h.own, h.len, h.new⟩
theorem GR.set {w0 wq : World} {q1 : XQ} {j gr cap : Nat} {l : List Value} (h : GR W w0 wq gW q q1 n j gr cap l) (hj : j < 64) {i : Nat} (hi : i < l.length) (y : Value) : GR W w0 (wq.setCell ⟨gr, i, none⟩ y) gW q q1 n j gr cap (l.set i y) :=
  h.upd hj (gen_set h.ga i hi y) (by rw [List.length_set]) (put_upd wq gr i y)
end Go.Proofs.Ytgjcffjicbmkhaa.XrR
end

section
namespace Go.Proofs.Ytgjcffjicbmkhaa.XrG
open Go Go.RowKit Go.Proofs.YtgjcffjicbmkhaaW.PrintWords Go.Proofs.YtgjcffjicbmkhaaW.PrintLast Go.Proofs.YtgjcffjicbmkhaaW.PrintMore Go.Proofs.Ytgjcffjicbmkhaa.RowU Go.Proofs.Ytgjcffjicbmkhaa.ArS Go.Proofs.Ytgjcffjicbmkhaa.ArM Go.Proofs.Ytgjcffjicbmkhaa.GenM Go.Proofs.Ytgjcffjicbmkhaa.GenN Go.Proofs.Ytgjcffjicbmkhaa.BokA Go.Proofs.Ytgjcffjicbmkhaa.BokB Go.Proofs.Ytgjcffjicbmkhaa.ArP Go.Proofs.Ytgjcffjicbmkhaa.ArQ Go.Proofs.Ytgjcffjicbmkhaa.XrM Go.Proofs.Ytgjcffjicbmkhaa.XrN Go.Proofs.Ytgjcffjicbmkhaa.XrP Go.Proofs.Ytgjcffjicbmkhaa.XrR Go.Proofs.Ytgjcffjicbmkhaa.XrW Go.Proofs.Ytgjcffjicbmkhaa.BytO
set_option linter.unusedVariables false
set_option maxRecDepth 100000
variable {W wr w' : World} {gW : Nat} {q : XQ} {n : Nat}
theorem make_u8L (n : Nat) (hn : n ≤ 140737488355328) (u : World) : (Instr.makeSlice 67 (.int .i64 (n : Int)) (.int .i64 (n : Int))).run Try.prog u =
    .ok (.slice (some ⟨u.heap.size, 0, none⟩) n n) (u.alloc (.cells (madeCells #[.int .u8 0] n) 5)) := by
  obtain ⟨i0, hi, hz0, hz1, hz2⟩ := ArB.infoB
  have h := run_make (P := Try.prog) u 67 5 i0 (.int .u8 0) Try.underlying67 hi hz0 .i64 .i64 (n : Int) (n : Int) (by omega) (Int.le_refl _) (by rw [hz2]; omega) (by omega)
  simpa [hz1, Value.cells] using h
theorem made_gen (w : World) (n : Nat) (hn : n ≤ maxLen) : GenAt 5 (w.alloc (.cells (madeCells #[.int .u8 0] n) 5)) w.heap.size n (List.replicate n (.int .u8 0)) := by
  have h := ArB.bytes_made w n hn (fun _ => 0)
  rwa [ArB.bytesV_zero] at h
def b8 (l : List Nat) : List Value := l.map (fun x : Nat => Value.int .u8 (x : Int))
def sev : Value := .int .u8 7
def mid1 (l2 l : List Value) (nb i : Nat) : List Value := l2 ++ (List.replicate (i - nb) sev ++ l.drop i)
theorem mid1_len {l2 l : List Value} {nb i : Nat} (h1 : l2.length = nb) (h2 : nb ≤ i) (h3 : i ≤ l.length) : (mid1 l2 l nb i).length = l.length := by
  unfold mid1; simp only [List.length_append, List.length_replicate, List.length_drop]; omega
theorem mid1_next {l2 l : List Value} {nb i : Nat} (h1 : l2.length = nb) (h2 : nb ≤ i) (h3 : i < l.length) : (mid1 l2 l nb i).set i sev = mid1 l2 l nb (i + 1) := by
  unfold mid1
  rw [List.set_append_right _ _ (by omega), List.set_append_right _ _ (by rw [List.length_replicate]; omega), List.length_replicate, h1, show i - nb - (i - nb) = 0 by omega, List.drop_eq_getElem_cons h3, List.set_cons_zero, show i + 1 - nb = (i - nb) + 1 by omega, List.replicate_succ', List.append_assoc]
  rfl
def eeV : Value := .int .u8 238
def mid2 (F : List Value) (i : Nat) : List Value := List.replicate i eeV ++ F.drop i
theorem mid2_len {F : List Value} {i : Nat} (h : i ≤ F.length) : (mid2 F i).length = F.length := by
  unfold mid2; simp only [List.length_append, List.length_replicate, List.length_drop]; omega
theorem mid2_next {F : List Value} {i : Nat} (h : i < F.length) : (mid2 F i).set i eeV = mid2 F (i + 1) := by
  unfold mid2
  rw [List.set_append_right _ _ (by rw [List.length_replicate]; omega), List.length_replicate, Nat.sub_self, List.drop_eq_getElem_cons h, List.set_cons_zero, List.replicate_succ', List.append_assoc]
  rfl
theorem mid2_get {F : List Value} {i : Nat} (h : i < F.length) : (mid2 F i)[i]? = F[i]? := by
  unfold mid2
  rw [List.getElem?_append_right (by rw [List.length_replicate]; omega), List.length_replicate, Nat.sub_self, List.getElem?_drop, Nat.add_zero]
def GvR (W wr w' : World) (gW : Nat) (q : XQ) (n k : Nat) (x y : Int) (bs : List Nat) (e : Ending) : Prop :=
  e = .returned (.tuple #[.int .i64 (ArP.stbR (q.d k).l x y bs).1, .bool true]) ∧ Keep q gW wr w' ∧ ∃ q', XC W w' gW q' n ∧ q'.on = q.on ∧ q'.rg = q.rg ∧ q'.re = q.re ∧ (∀ b, q'.mine gW b → q.mine gW b ∨ wr.heap.size ≤ b) ∧ (∀ i, i < 3 → q.on i = true → (q'.d i).sz = (q.d i).sz ∧ (q'.d i).g = (q.d i).g ∧ (q'.d i).l = if i = k then (ArP.stbR (q.d k).l x y bs).2 else (q.d i).l)
set_option maxHeartbeats 16000000 in
theorem given.calls (h : XC W wr gW q n) {k : Nat} (hk : k < 3) (ho : q.on k = true) (x y : Int) (bs : List Nat) (hbs : ∀ c ∈ bs, c < 256) (Ad : Option Addr) (cd : Nat) (hcell : ∀ (i c : Nat), bs[i]? = some c → ∃ ad, Ad = some ad ∧ wr.cell? (ad.add i) = some (.int .u8 (c : Int)) ∧ ¬ q.mine gW (ad.add i).block) (hn : bs.length ≤ 140737488351232) :
    Calls Try.prog 59 #[.pointer (some ⟨gW, 0, none⟩), .pointer (some ⟨(q.d k).g, 0, none⟩), .int .i64 x, .int .i64 y, .slice Ad bs.length cd] wr fun e w' => GvR W wr w' gW q n k x y bs e := by
  have H := Aside0.mk h
  have HK := Aside0.mk (And.intro hk (And.intro ho hbs))
  have HCELL := Aside0.mk hcell
  obtain ⟨nb, hnb⟩ : ∃ nb, nb = bs.length := ⟨_, rfl⟩
  obtain ⟨L, hL⟩ : ∃ L, L = nb + 3 := ⟨_, rfl⟩
  obtain ⟨j, hj⟩ : ∃ j, j = nb % 64 := ⟨_, rfl⟩
  have hj64 : j < 64 := by omega
  rw [← hnb] at hn
  rw [← hnb]
  have HNB := Aside0.mk (And.intro hnb (And.intro hL hj))
  have HTM := Aside0.mk (show Int.tmod (nb : Int) 64 = j by rw [Int.tmod_eq_emod_of_nonneg (by omega)]; omega)
  have HLM := Aside0.mk (show L ≤ maxLen by unfold maxLen; omega)
  have HSUM := Aside0.mk (NumB.sum_i (nb : Int) 3 L (by omega) (by omega))
  have hrc := h.rc j hj64
  obtain ⟨⟨l0, hl0⟩, hown0⟩ := h.rm j hj64
  obtain ⟨A0, c0, e0⟩ := hl0.slice
  rw [e0] at hrc
  have HL0 := Aside0.mk (And.intro hl0 (And.intro hown0 e0))
  have hji : (j : Int) < 64 := by omega
  have hj0 : (0 : Int) ≤ j := by omega
  have hmk := fun u : World => make_u8L L (by omega) u
  clear h hk ho hbs hcell hnb hL hj hl0 hown0 e0
  go_enter Try.func59, Try.ntmps59
  have e1 := HTM.out
  obtain ⟨e2, f2⟩ := HSUM.out
  go_upto_if 30 with fail
  go_cut [12] (fun v12 wc => ∃ (q1 : XQ) (gr cap : Nat) (l : List Value), v12 = .slice (some ⟨gr, 0, none⟩) L cap ∧ Aside0 (GR W wr wc gW q q1 n j gr cap l ∧ l.length = L ∧ q1.d = q.d ∧ q1.on = q.on ∧ q1.rg = q.rg ∧ q1.re = q.re ∧ (∀ b, q1.mine gW b → q.mine gW b ∨ wr.heap.size ≤ b)))
  case first =>
    by_cases hll : l0.length = L
    · have e3 : ((l0.length : Int) != (L : Int)) = false := by simp [hll]
      obtain ⟨gr, hgr⟩ : ∃ gr, A0 = some ⟨gr, 0, none⟩ := by
        have hg := HL0.out.1
        rw [HL0.out.2.2] at hg
        rcases hg with ⟨_, hnil⟩ | ⟨g', c', e, _⟩
        · have := congrArg List.length hnil; rw [List.length_nil] at this; have := HNB.out.2.1; omega
        · simp only [Value.slice.injEq] at e; exact ⟨g', e.1⟩
      subst hgr
      have HF : Aside0 (GR W wr wr gW q q n j gr c0 l0 ∧ l0.length = L) := ⟨⟨H.out, by have hg := HL0.out.1; rw [HL0.out.2.2] at hg; exact (GenAt.of_gv hg).1, Keep.below (Below.refl _ _), by rw [HL0.out.2.2]; rfl, ⟨_, _, HL0.out.2.2⟩, .inl (.inr (.inl (by rw [HL0.out.2.1 gr (by rw [HL0.out.2.2]; rfl)]; simp)))⟩, hll⟩
      have HLL := Aside0.mk hll
      clear hll
      go_wp2_with fail
      go_meet
      exact ⟨q, gr, c0, l0, by rw [HLL.out], ⟨HF.out.1, HF.out.2, rfl, rfl, rfl, rfl, fun b h => .inl h⟩⟩
    · have e3 : ((l0.length : Int) != (L : Int)) = true := by simp; omega
      obtain ⟨wm, hwm⟩ : ∃ wm, wm = wr.alloc (.cells (madeCells #[.int .u8 0] L) 5) := ⟨_, rfl⟩
      have HWM := Aside0.mk hwm
      have hbm : Below wr.heap.size wr wm := by rw [hwm]; exact below_alloc (Below.refl _ _) _
      have hgm : GenAt 5 wm wr.heap.size L (List.replicate L (.int .u8 0)) := by rw [hwm]; exact made_gen wr L HLM.out
      have HM := Aside0.mk (And.intro hbm hgm)
      have hrc' : (wr.alloc (.cells (madeCells #[.int .u8 0] L) 5)).cell? ⟨gW, 39 + j, none⟩ = some (.slice A0 l0.length c0) := by rw [← hwm]; exact pw_cell_below hbm hrc
      have hfz : (wr.alloc (.cells (madeCells #[.int .u8 0] L) 5)).frozen? ⟨gW, 39 + j, none⟩ = false := by
        obtain ⟨cu, T, hbk⟩ := H.out.blk
        have h5 := blk_below hbk hbm
        rw [hwm] at h5
        exact blk_frozen h5 _
      clear hwm hbm hgm hll hrc
      go_wp2_with fail
      go_meet
      refine ⟨putO q j (.slice (some ⟨wr.heap.size, 0, none⟩) L L), wr.heap.size, L, List.replicate L (.int .u8 0), rfl, ⟨⟨?_, ?_, ?_, ?_, ?_, .inr (Nat.le_refl _)⟩, by simp, rfl, rfl, rfl, rfl, fun b hb => ?_⟩⟩
      · exact H.out.roomN hj64 HM.out.1 (v := .slice (some ⟨wr.heap.size, 0, none⟩) L L) (.inr ⟨_, L, by simp, HM.out.2⟩) (fun b hb => by obtain rfl := Option.some.inj hb; exact Nat.le_refl _) (by rw [HWM.out])
      · have h5 := HM.out.2
        rw [HWM.out] at h5
        exact h5.upd (put_upd _ gW _ _) (fun e => by have := H.out.gW_lt; omega)
      · have h5 : Keep q gW wr wm := Keep.below HM.out.1
        rw [HWM.out] at h5
        exact h5.then (put_upd _ gW _ _) (fun b hb => .inl (.inl hb))
      · show (if j = j then _ else _ : Value).ownBlock = _
        rw [if_pos rfl]; rfl
      · exact ⟨some ⟨wr.heap.size, 0, none⟩, L, by show (if j = j then _ else _ : Value) = _; rw [if_pos rfl]; simp⟩
      · rcases hb with h1 | h1 | h1 | h1
        · exact .inl (.inl h1)
        · rcases Own.put_ne h1 with h2 | h2
          · exact .inl (.inr (.inl h2))
          · obtain rfl := Option.some.inj h2; exact .inr (Nat.le_refl _)
        · exact .inl (.inr (.inr (.inl h1)))
        · exact .inl (.inr (.inr (.inr h1)))
  case rest =>
    obtain ⟨q1, gr, cap, l, rfl, HG⟩ := hcut
    clear hrc hmk
    clear e1 e2 f2
    rename World => wc
    obtain ⟨l2, hl2⟩ : ∃ l2, l2 = b8 bs := ⟨_, rfl⟩
    have hl2l : l2.length = nb := by rw [hl2]; unfold b8; rw [List.length_map]; exact HNB.out.1.symm
    have HL2 := Aside0.mk (And.intro hl2 hl2l)
    have HSRC : Aside0 (∀ w0, Keep q gW wr w0 → ∀ (i : Nat) (y : Value), l2[i]? = some y → ∃ ad, Ad = some ad ∧ w0.cell? (ad.add i) = some y) := ⟨fun w0 hk0 i y hy => by
      rw [hl2] at hy
      unfold b8 at hy
      rw [List.getElem?_map] at hy
      obtain ⟨c, hc, rfl⟩ := Option.map_eq_some_iff.1 hy
      obtain ⟨ad, e, h5, h6⟩ := HCELL.out i c hc
      refine ⟨ad, e, RfV.cell_upd h5 hk0 (fun h7 => ?_)⟩
      rcases h7 with h7 | h7
      · exact h6 h7
      · have := World.block_lt_of_cell? _ _ h5; omega⟩
    have hLL := HG.out.2.1
    have hnL : nb ≤ L := by have := HNB.out.2.1; omega
    have HONE : Aside0 (∀ y ∈ l2, y.oneCell' = true) := ⟨fun y hy => by rw [hl2] at hy; unfold b8 at hy; obtain ⟨c, _, rfl⟩ := List.mem_map.1 hy; rfl⟩
    have HLL := Aside0.mk (And.intro hLL hnL)
    clear hl2 hl2l hLL hnL
    go_upto_region 6 with ((with_reducible refine gate_builtin (b := .copy) (xs := #[.tmp 43, .tmp 44]) rfl ?_); go_must (refine wpList_plain rfl fun K hK' => oper_copyB _ (.tmp 43) (.tmp 44) rfl _ gr 0 L cap rfl Ad nb cd rfl cap l HG.out.1.ga l2 HL2.out.2 HLL.out.2 ?hfit (HSRC.out _ HG.out.1.kp) HONE.out (fun _ => rfl) ?_); go_must ((case hfit => have := HLL.out.1; omega)); intro w2 hga2 hu2; have HG2 := Aside0.mk (And.intro hga2 hu2); clear hga2 hu2; refine hK' _ _ ?_)
    have hM0 : Aside0 (GR W wr w2 gW q q1 n j gr cap (mid1 l2 l nb nb)) := ⟨by
      have e : mid1 l2 l nb nb = l.take 0 ++ l2 ++ l.drop (0 + nb) := by unfold mid1; simp
      have e5 : (mid1 l2 l nb nb).length = l.length := mid1_len HL2.out.2 (Nat.le_refl _) (by have := HLL.out; omega)
      exact HG.out.1.upd hj64 (by rw [e]; exact HG2.out.1) e5 HG2.out.2⟩
    go_upto_region 7 with fail
    go_loopw [13] (fun v wq => ∃ i : Nat, nb ≤ i ∧ i ≤ L ∧ v = .int .i64 i ∧ Aside0 (GR W wr wq gW q q1 n j gr cap (mid1 l2 l nb i))) (fun v _ => L - (intOf v).toNat)
    case atStart => exact ⟨nb, Nat.le_refl _, HLL.out.2, rfl, hM0⟩
    case round =>
      obtain ⟨i, hi1, hi2, rfl, HM⟩ := hrel
      clear hM0
      rename World => wq
      have hLm := HLM.out
      unfold maxLen at hLm
      by_cases hlt : i < L
      · have hlt' : (i : Int) < L := by omega
        have hi0 : (0 : Int) ≤ i := by omega
        have hml : (mid1 l2 l nb i).length = L := by rw [mid1_len HL2.out.2 hi1 (by rw [HLL.out.1]; exact hi2)]; exact HLL.out.1
        obtain ⟨old, hold⟩ : ∃ old, (mid1 l2 l nb i)[i]? = some old := ⟨_, List.getElem?_eq_getElem (by omega)⟩
        have hkk := HM.out.ga.get i old hold
        have hfz := gen_frozen HM.out.ga i
        have HM2 := HM.out.set hj64 (i := i) (by omega) sev
        rw [mid1_next HL2.out.2 hi1 (by rw [HLL.out.1]; exact hlt)] at HM2
        have HM3 := Aside0.mk HM2
        unfold sev at HM3
        clear hold HM2 hml
        go_wp2_with fail
        exact ⟨⟨i + 1, by omega, by omega, by rw [Int.natCast_succ], HM3⟩, by simp only [intOf]; omega⟩
      · obtain rfl : i = L := by omega
        clear hlt hi1
        obtain ⟨F, hF⟩ : ∃ F, F = mid1 l2 l nb i := ⟨_, rfl⟩
        have hFl : F.length = i := by rw [hF, mid1_len HL2.out.2 HLL.out.2 (by rw [HLL.out.1]; exact Nat.le_refl _)]; exact HLL.out.1
        have hF1 : ∀ t, t < nb → F[t]? = l2[t]? := fun t ht => by rw [hF]; unfold mid1; rw [List.getElem?_append_left (by rw [HL2.out.2]; exact ht)]
        have hF2 : ∀ t, nb ≤ t → t < i → F[t]? = some sev := fun t h1 h2 => by
          rw [hF]; unfold mid1
          rw [List.getElem?_append_right (by rw [HL2.out.2]; exact h1), HL2.out.2, List.getElem?_append_left (by rw [List.length_replicate]; omega), List.getElem?_replicate, if_pos (by omega)]
        have hGF := HM.out
        rw [← hF] at hGF
        have HFF := Aside0.mk (And.intro hFl (And.intro hF1 (And.intro hF2 hGF)))
        have hd := HG.out.2.2.1
        have hon := HG.out.2.2.2.1
        have hlo : q1.lo gr ≠ none := by rw [(hGF.xc.rm j hj64).2 gr hGF.own]; simp
        have hat : ArAt wq (q.d k).g (q.d k).gw (q.d k).gf (q.d k).sz (q.d k).l := by
          have := hGF.xc.th.at_ k HK.out.1 (by rw [hon]; exact HK.out.2.1)
          rw [hd] at this
          exact this
        have hgw : gr ≠ (q.d k).gw := fun e => hlo (hGF.xc.x2 gr ⟨k, HK.out.1, by rw [hon]; exact HK.out.2.1, by rw [hd]; exact .inr (.inl e)⟩).1
        have HSB0 := setBytes_all hat x y bs HK.out.2.2 (some ⟨gr, 0, none⟩) cap (fun t c hc => ⟨_, rfl, hgw, by
          rw [Addr.add_lit, Nat.zero_add]
          have ht : t < nb := by rw [HNB.out.1]; exact (List.getElem?_eq_some_iff.1 hc).1
          have h5 : F[t]? = some (.int .u8 (c : Int)) := by rw [hF1 t ht, HL2.out.1]; unfold b8; rw [List.getElem?_map, hc]; rfl
          exact hGF.ga.get t _ h5⟩) (by rw [← HNB.out.1]; omega)
        rw [← HNB.out.1] at HSB0
        have HSB := Aside0.mk HSB0
        have HLO := Aside0.mk hlo
        clear hF hFl hF1 hF2 hGF hd hon hlo hat hgw HSB0
        have hni : (nb : Int) ≤ cap := by
          obtain ⟨cu, _, a2, a3, _⟩ := HFF.out.2.2.2.ga
          have := HFF.out.1
          have := HLL.out.2
          omega
        have hnc : nb ≤ cap := by omega
        go_wp2_with fail
        refine HSB.out.mono ?_
        clear HSB
        rintro e w4 ⟨rfl, hA, hu⟩
        have hd := HG.out.2.2.1
        have hon := HG.out.2.2.2.1
        have hgwgr : gr ≠ (q.d k).gw := fun e => HLO.out (HFF.out.2.2.2.xc.x2 gr ⟨k, HK.out.1, by rw [hon]; exact HK.out.2.1, by rw [hd]; exact .inr (.inl e)⟩).1
        have hXC := HFF.out.2.2.2.xc.p1 (k := k) HK.out.1 (by rw [hon]; exact HK.out.2.1) (gw' := (q.d k).gw) (gf' := (q.d k).gf) (by rw [hd]; exact hA) (.inl (by rw [hd])) (.inl (by rw [hd])) (hu.mono (fun b hb => by rw [hd]; exact .inr (.inl hb)))
        have hGR : GR W wr w4 gW q (putP q1 k (q.d k).gw (q.d k).gf (ArP.stbR (q.d k).l x y bs).2) n j gr cap F := by
          have h0 := HFF.out.2.2.2
          exact ⟨hXC, h0.ga.upd hu hgwgr, h0.kp.then hu (fun b hb => .inl (.inr (.inr (.inr ⟨k, HK.out.1, HK.out.2.1, .inr (.inl hb)⟩)))), h0.own, h0.len, h0.new⟩
        obtain ⟨q2, hq2⟩ : ∃ q2, q2 = putP q1 k (q.d k).gw (q.d k).gf (ArP.stbR (q.d k).l x y bs).2 := ⟨_, rfl⟩
        rw [← hq2] at hGR
        have hN0 : Aside0 (GR W wr w4 gW q q2 n j gr cap (mid2 F 0)) := ⟨by
          have e : mid2 F 0 = F := by unfold mid2; simp
          rw [e]; exact hGR⟩
        have HQ2 := Aside0.mk hq2
        obtain ⟨er, her⟩ : ∃ er, er = (ArP.stbR (q.d k).l x y bs).1 := ⟨_, rfl⟩
        have HER := Aside0.mk her
        rw [← her]
        clear hd hon hgwgr hXC hGR hq2 hA hu her
        go_upto_region 13 with fail
        go_loopw [15, 16] (fun v15 v wq => ∃ t : Nat, t ≤ i ∧ v15 = .bool true ∧ v = .int .i64 t ∧ Aside0 (GR W wr wq gW q q2 n j gr cap (mid2 F t))) (fun _ v _ => i - (intOf v).toNat)
        case atStart => exact ⟨0, Nat.zero_le _, rfl, rfl, hN0⟩
        case round =>
          obtain ⟨t, ht, rfl, rfl, HN⟩ := hrel
          clear hN0
          rename World => wv
          by_cases hlt : t < i
          · have hlt' : (t : Int) < i := by omega
            have ht0 : (0 : Int) ≤ t := by omega
            have hFl := HFF.out.1
            have HN3 : Aside0 (∀ nd, GR W wr ((wv.drewN nd).setCell ⟨gr, t, none⟩ (.int .u8 238)) gW q q2 n j gr cap (mid2 F (t + 1))) := ⟨fun nd => by
              have h5 := (HN.out.below (pw_below_drewN (Below.refl wv.heap.size wv) nd)).set hj64 (i := t) (by rw [mid2_len (by omega)]; omega) eeV
              rw [mid2_next (by omega)] at h5
              exact h5⟩
            have hfz := gen_frozen HN.out.ga t
            by_cases htn : t < nb
            · have htn' : (t : Int) < nb := by omega
              obtain ⟨c, hc⟩ : ∃ c, bs[t]? = some c := ⟨_, List.getElem?_eq_getElem (by rw [← HNB.out.1]; exact htn)⟩
              have h5 : F[t]? = some (.int .u8 (c : Int)) := by rw [HFF.out.2.1 t htn, HL2.out.1]; unfold b8; rw [List.getElem?_map, hc]; rfl
              have hkk := HN.out.ga.get t _ ((mid2_get (by omega)).trans h5)
              obtain ⟨ad, rfl, hcd⟩ := HSRC.out wv HN.out.kp t _ ((HFF.out.2.1 t htn).symm.trans h5)
              have hcc : ((c : Int) != (c : Int)) = false := by simp
              have hd1 : decide ((t : Int) < nb) = true := decide_eq_true htn'
              have hd2 : decide (t < nb) = true := decide_eq_true htn
              have hd3 : decide ((t : Int) ≥ nb) = false := decide_eq_false (by omega)
              have hd4 : decide (nb ≤ t) = false := decide_eq_false (by omega)
              clear hc h5 hFl
              go_wp2_with fail
              go_quiet (fail)
              go_wp2_with fail
              exact ⟨⟨t + 1, by omega, rfl, by rw [Int.natCast_succ], ⟨HN3.out _⟩⟩, by simp only [intOf]; omega⟩
            · have htn' : ¬ (t : Int) < nb := by omega
              have hkk := HN.out.ga.get t _ ((mid2_get (by omega)).trans (HFF.out.2.2.1 t (by omega) hlt))
              unfold sev at hkk
              have hd1 : decide ((t : Int) < nb) = false := decide_eq_false htn'
              have hd2 : decide (t < nb) = false := decide_eq_false htn
              have hd3 : decide ((t : Int) ≥ nb) = true := decide_eq_true (by omega)
              have hd4 : decide (nb ≤ t) = true := decide_eq_true (by omega)
              clear hFl
              go_wp2_with fail
              go_quiet (fail)
              go_wp2_with fail
              exact ⟨⟨t + 1, by omega, rfl, by rw [Int.natCast_succ], ⟨HN3.out _⟩⟩, by simp only [intOf]; omega⟩
          · obtain rfl : t = i := by omega
            clear hlt
            go_wp2_with fail
            go_ret2
            have h0 := HN.out
            refine ⟨by rw [HER.out]; rfl, h0.kp, q2, h0.xc, ?_, ?_, ?_, ?_, fun i' hi' ho' => ?_⟩
            · rw [HQ2.out]; exact HG.out.2.2.2.1
            · rw [HQ2.out]; exact HG.out.2.2.2.2.1
            · rw [HQ2.out]; exact HG.out.2.2.2.2.2.1
            · rw [HQ2.out]
              intro b hb
              refine HG.out.2.2.2.2.2.2 b ?_
              rcases hb with h1 | h1 | h1 | ⟨i', hi', ho', hb'⟩
              · exact .inl h1
              · exact .inr (.inl h1)
              · exact .inr (.inr (.inl h1))
              · refine .inr (.inr (.inr ⟨i', hi', ho', ?_⟩))
                have hb'' : (putD q1.d k ⟨(q1.d k).g, (q.d k).gw, (q.d k).gf, (q1.d k).sz, (ArP.stbR (q.d k).l x y bs).2⟩ i').blk b := hb'
                by_cases c : i' = k
                · subst c
                  rw [putD_self, ← HG.out.2.2.1] at hb''
                  exact hb''
                · rw [putD_other _ _ _ _ c] at hb''
                  exact hb''
            · rw [HQ2.out]
              show (putD q1.d k _ i').sz = _ ∧ (putD q1.d k _ i').g = _ ∧ (putD q1.d k _ i').l = _
              by_cases c : i' = k
              · subst c
                rw [putD_self, if_pos rfl, HG.out.2.2.1]
                exact ⟨rfl, rfl, rfl⟩
              · rw [putD_other _ _ _ _ c, if_neg c, HG.out.2.2.1]
                exact ⟨rfl, rfl, rfl⟩
end Go.Proofs.Ytgjcffjicbmkhaa.XrG
end

section
namespace Go.Proofs.Ytgjcffjicbmkhaa.XrL0
open Go Go.RowKit Go.Proofs.YtgjcffjicbmkhaaW.PrintWords Go.Proofs.YtgjcffjicbmkhaaW.PrintLast Go.Proofs.YtgjcffjicbmkhaaW.PrintMore Go.Proofs.Ytgjcffjicbmkhaa.RowU Go.Proofs.Ytgjcffjicbmkhaa.ArS Go.Proofs.Ytgjcffjicbmkhaa.ArM Go.Proofs.Ytgjcffjicbmkhaa.GenM Go.Proofs.Ytgjcffjicbmkhaa.GenN Go.Proofs.Ytgjcffjicbmkhaa.BokA Go.Proofs.Ytgjcffjicbmkhaa.BokB Go.Proofs.Ytgjcffjicbmkhaa.ArP Go.Proofs.Ytgjcffjicbmkhaa.ArQ Go.Proofs.Ytgjcffjicbmkhaa.RfM Go.Proofs.Ytgjcffjicbmkhaa.XrM Go.Proofs.Ytgjcffjicbmkhaa.XrN Go.Proofs.Ytgjcffjicbmkhaa.XrP Go.Proofs.Ytgjcffjicbmkhaa.XrW Go.Proofs.Ytgjcffjicbmkhaa.XrB Go.Proofs.Ytgjcffjicbmkhaa.BegW
set_option linter.unusedVariables false
set_option maxRecDepth 100000
variable {W wr w' : World} {gW : Nat} {q : XQ} {n : Nat}
set_option maxHeartbeats 16000000 in
theorem lists.calls (h : XC W wr gW q n) (hn9 : n ≤ 1000000) (he : XE q) (K Bk Sr x y z : Int) (V : Nat) (Ad : Option Addr) (nb cd : Nat) (hon : q.on (mod3 Bk) = true) (hK : (K == 6) = false ∧ (K == 7) = false ∧ (K == 8) = false ∧ (K == 10) = false ∧ (K == 11) = false ∧ (K == 12) = false) :
    Calls Try.prog 48 #[.pointer (some ⟨gW, 0, none⟩), .agg #[.int .i64 K, .int .i64 Bk, .int .i64 Sr, .int .i64 x, .int .i64 y, .int .i64 z, .int .u64 (V : Int), .slice Ad nb cd]] wr fun e w' => StR W w' gW q (n + 1) e := by
  have H := Aside0.mk h
  obtain ⟨m, hm⟩ : ∃ m, m = mod3 Bk := ⟨_, rfl⟩
  have hm3 : m < 3 := by rw [hm]; exact mod3_lt Bk
  have HE := Aside0.mk (And.intro he hon)
  have HT : Aside0 (∀ w, Calls Try.prog 30 #[.int .i64 Bk] w fun e w' => e = .returned (.int .i64 (m : Int)) ∧ Drawn0 w w') := ⟨fun w => by rw [hm]; exact three_q Bk w⟩
  rw [← hm] at HE
  clear h he hon hm
  have HKK := Aside0.mk hK
  clear hK
  go_enter Try.func48, Try.ntmps48
  go_upto_region 1 with ((with_reducible refine gate_dst (N := 3) rfl ?_); refine box_event ?hg (N := 3) ?hd (cs := #[.int .i64 K, .int .i64 Bk, .int .i64 Sr, .int .i64 x, .int .i64 y, .int .i64 z, .int .u64 (V : Int), .slice Ad nb cd]) (t := 80) ?hr ?_; (case hd => rfl); (case hg => rfl); (case hr => first | (go_simp; done) | (go_simp; rfl)); intro ga hga w1 hbox hb; have BA := Aside0.mk hbox; have HB := Aside0.mk hb; have GA := Aside0.mk hga; clear hbox hb hga)
  have H1 := Aside0.mk (H.out.below HB.out)
  have b1 : w1.cell? ⟨ga, 1, none⟩ = some (.int .i64 Bk) := (blk_cell BA.out 1).trans rfl
  have hpc : w1.cell? ⟨gW, m, none⟩ = some (.pointer (some ⟨(q.d m).g, 0, none⟩)) := by rw [H1.out.pc m hm3]; unfold pC; rw [if_pos HE.out.2]
  have hqc : w1.cell? ⟨gW, 3 + m, none⟩ = some (.pointer (some ⟨q.rg m, 0, none⟩)) := by rw [H1.out.qc m hm3]; unfold qC; rw [if_pos HE.out.2]
  have hmi : (m : Int) < 3 := by omega
  have hm0 : (0 : Int) ≤ m := by omega
  go_quiet (first | (go_at_call 30; (with_reducible refine (HT.out _).mono ?_); rintro e w' ⟨rfl, ⟨nd, rfl⟩⟩; (try first | exact ⟨rfl, _, World.drewN_drewN _ _ _⟩ | exact ⟨rfl, _, Eq.trans (World.drewN_drewN _ _ _) (congrArg (World.drewN _) (Nat.add_assoc _ _ _))⟩)))
  have hbd := pw_below_drewN (Below.refl w1.heap.size w1) nq
  have H2 := Aside0.mk (H1.out.below hbd)
  have BA2 := Aside0.mk (blk_below BA.out hbd)
  have HB2 := Aside0.mk (below_next HB.out hbd)
  have HNM : Aside0 (¬ (q.mine gW ga ∨ (w1.drewN nq).heap.size ≤ ga)) := ⟨by
    rintro (h1 | h1)
    · exact (H.out.fresh (b := ga) (by rw [GA.out]; exact Nat.le_refl _)).1 h1
    · have := cell_lt BA2.out; omega⟩
  clear hbd b1 hpc hqc H1 BA HB
  generalize w1.drewN nq = w2 at *
  have b0 : w2.cell? ⟨ga, 0, none⟩ = some (.int .i64 K) := (blk_cell BA2.out 0).trans rfl
  obtain ⟨e1, e2, e3, e4, e5, e6⟩ := HKK.out
  go_wp2_with fail
  go_ret
  exact ⟨rfl, q, H2.out.more (by omega), HE.out.1, rfl⟩
end Go.Proofs.Ytgjcffjicbmkhaa.XrL0
end

section
namespace Go.Proofs.Ytgjcffjicbmkhaa.XrL6
open Go Go.RowKit Go.Proofs.YtgjcffjicbmkhaaW.PrintWords Go.Proofs.YtgjcffjicbmkhaaW.PrintLast Go.Proofs.YtgjcffjicbmkhaaW.PrintMore Go.Proofs.Ytgjcffjicbmkhaa.RowU Go.Proofs.Ytgjcffjicbmkhaa.ArS Go.Proofs.Ytgjcffjicbmkhaa.ArM Go.Proofs.Ytgjcffjicbmkhaa.GenM Go.Proofs.Ytgjcffjicbmkhaa.GenN Go.Proofs.Ytgjcffjicbmkhaa.BokA Go.Proofs.Ytgjcffjicbmkhaa.BokB Go.Proofs.Ytgjcffjicbmkhaa.ArP Go.Proofs.Ytgjcffjicbmkhaa.ArQ Go.Proofs.Ytgjcffjicbmkhaa.RfM Go.Proofs.Ytgjcffjicbmkhaa.XrM Go.Proofs.Ytgjcffjicbmkhaa.XrN Go.Proofs.Ytgjcffjicbmkhaa.XrP Go.Proofs.Ytgjcffjicbmkhaa.XrW Go.Proofs.Ytgjcffjicbmkhaa.XrB Go.Proofs.Ytgjcffjicbmkhaa.BegW
set_option linter.unusedVariables false
set_option maxRecDepth 100000
variable {W wr w' : World} {gW : Nat} {q : XQ} {n : Nat}
set_option maxHeartbeats 16000000 in
theorem lists.calls (h : XC W wr gW q n) (hn9 : n ≤ 1000000) (he : XE q) (Bk Sr x y z : Int) (V : Nat) (Ad : Option Addr) (nb cd : Nat) (hon : q.on (mod3 Bk) = true) (hy : -9223372036854775808 ≤ y ∧ y < 9223372036854775808) (hz : -9223372036854775808 ≤ z ∧ z < 9223372036854775808) :
    Calls Try.prog 48 #[.pointer (some ⟨gW, 0, none⟩), .agg #[.int .i64 6, .int .i64 Bk, .int .i64 Sr, .int .i64 x, .int .i64 y, .int .i64 z, .int .u64 (V : Int), .slice Ad nb cd]] wr fun e w' => StR W w' gW q (n + 1) e := by
  have H := Aside0.mk h
  obtain ⟨m, hm⟩ : ∃ m, m = mod3 Bk := ⟨_, rfl⟩
  have hm3 : m < 3 := by rw [hm]; exact mod3_lt Bk
  have HE := Aside0.mk (And.intro he hon)
  have HT : Aside0 (∀ w, Calls Try.prog 30 #[.int .i64 Bk] w fun e w' => e = .returned (.int .i64 (m : Int)) ∧ Drawn0 w w') := ⟨fun w => by rw [hm]; exact three_q Bk w⟩
  rw [← hm] at HE
  clear h he hon hm
  have HYZ := Aside0.mk (And.intro hy hz)
  clear hy hz
  go_enter Try.func48, Try.ntmps48
  go_upto_region 1 with ((with_reducible refine gate_dst (N := 3) rfl ?_); refine box_event ?hg (N := 3) ?hd (cs := #[.int .i64 6, .int .i64 Bk, .int .i64 Sr, .int .i64 x, .int .i64 y, .int .i64 z, .int .u64 (V : Int), .slice Ad nb cd]) (t := 80) ?hr ?_; (case hd => rfl); (case hg => rfl); (case hr => first | (go_simp; done) | (go_simp; rfl)); intro ga hga w1 hbox hb; have BA := Aside0.mk hbox; have HB := Aside0.mk hb; have GA := Aside0.mk hga; clear hbox hb hga)
  have H1 := Aside0.mk (H.out.below HB.out)
  have b1 : w1.cell? ⟨ga, 1, none⟩ = some (.int .i64 Bk) := (blk_cell BA.out 1).trans rfl
  have hpc : w1.cell? ⟨gW, m, none⟩ = some (.pointer (some ⟨(q.d m).g, 0, none⟩)) := by rw [H1.out.pc m hm3]; unfold pC; rw [if_pos HE.out.2]
  have hqc : w1.cell? ⟨gW, 3 + m, none⟩ = some (.pointer (some ⟨q.rg m, 0, none⟩)) := by rw [H1.out.qc m hm3]; unfold qC; rw [if_pos HE.out.2]
  have hmi : (m : Int) < 3 := by omega
  have hm0 : (0 : Int) ≤ m := by omega
  go_quiet (first | (go_at_call 30; (with_reducible refine (HT.out _).mono ?_); rintro e w' ⟨rfl, ⟨nd, rfl⟩⟩; (try first | exact ⟨rfl, _, World.drewN_drewN _ _ _⟩ | exact ⟨rfl, _, Eq.trans (World.drewN_drewN _ _ _) (congrArg (World.drewN _) (Nat.add_assoc _ _ _))⟩)))
  have hbd := pw_below_drewN (Below.refl w1.heap.size w1) nq
  have H2 := Aside0.mk (H1.out.below hbd)
  have BA2 := Aside0.mk (blk_below BA.out hbd)
  have HB2 := Aside0.mk (below_next HB.out hbd)
  have HNM : Aside0 (¬ (q.mine gW ga ∨ (w1.drewN nq).heap.size ≤ ga)) := ⟨by
    rintro (h1 | h1)
    · exact (H.out.fresh (b := ga) (by rw [GA.out]; exact Nat.le_refl _)).1 h1
    · have := cell_lt BA2.out; omega⟩
  clear hbd b1 hpc hqc H1 BA HB
  generalize w1.drewN nq = w2 at *
  have b0 : w2.cell? ⟨ga, 0, none⟩ = some (.int .i64 6) := (blk_cell BA2.out 0).trans rfl
  obtain ⟨bl, hbl⟩ : ∃ bl, bl = (byOf (q.d m).l x y z).1 := ⟨_, rfl⟩
  obtain ⟨er, her⟩ : ∃ er, er = (byOf (q.d m).l x y z).2 := ⟨_, rfl⟩
  have HP : Aside0 (∀ wq, XC W wq gW q n → Calls Try.prog 44 #[.pointer (some ⟨(q.d m).g, 0, none⟩), .int .i64 x, .int .i64 y, .int .i64 z] wq fun e w' => BytA wq w' bl er e) := ⟨fun wq hq => by rw [hbl, her]; exact p_bytes hq hm3 HE.out.2 x y z⟩
  have HQ : Aside0 (∀ wq, XC W wq gW q n → Calls Try.prog 57 #[.pointer (some ⟨q.rg m, 0, none⟩), .int .i64 x, .int .i64 y, .int .i64 z] wq fun e w' => BytA wq w' bl er e) := ⟨fun wq hq => by rw [hbl, her]; exact q_bytes hq HE.out.1 hm3 HE.out.2 x y z HYZ.out.1 HYZ.out.2⟩
  have hlen : bl.length ≤ 8388608 := by rw [hbl]; exact byOf_len H2.out hm3 HE.out.2 x y z
  clear hbl her
  have b3 : w2.cell? ⟨ga, 3, none⟩ = some (.int .i64 x) := (blk_cell BA2.out 3).trans rfl
  have b4 : w2.cell? ⟨ga, 4, none⟩ = some (.int .i64 y) := (blk_cell BA2.out 4).trans rfl
  have b5 : w2.cell? ⟨ga, 5, none⟩ = some (.int .i64 z) := (blk_cell BA2.out 5).trans rfl
  go_wp2_with fail
  refine (HP.out w2 H2.out).mono ?_
  rintro e w3 ⟨v1, rfl, g1, o1, hb1⟩
  obtain ⟨A1, c1, rfl⟩ := g1.slice
  rw [List.length_map] at g1 o1 ⊢
  have R3 := Aside0.mk (And.intro g1 (And.intro o1 hb1))
  have H3 := Aside0.mk (H2.out.below hb1)
  have BA3 := Aside0.mk (blk_below BA2.out hb1)
  have d3 := pw_cell_below hb1 b3
  have d4 := pw_cell_below hb1 b4
  have d5 := pw_cell_below hb1 b5
  clear g1 o1 hb1 b3 b4 b5
  go_wp2_with fail
  refine (HP.out w3 H3.out).mono ?_
  rintro e w4 ⟨v2, rfl, g2, o2, hb2⟩
  obtain ⟨A2, c2, rfl⟩ := g2.slice
  rw [List.length_map] at g2 o2 ⊢
  have R4 := Aside0.mk (And.intro g2 (And.intro o2 hb2))
  have H4 := Aside0.mk (H3.out.below hb2)
  have f3 := pw_cell_below hb2 d3
  have f4 := pw_cell_below hb2 d4
  have f5 := pw_cell_below hb2 d5
  clear g2 o2 hb2 d3 d4 d5
  go_wp2_with fail
  refine (HQ.out w4 H4.out).mono ?_
  rintro e w5 ⟨v3, rfl, g3, o3, hb3⟩
  obtain ⟨A3, c3, rfl⟩ := g3.slice
  rw [List.length_map] at g3 o3 ⊢
  have R5 := Aside0.mk (And.intro g3 (And.intro o3 hb3))
  have H5 := Aside0.mk (H4.out.below hb3)
  have HG : Aside0 (∀ w, Below w5.heap.size w5 w → GV 5 w (.slice A1 bl.length c1) (bl.map (Value.int .u8)) ∧ GV 5 w (.slice A2 bl.length c2) (bl.map (Value.int .u8)) ∧ GV 5 w (.slice A3 bl.length c3) (bl.map (Value.int .u8))) := ⟨fun w hb => by
    have k5 := below_next R5.out.2.2 hb
    have k4 := below_next R4.out.2.2 k5
    exact ⟨R3.out.1.upd (S := none_) (Upd.of_below k4) (fun _ _ h => h), R4.out.1.upd (S := none_) (Upd.of_below k5) (fun _ _ h => h), R5.out.1.upd (S := none_) (Upd.of_below hb) (fun _ _ h => h)⟩⟩
  clear g3 o3 hb3 HP HQ
  go_wp2_with fail
  have G5 := HG.out w5 (Below.refl _ _)
  refine (same8_calls G5.1 G5.2.2).mono ?_
  clear G5
  rintro e w6 ⟨rfl, hb6⟩
  have HB6 := Aside0.mk hb6
  clear hb6
  go_wp2_with fail
  refine (ArY.num.calls _ _).mono ?_
  rintro e w6' ⟨rfl, hw6⟩
  subst hw6
  go_wp2_with fail
  have G6 := HG.out w6' HB6.out
  refine (same8_calls G6.2.1 G6.2.2).mono ?_
  clear G6
  rintro e w7 ⟨rfl, hb7⟩
  have HB7 := Aside0.mk (below_next HB6.out hb7)
  clear hb7
  go_wp2_with fail
  refine (ArY.num.calls _ _).mono ?_
  rintro e w7' ⟨rfl, hw7⟩
  subst hw7
  have H7 := Aside0.mk (H5.out.below HB7.out)
  have G7 := Aside0.mk (HG.out w7' HB7.out)
  have HO1 : Aside0 (∀ b, (Value.slice A1 bl.length c1).ownBlock = some b → ¬ q.mine gW b ∧ W.heap.size ≤ b ∧ b < w3.heap.size) := ⟨fun b hb => ⟨(H2.out.fresh (R3.out.2.1 b hb)).1, (H2.out.fresh (R3.out.2.1 b hb)).2, R3.out.1.lt b hb⟩⟩
  by_cases hl : bl.length ≤ 5000
  · have hl' : (bl.length : Int) ≤ 5000 := by omega
    have HBK := Aside0.mk (BokC.bytes.calls H7.out.bk A1 bl.length c1 _ G7.out.1 (by rw [List.length_map]; omega) (fun b hb => by have h5 := (HO1.out b hb).1; exact ⟨Classical.byContradiction fun e => h5 (.inr (.inr (.inl e))), fun e => h5 (.inl e)⟩) (by have := H7.out.cnt; omega))
    go_wp2_with fail
    refine HBK.out.mono ?_
    clear HBK
    rintro e w8 ⟨rfl, ow', vB', vBo', eB', used', hB, hS⟩
    have H8 := Aside0.mk (H7.out.book (m := n + 1) hB hS (fun b hb => ⟨(HO1.out b hb).1, (HO1.out b hb).2.1⟩) (by have := H7.out.cnt; omega))
    have hne : ∀ b, w3.heap.size ≤ b → ¬ q.mine gW b → ¬ (b = gW ∨ q.ow b ≠ none ∨ vB_ (.slice A1 bl.length c1) b) := fun b h1 h2 h3 => by
      rcases h3 with h3 | h3 | h3
      · exact h2 (.inl h3)
      · exact h2 (.inr (.inr (.inl h3)))
      · have := (HO1.out b h3).2.2; omega
    have g2 := G7.out.2.1.upd hS.upd (fun b hb => hne b (R4.out.2.1 b hb) (H3.out.fresh (R4.out.2.1 b hb)).1)
    have g3 := G7.out.2.2.upd hS.upd (fun b hb => hne b (Nat.le_trans R4.out.2.2.size (R5.out.2.1 b hb)) (H4.out.fresh (R5.out.2.1 b hb)).1)
    have HS8 := Aside0.mk (same8_calls g2 g3)
    clear hB hS hne g2 g3
    go_wp2_with fail
    refine HS8.out.mono ?_
    clear HS8
    rintro e w9 ⟨rfl, hb9⟩
    have H9 := Aside0.mk (H8.out.below hb9)
    clear hb9
    go_wp2_with fail
    go_ret
    exact ⟨rfl, _, H9.out, HE.out.1, rfl⟩
  · have hl' : ¬ (bl.length : Int) ≤ 5000 := by omega
    have HLP : Aside0 (∃ P : List Value, P.length = 0 ∧ GV 5 w7' (.slice A1 bl.length c1) (P ++ (bl.map (Value.int .u8)).drop 0) ∧ Upd (fun b => (Value.slice A1 bl.length c1).ownBlock = some b) w7' w7') := ⟨[], rfl, by simpa using G7.out.1, Upd.refl _ _⟩
    go_upto_region 12 with fail
    go_loopw [14] (fun v wr' => ∃ i : Nat, i ≤ bl.length ∧ v = .int .i64 i ∧ Aside0 (∃ P : List Value, P.length = i ∧ GV 5 wr' (.slice A1 bl.length c1) (P ++ (bl.map (Value.int .u8)).drop i) ∧ Upd (fun b => (Value.slice A1 bl.length c1).ownBlock = some b) w7' wr')) (fun v _ => bl.length - (intOf v).toNat)
    case atStart => exact ⟨0, Nat.zero_le _, rfl, HLP⟩
    case round =>
      obtain ⟨i, hi, rfl, HL⟩ := hrel
      clear HLP
      rename World => wv
      by_cases hlt : i < bl.length
      · have hlt' : (i : Int) < bl.length := by omega
        have hi0 : (0 : Int) ≤ i := by omega
        obtain ⟨P, hP, hg, hu⟩ := HL.out
        obtain ⟨gA, hgA⟩ : ∃ gA, A1 = some ⟨gA, 0, none⟩ := by
          rcases hg with ⟨e, hnil⟩ | ⟨g', c', e, _⟩
          · simp only [Value.slice.injEq] at e; omega
          · simp only [Value.slice.injEq] at e; exact ⟨g', e.1⟩
        subst hgA
        obtain ⟨hGA, -⟩ := GenAt.of_gv hg
        obtain ⟨c, hc⟩ : ∃ c, bl[i]? = some c := ⟨_, List.getElem?_eq_getElem hlt⟩
        have hd : (bl.map (Value.int .u8)).drop i = .int .u8 c :: (bl.map (Value.int .u8)).drop (i + 1) := by
          have h5 : i < (bl.map (Value.int .u8)).length := by rw [List.length_map]; exact hlt
          rw [List.drop_eq_getElem_cons h5]
          congr 1
          rw [List.getElem_map]
          have h6 := (List.getElem?_eq_some_iff.1 hc).2
          rw [h6]
        have hkk := hGA.get i (.int .u8 c) (by rw [List.getElem?_append_right (by omega), hP, Nat.sub_self, hd]; rfl)
        have hfz := gen_frozen hGA i
        have HSET : Aside0 (∀ y, ∃ P' : List Value, P'.length = i + 1 ∧ GV 5 (wv.setCell ⟨gA, i, none⟩ y) (.slice (some ⟨gA, 0, none⟩) bl.length c1) (P' ++ (bl.map (Value.int .u8)).drop (i + 1)) ∧ Upd (fun b => (Value.slice (some ⟨gA, 0, none⟩) bl.length c1).ownBlock = some b) w7' (wv.setCell ⟨gA, i, none⟩ y)) := ⟨fun y => by
          have h5 := gen_set hGA i (by simp [hP]; omega) y
          rw [List.set_append_right _ _ (by omega), hP, Nat.sub_self, hd, List.set_cons_zero] at h5
          refine ⟨P ++ [y], by rw [List.length_append, hP]; rfl, .inr ⟨gA, c1, ?_, ?_⟩, hu.put (.inl rfl) _ _⟩
          · rw [List.length_append, List.length_append, hP, List.length_drop, List.length_map, List.length_singleton]
            congr 1
            omega
          · rw [List.append_assoc]; exact h5⟩
        clear hg hGA hu hc hd HL
        go_wp2_with fail
        exact ⟨⟨i + 1, by omega, by rw [Int.natCast_succ], ⟨HSET.out _⟩⟩, by simp only [intOf]; omega⟩
      · obtain rfl : i = bl.length := by omega
        clear hlt
        obtain ⟨P, hP, hg, hu⟩ := HL.out
        have H8 := Aside0.mk (H7.out.moveU hu (fun b hm hb => (HO1.out b hb).1 hm) (fun b hb => (HO1.out b hb).2.1))
        have g2 := G7.out.2.1.upd hu (fun b hb h5 => by have h6 := R4.out.2.1 b hb; have := (HO1.out b h5).2.2; omega)
        have g3 := G7.out.2.2.upd hu (fun b hb h5 => by have h6 := R5.out.2.1 b hb; have h7 := R4.out.2.2.size; have := (HO1.out b h5).2.2; omega)
        have HS8 := Aside0.mk (same8_calls g2 g3)
        clear g2 g3 hg hu hP
        go_wp2_with fail
        refine HS8.out.mono ?_
        clear HS8
        rintro e w9 ⟨rfl, hb9⟩
        have H9 := Aside0.mk (H8.out.below hb9)
        clear hb9
        go_wp2_with fail
        go_ret
        exact ⟨rfl, q, H9.out.more (by omega), HE.out.1, rfl⟩
end Go.Proofs.Ytgjcffjicbmkhaa.XrL6
end

section
namespace Go.Proofs.Ytgjcffjicbmkhaa.PF
open Go.RowKit Go.Proofs.YtgjcffjicbmkhaaW.PrintWords Go.Proofs.YtgjcffjicbmkhaaW.PrintLast Go.Proofs.YtgjcffjicbmkhaaW.PrintMore
attribute [local go_sem] max2_int min2_int max_two min_two max_three min_three max_four min_four   -- for this text's walks alone
set_option linter.unusedVariables false
set_option linter.unusedSimpArgs false
def larderlaw2_flipped.l0 : Nat → List Int → List Int → Int → Option (List Int)
  | 0, _, _, _ => none
  | k + 1, x0, x3, x4 => if x4 < (x0.length : Int) then (if 0 ≤ x4 then (if x4 < (x3.length : Int) then (larderlaw2_flipped.l0 k x0 (x3.set (x4 : Int).toNat (Go.bits .xor .u8 (rd x0 x4) 85)) (wrap64 (x4 + 1))) else (none)) else (none)) else (some x3)
def larderlaw2_flipped.f (k : Nat) (l0 : List Int) : Option (List Int) := if 0 ≤ (l0.length : Int) then (if ((l0.length : Int) : Int).toNat ≤ 281474976710656 then (larderlaw2_flipped.l0 k l0 (List.replicate ((l0.length : Int) : Int).toNat 0) 0) else (none)) else (none)
theorem larderlaw2_flipped.mono_l : ∀ k, (∀ y0 y1 y2, LeO (larderlaw2_flipped.l0 k y0 y1 y2) (larderlaw2_flipped.l0 (k + 1) y0 y1 y2))
  | 0 => fun _ _ _ r h => by simp [larderlaw2_flipped.l0] at h
  | k + 1 => by
    have ih0 := larderlaw2_flipped.mono_l k
    · intro y0 y1 y2
      unfold larderlaw2_flipped.l0
      repeat' first
      | (with_reducible exact ih0 _ _ _)
      | (with_reducible exact LeO.refl _)
      | (with_reducible exact LeO.none _)
      | (with_reducible refine LeO.ite ?_ ?_)
      | (with_reducible refine LeO.bind ?_ (fun _ => ?_))
      | exact ih0 _ _ _
      | exact LeO.none _
      | refine LeO.ite ?_ ?_
      | refine LeO.bind ?_ (fun _ => ?_)
theorem larderlaw2_flipped.mono : ∀ a0 k, LeO (larderlaw2_flipped.f k a0) (larderlaw2_flipped.f (k + 1) a0) := by
  intro a0 k
  have ih0 := larderlaw2_flipped.mono_l k
  unfold larderlaw2_flipped.f
  repeat' first
      | (with_reducible exact ih0 _ _ _)
      | (with_reducible exact LeO.refl _)
      | (with_reducible exact LeO.none _)
      | (with_reducible refine LeO.ite ?_ ?_)
      | (with_reducible refine LeO.bind ?_ (fun _ => ?_))
      | exact ih0 _ _ _
      | exact LeO.none _
      | refine LeO.ite ?_ ?_
      | refine LeO.bind ?_ (fun _ => ?_)
set_option maxHeartbeats 8000000 in
set_option maxRecDepth 100000 in
theorem larderlaw2_flipped.calls (k : Nat) (A0 : Option Addr) (c0 : Nat) (l0 : List Int) (r : List Int) (w : World) (hr0 : Kd.C (Kd.int .u8) w A0 l0.length l0) (hc0 : l0.length ≤ c0) (h : larderlaw2_flipped.f k l0 = some r) :
    Calls Try.prog 60 #[.slice A0 l0.length c0] w fun e w' => ∃ v0_ : Value, e = .returned (v0_) ∧ Kd.R (Kd.int .u8) 5 w' w.heap.size (fun _ => True) v0_ r ∧ Below w.heap.size w w' := by
  have HR0 := Aside0.mk hr0
  have HC0 := Aside0.mk hc0
  clear hr0 hc0
  have HB := Aside0.mk (Below.refl w.heap.size w)
  have H : (if 0 ≤ (l0.length : Int) then (if ((l0.length : Int) : Int).toNat ≤ 281474976710656 then (larderlaw2_flipped.l0 k l0 (List.replicate ((l0.length : Int) : Int).toNat 0) 0) else (none)) else (none)) = some r := h
  clear h
  by_cases c2 : 0 ≤ (l0.length : Int)
  · rw [if_pos c2] at H
    have c2b0 := eq_true c2
    have c2b1 : decide (0 ≤ (l0.length : Int)) = true := decide_eq_true c2
    clear c2
    by_cases c3 : ((l0.length : Int) : Int).toNat ≤ 281474976710656
    · rw [if_pos c3] at H
      have c3b0 := eq_true c3
      have c3b1 : decide (((l0.length : Int) : Int).toNat ≤ 281474976710656) = true := decide_eq_true c3
      clear c3
      obtain ⟨y116, hy116⟩ : ∃ y_ : List Int, y_ = (List.replicate ((l0.length : Int) : Int).toNat 0) := ⟨_, rfl⟩
      replace H : (larderlaw2_flipped.l0 k l0 y116 0) = some r := by first | (rw [hy116]; with_reducible exact H) | (have H2_ := (Option.bind_some _ _).symm.trans H; rw [hy116]; with_reducible exact H2_) | (have H2_ := (Option.bind_some _ _).symm.trans H; with_reducible exact H2_) | with_reducible exact H | (rw [hy116]; exact H) | exact H
      have Ny116 := Aside0.mk hy116
      clear hy116
      have H' := Aside0.mk H
      clear H
      go_enter Try.func60, Try.ntmps60
      go_wp2_with (first | ((with_reducible refine gate_dst (N := 7) rfl ?_); refine Kd.R_make (Kd.int .u8) _ 5 rfl (N := 7) rfl 67 _ _ rfl (l0.length : Int) rfl rfl Try.underlying67 (.int .u8 0) 1 info5 rfl (by decide) (by omega) 0 (ok := fun _ => True) (okp := fun _ => True) rfl (fun _ hk => hk) trivial (of_decide_eq_true (by first | (with_reducible assumption) | assumption)) (Nat.le_trans (Nat.mul_le_mul_right _ (of_decide_eq_true (by first | (with_reducible assumption) | assumption) : (l0.length : Int).toNat ≤ 281474976710656)) (by omega)) (Below.refl _ _) (Nat.le_refl _) ?_; intro v117 w4 ho5 hb hg_ hnew_; clear hg_ hnew_; (first | rw [← Ny116.out] at ho5 | (simp only [Int.reduceToNat] at ho5; rw [← Ny116.out] at ho5)); have n0_ := Aside0.mk (Kd.R_lower ho5 (below_size (by repeat (first | (with_reducible first | exact HB.out | apply below_alloc | apply pw_below_drewN | apply below_drew1) | exact HB.out)))); have n1_ := Aside0.mk (below_step (by repeat (first | (with_reducible first | exact HB.out | apply below_alloc | apply pw_below_drewN | apply below_drew1) | exact HB.out)) hb); clear HB; have HO118 := n0_; have HB := n1_; clear n0_ n1_; clear hb ho5))
      go_loopg [4] k (fun kq v4 w' => ∃ (x3_1 : List Int) (x4_1 : Int), v4 = .int .i64 x4_1 ∧ Aside0 (larderlaw2_flipped.l0 kq l0 x3_1 x4_1 = some r) ∧ Aside0 (kq ≤ k) ∧ Aside0 (Kd.R (Kd.int .u8) 5 w' w.heap.size (fun _ => True) v117 x3_1) ∧ Aside0 (Below w.heap.size w w'))
      case atStart => exact ⟨(y116), (0), (by first | rfl | (simp; done) | (simp [*]; done)), H', ⟨Nat.le_refl _⟩, ⟨by (with_reducible repeat (first | apply Kd.R_alloc | apply Kd.R_drewN | apply Kd.R_drew)); exact HO118.out⟩, ⟨by repeat (first | (with_reducible first | exact HB.out | apply below_alloc | apply pw_below_drewN | apply below_drew1) | exact HB.out)⟩⟩
      case round =>
        clear H'
        try clear c2
        try clear c2b0
        try clear c2b1
        try clear p2
        try clear c3
        try clear c3b0
        try clear c3b1
        obtain ⟨x3_1, x4_1, rfl, HA, HK1, HO_3, HB⟩ := hrel
        cases gk with
        | zero => exact absurd HA.out (by simp [larderlaw2_flipped.l0])
        | succ k1 =>
          have H := HA.out
          clear HA
          simp only [larderlaw2_flipped.l0] at H
          by_cases c6 : x4_1 < (l0.length : Int)
          · rw [if_pos c6] at H
            have c6b0 : decide (x4_1 < (l0.length : Int)) = true := decide_eq_true c6
            clear c6
            by_cases c7 : 0 ≤ x4_1
            · rw [if_pos c7] at H
              have c7b0 : decide (0 ≤ x4_1) = true := decide_eq_true c7
              clear c7
              by_cases c8 : x4_1 < (x3_1.length : Int)
              · rw [if_pos c8] at H
                have c8b0 : decide (x4_1 < (x3_1.length : Int)) = true := decide_eq_true c8
                clear c8
                obtain ⟨y120, hy120⟩ : ∃ y_ : List Int, y_ = (x3_1.set (x4_1 : Int).toNat (Go.bits .xor .u8 (rd l0 x4_1) 85)) := ⟨_, rfl⟩
                replace H : (larderlaw2_flipped.l0 k1 l0 y120 (wrap64 (x4_1 + 1))) = some r := by first | (rw [hy120]; with_reducible exact H) | (have H2_ := (Option.bind_some _ _).symm.trans H; rw [hy120]; with_reducible exact H2_) | (have H2_ := (Option.bind_some _ _).symm.trans H; with_reducible exact H2_) | with_reducible exact H | (rw [hy120]; exact H) | exact H
                have Ny120 := Aside0.mk hy120
                clear hy120
                have H' := Aside0.mk H
                clear H
                have p119 : 0 ≤ (x4_1 : Int) := of_decide_eq_true (by first | (with_reducible assumption) | assumption)
                have q119 : x4_1 < (l0.length : Int) := of_decide_eq_true (by first | (with_reducible assumption) | assumption)
                obtain ⟨ad119, e119, hx119_0⟩ := Kd.at_int HR0.out x4_1 p119 q119
                cases e119
                replace hx119_0 := (HB.out.cell (World.block_lt_of_cell? w _ hx119_0)).trans hx119_0
                replace p119 := eq_true p119
                replace q119 := eq_true q119
                have p9 : 0 ≤ (x4_1 : Int) := of_decide_eq_true (by first | (with_reducible assumption) | assumption)
                have q9 : (x4_1 : Int) < ((x3_1.length : Int) : Int) := of_decide_eq_true (by first | (with_reducible assumption) | assumption)
                obtain ⟨go9, co9, eo9, gb9, gl9, cl9, HG9⟩ := Kd.R_form HO_3.out (by omega)
                (first | cases eo9 | (injection eo9 with ea_ en_ ec_; (first | subst ea_ | (injection ea_ with ea_; subst ea_)); subst ec_; clear en_))
                have GB9 := Aside0.mk gb9
                have GG9 := Aside0.mk HG9
                clear gb9 gl9 HG9
                obtain ⟨hx9_0, hf9_0⟩ := Kd.R_celln 0 HO_3.out (x4_1 : Int) p9 q9
                replace p9 := eq_true p9
                replace q9 := eq_true q9
                have HP10 := Kd.R_putg HO_3.out (x4_1 : Int) (Go.bits .xor .u8 (rd l0 x4_1) 85)
                go_wp2_with (first | ((with_reducible refine gate_store (t := 5) (p := 21) rfl ?_); refine store_event (t := 5) (p := 21) (v := ?vo_w11) (w1 := (wr.setCell ⟨go9, (x4_1 : Int).toNat, none⟩ (.int .u8 (Go.bits .xor .u8 (rd l0 x4_1) 85)))) ?hg ?ho ?hn ?hr ?_; (case ho => rfl); (case hg => rfl); (case hn => rfl); (case hr => first | (go_simp; done) | (go_simp; rfl)); intro w11 hw; have hg : wr.grownBy w11 (some go9) := (by rw [hw]; exact HP10.2); have hp_ : Kd.R (Kd.int .u8) 5 w11 w.heap.size (fun _ => True) (.slice (some ⟨go9, 0, none⟩) x3_1.length co9) y120 := (by rw [hw, Ny120.out]; exact HP10.1); clear HP10; have n0_ := Aside0.mk (hp_); have n1_ := Aside0.mk ((by rw [hw]; exact below_set (HB.out) GB9.out : Below w.heap.size w w11)); clear HO_3; clear HB; have HO_3 := n0_; have HB := n1_; clear n0_ n1_; clear hg hw hp_))
                go_roundg k1
                case measure => have := HK1.out; omega
                case rel => exact ⟨(y120), (wrap64 (x4_1 + 1)), (by first | rfl | (simp; done) | (simp [*]; done)), H', ⟨by have := HK1.out; omega⟩, ⟨by (with_reducible repeat (first | apply Kd.R_alloc | apply Kd.R_drewN | apply Kd.R_drew)); exact HO_3.out⟩, ⟨by repeat (first | (with_reducible first | exact HB.out | apply below_alloc | apply pw_below_drewN | apply below_drew1) | exact HB.out)⟩⟩
              · rw [if_neg c8] at H
                exact absurd H (by simp)
            · rw [if_neg c7] at H
              exact absurd H (by simp)
          · rw [if_neg c6] at H
            have c6b0 : decide (x4_1 < (l0.length : Int)) = false := decide_eq_false c6
            clear c6
            obtain rfl := Option.some.inj H
            go_wp2
            go_ret
            exact ⟨_, by first | rfl | (simp [errW_none, errW_some] <;> rfl) | (simp [*, errW_none, errW_some] <;> rfl), by (with_reducible repeat (first | apply Kd.R_alloc | apply Kd.R_drewN | apply Kd.R_drew)); exact HO_3.out, by repeat (first | (with_reducible first | exact HB.out | apply below_alloc | apply pw_below_drewN | apply below_drew1) | exact HB.out)⟩
    · rw [if_neg c3] at H
      exact absurd H (by simp)
  · rw [if_neg c2] at H
    exact absurd H (by simp)
end Go.Proofs.Ytgjcffjicbmkhaa.PF
end

section
namespace Go.Proofs.Ytgjcffjicbmkhaa.FlipW
open Go Go.RowKit Go.Proofs.YtgjcffjicbmkhaaW.PrintWords Go.Proofs.YtgjcffjicbmkhaaW.PrintLast Go.Proofs.YtgjcffjicbmkhaaW.PrintMore Go.Proofs.Ytgjcffjicbmkhaa.RowU Go.Proofs.Ytgjcffjicbmkhaa.ArM Go.Proofs.Ytgjcffjicbmkhaa.GenM Go.Proofs.Ytgjcffjicbmkhaa.PF Go.Proofs.Ytgjcffjicbmkhaa.MemO Go.Proofs.Ytgjcffjicbmkhaa.FreM Go.Proofs.Ytgjcffjicbmkhaa.XrG
set_option linter.unusedVariables false
set_option maxRecDepth 100000
def inB (l : List Int) : Prop := ∀ c ∈ l, 0 ≤ c ∧ c < 256
theorem wf8 {x : Int} (h : (Lit.int .u8 x).wf = true) : 0 ≤ x ∧ x < 256 := by
  simp [Lit.wf, IntKind.min, IntKind.max, IntKind.signed, IntKind.bits] at h; omega
theorem flip_ev (l : List Int) (hn : l.length ≤ 140737488355328) (d : Nat) : ∀ (i : Nat) (x3 : List Int), i + d = l.length → x3.length = l.length → inB x3 → ∃ r, Ev (fun k => larderlaw2_flipped.l0 k l x3 i) r ∧ r.length = l.length ∧ inB r := by
  induction d with
  | zero =>
    intro i x3 hi hl hb
    exact ⟨x3, Ev.step (f := fun _ => some x3) (fun k => by simp only [larderlaw2_flipped.l0]; rw [if_neg (by omega)]) (Ev.now _), hl, hb⟩
  | succ d ih =>
    intro i x3 hi hl hb
    obtain ⟨r, h1, h2, h3⟩ := ih (i + 1) (x3.set i (Go.bits .xor .u8 (rd l i) 85)) (by omega) (by rw [List.length_set]; exact hl) (fun c hc => by
      rcases List.mem_or_eq_of_mem_set hc with h | h
      · exact hb c h
      · subst h; exact wf8 (wf_bits _ _ _ _))
    have hw : wrap64 ((i : Int) + 1) = ((i + 1 : Nat) : Int) := by unfold wrap64; omega
    refine ⟨r, Ev.step (f := fun k => larderlaw2_flipped.l0 k l (x3.set i (Go.bits .xor .u8 (rd l i) 85)) ((i + 1 : Nat) : Int)) (fun k => ?_) h1, h2, h3⟩
    simp only [larderlaw2_flipped.l0]
    rw [if_pos (by omega), if_pos (by omega), if_pos (by omega), hw, Int.toNat_natCast]
theorem flip_ex (l : List Int) (hn : l.length ≤ 140737488351232) : ∃ r, Ev (fun k => larderlaw2_flipped.f k l) r ∧ r.length = l.length ∧ inB r := by
  obtain ⟨r, h1, h2, h3⟩ := flip_ev l (by omega) l.length 0 (List.replicate l.length 0) (by omega) (by simp) (fun c hc => by rw [List.mem_replicate] at hc; omega)
  refine ⟨r, Ev.congr (fun k => ?_) h1, h2, h3⟩
  unfold larderlaw2_flipped.f
  rw [if_pos (by omega), if_pos (by omega), Int.toNat_natCast]
  rfl
theorem nat_of (l : List Int) (h : inB l) : ∃ fl : List Nat, l = fl.map Int.ofNat ∧ ∀ c ∈ fl, c < 256 := by
  refine ⟨l.map Int.toNat, ?_, fun c hc => ?_⟩
  · rw [List.map_map]
    conv => lhs; rw [← List.map_id l]
    apply List.map_congr_left
    intro c hc
    have := h c hc
    show c = Int.ofNat c.toNat
    show c = (c.toNat : Int)
    omega
  · obtain ⟨x, hx, rfl⟩ := List.mem_map.1 hc
    have := h x hx
    omega
def Rd8 (w : World) (Ad : Option Addr) (bs : List Nat) : Prop := ∀ (i c : Nat), bs[i]? = some c → ∃ ad, Ad = some ad ∧ w.cell? (ad.add i) = some (.int .u8 (c : Int))
theorem Rd8.C {w : World} {Ad : Option Addr} {bs : List Nat} (h : Rd8 w Ad bs) (hn : bs.length ≤ 9000000000000000) : (Kd.int .u8).C w Ad (bs.map Int.ofNat).length (bs.map Int.ofNat) := by
  refine ⟨rfl, by rw [List.length_map]; omega, fun h0 => ?_⟩
  rw [List.length_map] at h0
  obtain ⟨ad, e, _⟩ := h 0 bs[0] (List.getElem?_eq_getElem h0)
  refine ⟨ad, e, fun j p hp => ⟨[.int .u8 p], rfl, rfl, fun i u hu => ?_⟩⟩
  cases i with
  | zero =>
    simp at hu
    subst hu
    rw [List.getElem?_map] at hp
    obtain ⟨y, hy, rfl⟩ := Option.map_eq_some_iff.1 hp
    obtain ⟨ad', e', hc⟩ := h j y hy
    rw [e] at e'
    obtain rfl := Option.some.inj e'
    show w.cell? (ad.add (j * 1 + 0)) = _
    rw [Nat.mul_one, Nat.add_zero]
    exact hc
  | succ i => simp at hu
theorem ints_b8 (fl : List Nat) : (fl.map Int.ofNat).map (Value.int .u8) = b8 fl := by unfold b8; rw [List.map_map]; rfl
def FlA (wq w' : World) (fl : List Nat) (nb : Nat) (e : Ending) : Prop := ∃ A c, e = .returned (.slice A nb c) ∧ GV 5 w' (.slice A nb c) (b8 fl) ∧ (∀ b, (Value.slice A nb c).ownBlock = some b → wq.heap.size ≤ b) ∧ Below wq.heap.size wq w'
theorem flip_calls (bs : List Nat) (hn : bs.length ≤ 140737488351232) (Ad : Option Addr) (cd : Nat) (hc : bs.length ≤ cd) : ∃ fl : List Nat, fl.length = bs.length ∧ (∀ c ∈ fl, c < 256) ∧ ∀ w, Rd8 w Ad bs → Calls Try.prog 60 #[.slice Ad bs.length cd] w fun e w' => FlA w w' fl bs.length e := by
  obtain ⟨r, h1, h2, h3⟩ := flip_ex (bs.map Int.ofNat) (by rw [List.length_map]; exact hn)
  obtain ⟨k, hk⟩ := Ev.rounds h1
  obtain ⟨fl, hfl, hf⟩ := nat_of r h3
  have hll : fl.length = bs.length := by rw [hfl, List.length_map, List.length_map] at h2; exact h2
  refine ⟨fl, hll, hf, fun w hw => ?_⟩
  have h5 := larderlaw2_flipped.calls k Ad cd (bs.map Int.ofNat) r w (hw.C (by omega)) (by rw [List.length_map]; exact hc) hk
  rw [List.length_map] at h5
  refine h5.mono ?_
  rintro e w' ⟨v, rfl, hR, hb⟩
  obtain ⟨g1, g2⟩ := gv_of_R hR
  rw [hfl, ints_b8] at g1
  obtain ⟨A, c, rfl⟩ := g1.slice
  have e : (b8 fl).length = bs.length := by unfold b8; rw [List.length_map, hll]
  rw [e] at g1 g2 ⊢
  exact ⟨A, c, rfl, g1, g2, hb⟩
theorem rd8_gv {w : World} {A : Option Addr} {nb c : Nat} {fl : List Nat} (h : GV 5 w (.slice A nb c) (b8 fl)) : Rd8 w A fl := by
  intro i x hx
  have h5 : (b8 fl)[i]? = some (.int .u8 (x : Int)) := by unfold b8; rw [List.getElem?_map, hx]; rfl
  obtain ⟨g, cap, e, hc⟩ := h.get i _ h5
  simp only [Value.slice.injEq] at e
  exact ⟨⟨g, 0, none⟩, e.1, by rw [Addr.add_lit, Nat.zero_add]; exact hc⟩
end Go.Proofs.Ytgjcffjicbmkhaa.FlipW
end

section
namespace Go.Proofs.Ytgjcffjicbmkhaa.XrS
open Go Go.RowKit Go.Proofs.YtgjcffjicbmkhaaW.PrintWords Go.Proofs.Ytgjcffjicbmkhaa.RowU Go.Proofs.Ytgjcffjicbmkhaa.ArS Go.Proofs.Ytgjcffjicbmkhaa.ArM Go.Proofs.Ytgjcffjicbmkhaa.GenM Go.Proofs.Ytgjcffjicbmkhaa.BokA Go.Proofs.Ytgjcffjicbmkhaa.ArP Go.Proofs.Ytgjcffjicbmkhaa.ArQ Go.Proofs.Ytgjcffjicbmkhaa.RfM Go.Proofs.Ytgjcffjicbmkhaa.RfV Go.Proofs.Ytgjcffjicbmkhaa.XrM Go.Proofs.Ytgjcffjicbmkhaa.XrN Go.Proofs.Ytgjcffjicbmkhaa.XrP Go.Proofs.Ytgjcffjicbmkhaa.XrG Go.Proofs.Ytgjcffjicbmkhaa.FlipW
set_option linter.unusedVariables false
set_option maxRecDepth 100000
variable {W wr w' : World} {gW : Nat} {q : XQ} {n : Nat}
theorem _root_.Go.Proofs.Ytgjcffjicbmkhaa.XrP.Keep.then2 {w'' : World} (h : Keep q gW wr w') (hk : Keep q gW w' w'') : Keep q gW wr w'' := Upd.trans h (hk.mono (fun b hb => hb.imp id (fun h1 => Nat.le_trans h.size h1)))
theorem rd8_at (h : XC W wr gW q n) {Ad : Option Addr} {bs : List Nat} (hr : Rd8 W Ad bs) : ∀ (i c : Nat), bs[i]? = some c → ∃ ad, Ad = some ad ∧ wr.cell? (ad.add i) = some (.int .u8 (c : Int)) ∧ ¬ q.mine gW (ad.add i).block := fun i c hc => by
  obtain ⟨ad, e, h1⟩ := hr i c hc
  have hlt := World.block_lt_of_cell? _ _ h1
  exact ⟨ad, e, (h.bel.cell hlt).trans h1, fun hm => by have := (h.old _ hm).1; omega⟩
theorem rd8_new (h : XC W wr gW q n) (hb : Below wr.heap.size wr w') {A : Option Addr} {nb c : Nat} {fl : List Nat} (hg : GV 5 w' (.slice A nb c) (b8 fl)) (ho : ∀ b, (Value.slice A nb c).ownBlock = some b → wr.heap.size ≤ b) : ∀ (i x : Nat), fl[i]? = some x → ∃ ad, A = some ad ∧ w'.cell? (ad.add i) = some (.int .u8 (x : Int)) ∧ ¬ q.mine gW (ad.add i).block := fun i x hx => by
  have h5 : (b8 fl)[i]? = some (.int .u8 (x : Int)) := by unfold b8; rw [List.getElem?_map, hx]; rfl
  obtain ⟨g, cap, e, hc⟩ := hg.get i _ h5
  simp only [Value.slice.injEq] at e
  refine ⟨⟨g, 0, none⟩, e.1, by rw [Addr.add_lit, Nat.zero_add]; exact hc, ?_⟩
  rw [Addr.add_lit]
  exact (h.fresh (ho g (by rw [e.1]; rfl))).1
theorem sb_second (h : XC W wr gW q n) (he : XE q) {k : Nat} (hk : k < 3) (ho : q.on k = true) {x y : Int} (hy : -9223372036854775808 ≤ y ∧ y < 9223372036854775808) {bs : List Nat} (hbs : ∀ c ∈ bs, c < 256) (hn : bs.length ≤ 9000000000000000) {w1 : World} {e1 : Ending} (hG : GvR W wr w1 gW q n k x y bs e1) :
    ∃ q1, XC W w1 gW q1 n ∧ q1.on = q.on ∧ q1.rg = q.rg ∧ (∀ i, i < 3 → q.on i = true → (q1.d i).g = (q.d i).g) ∧ ∀ w2, Below w1.heap.size w1 w2 → ∀ (Ad : Option Addr) (cd : Nat), Rd8 w2 Ad bs → Calls Try.prog 61 #[.pointer (some ⟨q.rg k, 0, none⟩), .int .i64 x, .int .i64 y, .slice Ad bs.length cd] w2 fun e w3 =>
      e = .returned (.int .i64 (ArP.stbR (q.d k).l x y bs).1) ∧ ∃ q2, XC W w3 gW q2 n ∧ XE q2 ∧ q2.on = q.on ∧ q2.rg = q.rg ∧ (∀ i, i < 3 → q.on i = true → (q2.d i).g = (q.d i).g) ∧ Keep q gW wr w3 ∧ ∀ b, q2.mine gW b → q.mine gW b ∨ wr.heap.size ≤ b := by
  obtain ⟨_, hkp, q1, h1, f1, f2, f3, f5, f4⟩ := hG
  have heo := he k hk ho
  refine ⟨q1, h1, f1, f2, fun i hi hoi => (f4 i hi hoi).2.1, fun w2 hb2 Ad cd hr => ?_⟩
  have h2 := h1.below hb2
  have hr2 := h2.rf k hk (by rw [f1]; exact ho)
  rw [f2, f3, (f4 k hk ho).1] at hr2
  refine (RfV.setBytes.calls hr2 (fun b hb => h2.lo_lt b hb) x y hy bs hbs Ad cd hr hn).mono ?_
  rintro e w3 ⟨rfl, es', heq, hR, hu⟩
  refine ⟨by rw [heo], putR q1 k q1.lo (q1.rv k) es', ?_, fun j hj hoj => ?_, f1, f2, fun i hi hoi => (f4 i hi hoi).2.1, (hkp.then (S := none_) (Upd.of_below hb2) (fun _ h => h.elim)).then hu (fun b ⟨t, ht⟩ => f5 b (.inr (.inl (by rw [ht]; simp)))), f5⟩
  · refine h2.r1 hk (by rw [f1]; exact ho) (by rw [f2, (f4 k hk ho).1]; exact hR) (fun _ _ h => h) (fun b hb => .inl hb) (fun b hb => Nat.lt_of_lt_of_le (h2.lo_lt b hb) hu.size) hu
  · show obs (if j = k then es' else q1.re j) = (q1.d j).l
    have hoj' : q.on j = true := by rw [← f1]; exact hoj
    rw [(f4 j hj hoj').2.2]
    by_cases c : j = k
    · subst c
      rw [if_pos rfl, if_pos rfl, heq, heo]
    · rw [if_neg c, if_neg c, f3]
      exact he j hj hoj'
end Go.Proofs.Ytgjcffjicbmkhaa.XrS
end

section
namespace Go.Proofs.Ytgjcffjicbmkhaa.XrL7
open Go Go.RowKit Go.Proofs.YtgjcffjicbmkhaaW.PrintWords Go.Proofs.YtgjcffjicbmkhaaW.PrintLast Go.Proofs.YtgjcffjicbmkhaaW.PrintMore Go.Proofs.Ytgjcffjicbmkhaa.RowU Go.Proofs.Ytgjcffjicbmkhaa.ArS Go.Proofs.Ytgjcffjicbmkhaa.ArM Go.Proofs.Ytgjcffjicbmkhaa.GenM Go.Proofs.Ytgjcffjicbmkhaa.GenN Go.Proofs.Ytgjcffjicbmkhaa.BokA Go.Proofs.Ytgjcffjicbmkhaa.BokB Go.Proofs.Ytgjcffjicbmkhaa.ArP Go.Proofs.Ytgjcffjicbmkhaa.ArQ Go.Proofs.Ytgjcffjicbmkhaa.RfM Go.Proofs.Ytgjcffjicbmkhaa.XrM Go.Proofs.Ytgjcffjicbmkhaa.XrN Go.Proofs.Ytgjcffjicbmkhaa.XrP Go.Proofs.Ytgjcffjicbmkhaa.XrW Go.Proofs.Ytgjcffjicbmkhaa.XrB Go.Proofs.Ytgjcffjicbmkhaa.BegW
set_option linter.unusedVariables false
set_option maxRecDepth 100000
variable {W wr w' : World} {gW : Nat} {q : XQ} {n : Nat}
set_option maxHeartbeats 16000000 in
theorem lists.calls (h : XC W wr gW q n) (hn9 : n ≤ 1000000) (he : XE q) (Bk Sr x y z : Int) (V : Nat) (Ad : Option Addr) (nb cd : Nat) (hon : q.on (mod3 Bk) = true) (hy : -9223372036854775808 ≤ y ∧ y < 9223372036854775808) (bs : List Nat) (hbs : ∀ c ∈ bs, c < 256) (hlb : bs.length ≤ 140737488351232) (hnb : nb = bs.length) (hcd : nb ≤ cd) (hrd : FlipW.Rd8 W Ad bs) :
    Calls Try.prog 48 #[.pointer (some ⟨gW, 0, none⟩), .agg #[.int .i64 7, .int .i64 Bk, .int .i64 Sr, .int .i64 x, .int .i64 y, .int .i64 z, .int .u64 (V : Int), .slice Ad nb cd]] wr fun e w' => StR W w' gW q (n + 1) e := by
  have H := Aside0.mk h
  obtain ⟨m, hm⟩ : ∃ m, m = mod3 Bk := ⟨_, rfl⟩
  have hm3 : m < 3 := by rw [hm]; exact mod3_lt Bk
  have HE := Aside0.mk (And.intro he hon)
  have HT : Aside0 (∀ w, Calls Try.prog 30 #[.int .i64 Bk] w fun e w' => e = .returned (.int .i64 (m : Int)) ∧ Drawn0 w w') := ⟨fun w => by rw [hm]; exact three_q Bk w⟩
  rw [← hm] at HE
  clear h he hon hm
  obtain ⟨fl, hfl1, hfl2, hfl3⟩ := FlipW.flip_calls bs hlb Ad cd (by rw [← hnb]; exact hcd)
  have HD := Aside0.mk (And.intro hbs (And.intro hlb (And.intro hnb (And.intro hrd (And.intro hfl1 (And.intro hfl2 hy))))))
  have HFL := Aside0.mk hfl3
  rw [← hnb] at HFL
  clear hy hbs hlb hnb hcd hrd hfl1 hfl2 hfl3
  go_enter Try.func48, Try.ntmps48
  go_upto_region 1 with ((with_reducible refine gate_dst (N := 3) rfl ?_); refine box_event ?hg (N := 3) ?hd (cs := #[.int .i64 7, .int .i64 Bk, .int .i64 Sr, .int .i64 x, .int .i64 y, .int .i64 z, .int .u64 (V : Int), .slice Ad nb cd]) (t := 80) ?hr ?_; (case hd => rfl); (case hg => rfl); (case hr => first | (go_simp; done) | (go_simp; rfl)); intro ga hga w1 hbox hb; have BA := Aside0.mk hbox; have HB := Aside0.mk hb; have GA := Aside0.mk hga; clear hbox hb hga)
  have H1 := Aside0.mk (H.out.below HB.out)
  have b1 : w1.cell? ⟨ga, 1, none⟩ = some (.int .i64 Bk) := (blk_cell BA.out 1).trans rfl
  have hpc : w1.cell? ⟨gW, m, none⟩ = some (.pointer (some ⟨(q.d m).g, 0, none⟩)) := by rw [H1.out.pc m hm3]; unfold pC; rw [if_pos HE.out.2]
  have hqc : w1.cell? ⟨gW, 3 + m, none⟩ = some (.pointer (some ⟨q.rg m, 0, none⟩)) := by rw [H1.out.qc m hm3]; unfold qC; rw [if_pos HE.out.2]
  have hmi : (m : Int) < 3 := by omega
  have hm0 : (0 : Int) ≤ m := by omega
  go_quiet (first | (go_at_call 30; (with_reducible refine (HT.out _).mono ?_); rintro e w' ⟨rfl, ⟨nd, rfl⟩⟩; (try first | exact ⟨rfl, _, World.drewN_drewN _ _ _⟩ | exact ⟨rfl, _, Eq.trans (World.drewN_drewN _ _ _) (congrArg (World.drewN _) (Nat.add_assoc _ _ _))⟩)))
  have hbd := pw_below_drewN (Below.refl w1.heap.size w1) nq
  have H2 := Aside0.mk (H1.out.below hbd)
  have BA2 := Aside0.mk (blk_below BA.out hbd)
  have HB2 := Aside0.mk (below_next HB.out hbd)
  have HNM : Aside0 (¬ (q.mine gW ga ∨ (w1.drewN nq).heap.size ≤ ga)) := ⟨by
    rintro (h1 | h1)
    · exact (H.out.fresh (b := ga) (by rw [GA.out]; exact Nat.le_refl _)).1 h1
    · have := cell_lt BA2.out; omega⟩
  clear hbd b1 hpc hqc H1 BA HB
  generalize w1.drewN nq = w2 at *
  have b0 : w2.cell? ⟨ga, 0, none⟩ = some (.int .i64 7) := (blk_cell BA2.out 0).trans rfl
  have HBX : Aside0 (∀ w, Keep q gW w2 w → w.cell? ⟨ga, 3, none⟩ = some (.int .i64 x) ∧ w.cell? ⟨ga, 4, none⟩ = some (.int .i64 y) ∧ w.cell? ⟨ga, 7, none⟩ = some (.slice Ad nb cd)) := ⟨fun w hk => by
    have h5 := blk_upd BA2.out hk HNM.out
    exact ⟨(blk_cell h5 3).trans rfl, (blk_cell h5 4).trans rfl, (blk_cell h5 7).trans rfl⟩⟩
  have HK0 := Aside0.mk (HBX.out w2 (Keep.below (Below.refl _ _)))
  have HRD : Aside0 (∀ wq, Below W.heap.size W wq → FlipW.Rd8 wq Ad bs) := ⟨fun wq hb i c hc => by
    obtain ⟨ad, e, h1⟩ := HD.out.2.2.2.1 i c hc
    exact ⟨ad, e, (hb.cell (World.block_lt_of_cell? _ _ h1)).trans h1⟩⟩
  have hnbf : fl.length = nb := by rw [HD.out.2.2.2.2.1]; exact HD.out.2.2.1.symm
  have HGC : Aside0 (∀ wq q0 w3 Af cf, XC W wq gW q0 n → q0.on = q.on → (∀ i, i < 3 → q.on i = true → (q0.d i).g = (q.d i).g) → Below wq.heap.size wq w3 → GV 5 w3 (.slice Af nb cf) (XrG.b8 fl) → (∀ b, (Value.slice Af nb cf).ownBlock = some b → wq.heap.size ≤ b) →
      Calls Try.prog 59 #[.pointer (some ⟨gW, 0, none⟩), .pointer (some ⟨(q.d m).g, 0, none⟩), .int .i64 x, .int .i64 y, .slice Af nb cf] w3 (fun e w' => XrG.GvR W w3 w' gW q0 n m x y fl e)) := ⟨fun wq q0 w3 Af cf h0 e1 e2 hb hg ho => by
    have h5 := XrG.given.calls (h0.below hb) hm3 (by rw [e1]; exact HE.out.2) x y fl HD.out.2.2.2.2.2.1 Af cf (XrS.rd8_new h0 hb hg ho) (by rw [HD.out.2.2.2.2.1]; exact HD.out.2.1)
    rw [hnbf, e2 m hm3 HE.out.2] at h5
    exact h5⟩
  have HGD : Aside0 (∀ wq q0, XC W wq gW q0 n → q0.on = q.on → (∀ i, i < 3 → q.on i = true → (q0.d i).g = (q.d i).g) →
      Calls Try.prog 59 #[.pointer (some ⟨gW, 0, none⟩), .pointer (some ⟨(q.d m).g, 0, none⟩), .int .i64 x, .int .i64 y, .slice Ad nb cd] wq (fun e w' => XrG.GvR W wq w' gW q0 n m x y bs e)) := ⟨fun wq q0 h0 e1 e2 => by
    have h5 := XrG.given.calls h0 hm3 (by rw [e1]; exact HE.out.2) x y bs HD.out.1 Ad cd (XrS.rd8_at h0 HD.out.2.2.2.1) HD.out.2.1
    rw [← HD.out.2.2.1, e2 m hm3 HE.out.2] at h5
    exact h5⟩
  have HN1 := Aside0.mk hnbf
  clear BA2 hnbf
  go_upto_region 17 with fail
  go_region_held3 (fun w' => w'.cell? ⟨ga, 3, none⟩ = some (.int .i64 x) ∧ w'.cell? ⟨ga, 4, none⟩ = some (.int .i64 y) ∧ w'.cell? ⟨ga, 7, none⟩ = some (.slice Ad nb cd)) (first | exact HK2.out | exact HK1.out | exact HK0.out) (first
    | (go_at_call 60; go_must (refine (HFL.out _ (HRD.out _ H2.out.bel.drew)).mono ?_); rintro e w3 ⟨Af, cf, rfl, gf, of_, hb⟩; have R3 := Aside0.mk (And.intro gf of_); have HB3 := Aside0.mk (below_next (Below.refl w2.heap.size w2).drew hb); have HK1 := Aside0.mk (HBX.out w3 (Keep.below HB3.out)); clear gf of_ hb)
    | (go_at_call 59; go_must (refine (HGC.out w2 q w3 Af cf H2.out rfl (fun _ _ _ => rfl) HB3.out R3.out.1 R3.out.2).mono ?_); rintro e w4 hgv; have HGV := Aside0.mk hgv; obtain ⟨rfl, hkp, -⟩ := hgv; have HK4 := Aside0.mk (Keep.then2 (Keep.below (q := q) (gW := gW) HB3.out) hkp); have HK2 := Aside0.mk (HBX.out w4 HK4.out); clear hkp))
  obtain ⟨q1, h1, f1, f2, f3, hsb⟩ := XrS.sb_second (H2.out.below HB3.out) HE.out.1 hm3 HE.out.2 HD.out.2.2.2.2.2.2 HD.out.2.2.2.2.2.1 (by rw [HD.out.2.2.2.2.1]; have := HD.out.2.1; omega) HGV.out
  simp only [HN1.out] at hsb
  obtain ⟨er1, her1⟩ : ∃ er1, er1 = (ArP.stbR (q.d m).l x y fl).1 := ⟨_, rfl⟩
  rw [← her1] at hsb
  rw [← her1]
  have HX1 := Aside0.mk (And.intro h1 (And.intro f1 (And.intro f2 f3)))
  have HSB := Aside0.mk hsb
  clear h1 f1 f2 f3 hsb her1 HK0 HK1
  go_upto_region 18 with fail
  go_region_held3 (fun w' => w'.cell? ⟨ga, 3, none⟩ = some (.int .i64 x) ∧ w'.cell? ⟨ga, 4, none⟩ = some (.int .i64 y) ∧ w'.cell? ⟨ga, 7, none⟩ = some (.slice Ad nb cd)) (first | exact HK6.out | exact HK5.out | exact HK2.out) (first
    | (go_at_call 60; go_must (refine (HFL.out _ (HRD.out _ HX1.out.1.bel.drew)).mono ?_); rintro e w5 ⟨Ag, cg, rfl, gg, og, hb⟩; have R5 := Aside0.mk (And.intro gg og); have HB5 := Aside0.mk (below_next (Below.refl w4.heap.size w4).drew hb); have HK5 := Aside0.mk (HBX.out w5 (Keep.then2 HK4.out (Keep.below HB5.out))); clear gg og hb)
    | (go_at_call 61; go_must (refine (HSB.out w5 HB5.out Ag cg (FlipW.rd8_gv R5.out.1)).mono ?_); rintro e w6 ⟨rfl, q2, h2, he2, g1, g2, g3, hk6, hm6⟩; have HX2 := Aside0.mk (And.intro h2 (And.intro he2 (And.intro g1 (And.intro g2 (And.intro g3 hm6))))); have HK7 := Aside0.mk (Keep.then2 (Keep.below (q := q) (gW := gW) HB3.out) hk6); have HK6 := Aside0.mk (HBX.out w6 HK7.out); clear h2 he2 g1 g2 g3 hk6 hm6))
  have HRB : Aside0 (mod3 Bk < 3 ∨ True) := ⟨.inr trivial⟩
  obtain ⟨d3, d4, d7⟩ := HK6.out
  clear HK2 HK5 HSB HX1 HGV HK4 HK6
  go_wp2_with fail
  refine (HGD.out w6 q2 HX2.out.1 HX2.out.2.2.1 HX2.out.2.2.2.2.1).mono ?_
  rintro e w7 hgv2
  have HGV2 := Aside0.mk hgv2
  obtain ⟨rfl, hkp2, -⟩ := hgv2
  have HK8 : Aside0 (Keep q gW w2 w7) := ⟨Upd.trans HK7.out (hkp2.mono (fun b hb => by
    rcases hb with h | h
    · exact (HX2.out.2.2.2.2.2 b h).imp id (fun h1 => Nat.le_trans HB3.out.size h1)
    · exact .inr (Nat.le_trans HK7.out.size h)))⟩
  obtain ⟨q3, h3, f1, f2, f3, hsb⟩ := XrS.sb_second HX2.out.1 HX2.out.2.1 hm3 (by rw [HX2.out.2.2.1]; exact HE.out.2) HD.out.2.2.2.2.2.2 HD.out.1 (by have := HD.out.2.1; omega) HGV2.out
  simp only [← HD.out.2.2.1] at hsb
  rw [HX2.out.2.2.2.1] at hsb
  obtain ⟨er2, her2⟩ : ∃ er2, er2 = (ArP.stbR (q2.d m).l x y bs).1 := ⟨_, rfl⟩
  rw [← her2] at hsb
  rw [← her2]
  have HSB2 := Aside0.mk (hsb w7 (Below.refl _ _) Ad cd (HRD.out _ h3.bel))
  obtain ⟨d3, d4, d7⟩ := HBX.out w7 HK8.out
  clear hkp2 h3 f1 f2 f3 hsb her2
  go_wp2_with fail
  refine HSB2.out.mono ?_
  clear HSB2
  rintro e w8 ⟨rfl, q4, h4, he4, g1, g2, g3, -, -⟩
  have HX4 := Aside0.mk (And.intro h4 (And.intro he4 g1))
  clear h4 he4 g1 g2 g3
  go_wp2_with fail
  refine (ArY.num.calls _ _).mono ?_
  rintro e w9 ⟨rfl, rfl⟩
  go_wp2_with fail
  refine (ArY.num.calls _ _).mono ?_
  rintro e w10 ⟨rfl, rfl⟩
  go_wp2_with fail
  go_ret
  exact ⟨by first | rfl | simp, q4, HX4.out.1.more (by omega), HX4.out.2.1, by rw [HX4.out.2.2, HX2.out.2.2.1]⟩
end Go.Proofs.Ytgjcffjicbmkhaa.XrL7
end

section
namespace Go.Proofs.Ytgjcffjicbmkhaa.XrT
open Go Go.RowKit Go.Proofs.YtgjcffjicbmkhaaW.PrintWords Go.Proofs.Ytgjcffjicbmkhaa.RowU Go.Proofs.Ytgjcffjicbmkhaa.ArS Go.Proofs.Ytgjcffjicbmkhaa.ArM Go.Proofs.Ytgjcffjicbmkhaa.ArT Go.Proofs.Ytgjcffjicbmkhaa.GenM Go.Proofs.Ytgjcffjicbmkhaa.BokA Go.Proofs.Ytgjcffjicbmkhaa.ArP Go.Proofs.Ytgjcffjicbmkhaa.ArQ Go.Proofs.Ytgjcffjicbmkhaa.RfM Go.Proofs.Ytgjcffjicbmkhaa.RfT Go.Proofs.Ytgjcffjicbmkhaa.XrM Go.Proofs.Ytgjcffjicbmkhaa.XrN Go.Proofs.Ytgjcffjicbmkhaa.XrP
set_option linter.unusedVariables false
set_option maxRecDepth 100000
variable {W wr w' : World} {gW : Nat} {q : XQ} {n : Nat}
theorem _root_.Go.Proofs.Ytgjcffjicbmkhaa.XrP.Keep.below2 {w0 w1 w2 : World} (hb : Below w0.heap.size w0 w1) (h : Keep q gW w1 w2) : Keep q gW w0 w2 := Upd.trans (Upd.of_below hb) (h.mono (fun b hb2 => hb2.imp id (fun h1 => Nat.le_trans hb.size h1)))
def takD (d : Nat → ArD) (i j : Nat) (gw gf : Nat) (la ls : List Ob) : Nat → ArD :=
  if i = j then putD d i ⟨(d i).g, gw, gf, (d i).sz, la⟩ else putD (putD d i ⟨(d i).g, gw, gf, (d i).sz, la⟩) j ⟨(d j).g, (d j).gw, (d j).gf, (d j).sz, ls⟩
theorem takD_g (d : Nat → ArD) (i j gw gf : Nat) (la ls : List Ob) (k : Nat) : (takD d i j gw gf la ls k).g = (d k).g ∧ (takD d i j gw gf la ls k).sz = (d k).sz := by
  unfold takD putD
  by_cases c : i = j
  · rw [if_pos c]
    by_cases c2 : k = i
    · subst c2; simp
    · simp [c2]
  · rw [if_neg c]
    by_cases c2 : k = j
    · subst c2; simp
    · by_cases c3 : k = i
      · subst c3; simp [c2]
      · simp [c2, c3]
theorem takD_l (d : Nat → ArD) (i j gw gf : Nat) (la ls : List Ob) (h : i = j → la = ls) (k : Nat) : (takD d i j gw gf la ls k).l = if k = j then ls else if k = i then la else (d k).l := by
  unfold takD putD
  by_cases c : i = j
  · subst c
    rw [if_pos rfl]
    by_cases c2 : k = i
    · subst c2; simp [h rfl]
    · simp [c2]
  · rw [if_neg c]
    by_cases c2 : k = j
    · subst c2; simp
    · by_cases c3 : k = i
      · subst c3; simp [c2]
      · simp [c2, c3]
theorem takD_blk (d : Nat → ArD) (i j gw gf : Nat) (la ls : List Ob) {B : Nat} (h1 : gw = (d i).gw ∨ B ≤ gw) (h2 : gf = (d i).gf ∨ B ≤ gf) (k b : Nat) (hb : (takD d i j gw gf la ls k).blk b) : (d k).blk b ∨ (k = i ∧ B ≤ b) := by
  have key : ∀ l, (⟨(d i).g, gw, gf, (d i).sz, l⟩ : ArD).blk b → (d i).blk b ∨ B ≤ b := by
    rintro l (e | e | e)
    · exact .inl (.inl e)
    · rcases h1 with h | h
      · exact .inl (.inr (.inl (e.trans h)))
      · exact .inr (by rw [e]; exact h)
    · rcases h2 with h | h
      · exact .inl (.inr (.inr (e.trans h)))
      · exact .inr (by rw [e]; exact h)
  unfold takD putD at hb
  by_cases c : i = j
  · rw [if_pos c] at hb
    by_cases c2 : k = i
    · subst c2
      simp only [if_true] at hb
      exact (key _ hb).imp id (fun h => ⟨rfl, h⟩)
    · simp only [c2, if_false] at hb
      exact .inl hb
  · rw [if_neg c] at hb
    by_cases c2 : k = j
    · subst c2
      simp only [if_true] at hb
      exact .inl hb
    · by_cases c3 : k = i
      · subst c3
        simp only [c2, if_false, if_true] at hb
        exact (key _ hb).imp id (fun h => ⟨rfl, h⟩)
      · simp only [c2, c3, if_false] at hb
        exact .inl hb
theorem takR_same (sz : Nat) (l : List Ob) (p : Int) : (takR sz l l p true).2.2.1 = (takR sz l l p true).2.2.2 := by
  unfold takR
  cases obAt l p with
  | none => rfl
  | some y =>
    obtain ⟨k, o⟩ := y
    simp only
    cases o.gone with
    | some t => rfl
    | none =>
      simp only
      split <;> rfl
theorem pq_take (h : XC W wr gW q n) (he : XE q) {i j : Nat} (hi : i < 3) (hj : j < 3) (hoi : q.on i = true) (hoj : q.on j = true) (x : Int) :
    ∃ a b : Int, Calls Try.prog 42 #[.pointer (some ⟨(q.d i).g, 0, none⟩), .pointer (some ⟨(q.d j).g, 0, none⟩), .int .i64 x] wr fun e w1 => e = .returned (.tuple #[.int .i64 a, .int .i64 b]) ∧ Keep q gW wr w1 ∧
      ∃ q1, XC W w1 gW q1 n ∧ q1.on = q.on ∧ q1.rg = q.rg ∧ (∀ k, (q1.d k).g = (q.d k).g) ∧ ∀ w2, Below w1.heap.size w1 w2 → Calls Try.prog 62 #[.pointer (some ⟨q.rg i, 0, none⟩), .pointer (some ⟨q.rg j, 0, none⟩), .int .i64 x] w2 fun e w3 =>
        e = .returned (.tuple #[.int .i64 a, .int .i64 b]) ∧ Keep q gW wr w3 ∧ ∃ q2, XC W w3 gW q2 n ∧ XE q2 ∧ q2.on = q.on ∧ q2.rg = q.rg := by
  refine ⟨(takR (q.d i).sz (q.d i).l (q.d j).l x (decide (i = j))).1, (takR (q.d i).sz (q.d i).l (q.d j).l x (decide (i = j))).2.1, (take_all (h.th.pair hi hj hoi hoj) x).mono ?_⟩
  rintro e w1 ⟨rfl, gwa', gfa', hP, e1, e2, hu⟩
  have hlas : i = j → (takR (q.d i).sz (q.d i).l (q.d j).l x (decide (i = j))).2.2.1 = (takR (q.d i).sz (q.d i).l (q.d j).l x (decide (i = j))).2.2.2 := fun c => by
    subst c
    simp only [decide_true]
    exact takR_same _ _ _
  have hT : Three w1 (takD q.d i j gwa' gfa' (takR (q.d i).sz (q.d i).l (q.d j).l x (decide (i = j))).2.2.1 (takR (q.d i).sz (q.d i).l (q.d j).l x (decide (i = j))).2.2.2) q.on := h.th.took hi hj hoi hoj (by simpa using hP) e1 e2 hu
  have hup : Upd q.prog wr w1 := hu.mono (fun b hb => by
    rcases hb with h1 | h1
    · exact ⟨i, hi, hoi, h1⟩
    · exact ⟨j, hj, hoj, h1⟩)
  have h1 : XC W w1 gW { q with d := takD q.d i j gwa' gfa' (takR (q.d i).sz (q.d i).l (q.d j).l x (decide (i = j))).2.2.1 (takR (q.d i).sz (q.d i).l (q.d j).l x (decide (i = j))).2.2.2 } n :=
    h.progs hT (fun k hk ho => takD_g _ _ _ _ _ _ _ _) (fun k hk ho b hb => (takD_blk _ _ _ _ _ _ _ e1 e2 k b hb).imp (fun h5 => ⟨k, hk, ho, h5⟩) (fun h5 => h5.2)) hup
  refine ⟨rfl, Keep.of hup (fun b hb => .inl (.inr (.inr (.inr hb)))), _, h1, rfl, rfl, fun k => (takD_g _ _ _ _ _ _ _ _).1, fun w2 hb2 => ?_⟩
  have h2 := h1.below hb2
  have hr1 := h2.rf i hi hoi
  have hr2 := h2.rf j hj hoj
  simp only [(takD_g _ _ _ _ _ _ _ _).2] at hr1 hr2
  have h22 : Two2 i j w2 q.lo (q.rg i) (q.d i).sz (q.rv i) (q.re i) (q.rg j) (q.d j).sz (q.rv j) (q.re j) (decide (i = j)) :=
    ⟨hr1, hr2, fun c => by have c := of_decide_eq_true c; subst c; exact ⟨rfl, rfl, rfl, rfl, rfl⟩, fun c => of_decide_eq_false c, fun b hb => h2.lo_lt b hb⟩
  refine (RfT.take.calls h22 x).mono ?_
  rintro e w3 ⟨rfl, ⟨lo', vd', ed', vs', es', o1, o2, r1, r2, hsame, hle, hown, hlt⟩, hu3⟩
  rw [he i hi hoi, he j hj hoj] at o1 o2
  refine ⟨by rw [he i hi hoi, he j hj hoj], ((Keep.of hup (fun b hb => .inl (.inr (.inr (.inr hb)))) : Keep q gW wr w1).then (S := none_) (Upd.of_below hb2) (fun _ h => h.elim)).then hu3 (fun b ⟨t, ht⟩ => by
    rcases ht with ht | ht
    · exact .inl (doc_mine ht)
    · exact .inl (doc_mine ht)), { q with d := takD q.d i j gwa' gfa' (takR (q.d i).sz (q.d i).l (q.d j).l x (decide (i = j))).2.2.1 (takR (q.d i).sz (q.d i).l (q.d j).l x (decide (i = j))).2.2.2, lo := lo', rv := fun k => if k = j then vs' else if k = i then vd' else q.rv k, re := fun k => if k = j then es' else if k = i then ed' else q.re k }, ?_, fun k hk hok => ?_, rfl, rfl⟩
  · refine h2.refs (fun k hk hok => ?_) hle (fun b hb => (hown b hb).imp id (fun h5 => h2.fresh h5)) hlt (hu3.mono (fun b ⟨t, ht⟩ => by
      rcases ht with ht | ht
      · exact ⟨i, t, hi, ht⟩
      · exact ⟨j, t, hj, ht⟩))
    simp only [(takD_g _ _ _ _ _ _ _ _).2]
    by_cases c1 : k = j
    · subst c1
      simp only [if_true]
      exact r2
    · by_cases c2 : k = i
      · subst c2
        simp only [c1, if_false, if_true]
        exact r1
      · simp only [c1, c2, if_false]
        have hr := h2.rf k hk hok
        simp only [(takD_g _ _ _ _ _ _ _ _).2] at hr
        exact hr.upd hu3 (fun b t hb ⟨t', ht'⟩ => by
          rw [hb] at ht'
          simp only [Option.some.injEq, Prod.mk.injEq] at ht'
          rcases ht' with ht' | ht'
          · exact c2 ht'.1
          · exact c1 ht'.1) (fun b t hb => hle b _ hb)
  · show obs (if k = j then es' else if k = i then ed' else q.re k) = (takD q.d i j gwa' gfa' _ _ k).l
    rw [takD_l _ _ _ _ _ _ _ hlas]
    by_cases c1 : k = j
    · rw [if_pos c1, if_pos c1]; exact o2
    · rw [if_neg c1, if_neg c1]
      by_cases c2 : k = i
      · rw [if_pos c2, if_pos c2]; exact o1
      · rw [if_neg c2, if_neg c2]; exact he k hk hok
end Go.Proofs.Ytgjcffjicbmkhaa.XrT
end

section
namespace Go.Proofs.Ytgjcffjicbmkhaa.XrL8
open Go Go.RowKit Go.Proofs.YtgjcffjicbmkhaaW.PrintWords Go.Proofs.YtgjcffjicbmkhaaW.PrintLast Go.Proofs.YtgjcffjicbmkhaaW.PrintMore Go.Proofs.Ytgjcffjicbmkhaa.RowU Go.Proofs.Ytgjcffjicbmkhaa.ArS Go.Proofs.Ytgjcffjicbmkhaa.ArM Go.Proofs.Ytgjcffjicbmkhaa.GenM Go.Proofs.Ytgjcffjicbmkhaa.GenN Go.Proofs.Ytgjcffjicbmkhaa.BokA Go.Proofs.Ytgjcffjicbmkhaa.BokB Go.Proofs.Ytgjcffjicbmkhaa.ArP Go.Proofs.Ytgjcffjicbmkhaa.ArQ Go.Proofs.Ytgjcffjicbmkhaa.RfM Go.Proofs.Ytgjcffjicbmkhaa.XrM Go.Proofs.Ytgjcffjicbmkhaa.XrN Go.Proofs.Ytgjcffjicbmkhaa.XrP Go.Proofs.Ytgjcffjicbmkhaa.XrW Go.Proofs.Ytgjcffjicbmkhaa.XrB Go.Proofs.Ytgjcffjicbmkhaa.BegW
set_option linter.unusedVariables false
set_option maxRecDepth 100000
variable {W wr w' : World} {gW : Nat} {q : XQ} {n : Nat}
set_option maxHeartbeats 16000000 in
theorem lists.calls (h : XC W wr gW q n) (hn9 : n ≤ 1000000) (he : XE q) (Bk Sr x y z : Int) (V : Nat) (Ad : Option Addr) (nb cd : Nat) (hon : q.on (mod3 Bk) = true) :
    Calls Try.prog 48 #[.pointer (some ⟨gW, 0, none⟩), .agg #[.int .i64 8, .int .i64 Bk, .int .i64 Sr, .int .i64 x, .int .i64 y, .int .i64 z, .int .u64 (V : Int), .slice Ad nb cd]] wr fun e w' => StR W w' gW q (n + 1) e := by
  have H := Aside0.mk h
  obtain ⟨m, hm⟩ : ∃ m, m = mod3 Bk := ⟨_, rfl⟩
  have hm3 : m < 3 := by rw [hm]; exact mod3_lt Bk
  have HE := Aside0.mk (And.intro he hon)
  have HT : Aside0 (∀ w, Calls Try.prog 30 #[.int .i64 Bk] w fun e w' => e = .returned (.int .i64 (m : Int)) ∧ Drawn0 w w') := ⟨fun w => by rw [hm]; exact three_q Bk w⟩
  rw [← hm] at HE
  clear h he hon hm
  go_enter Try.func48, Try.ntmps48
  go_upto_region 1 with ((with_reducible refine gate_dst (N := 3) rfl ?_); refine box_event ?hg (N := 3) ?hd (cs := #[.int .i64 8, .int .i64 Bk, .int .i64 Sr, .int .i64 x, .int .i64 y, .int .i64 z, .int .u64 (V : Int), .slice Ad nb cd]) (t := 80) ?hr ?_; (case hd => rfl); (case hg => rfl); (case hr => first | (go_simp; done) | (go_simp; rfl)); intro ga hga w1 hbox hb; have BA := Aside0.mk hbox; have HB := Aside0.mk hb; have GA := Aside0.mk hga; clear hbox hb hga)
  have H1 := Aside0.mk (H.out.below HB.out)
  have b1 : w1.cell? ⟨ga, 1, none⟩ = some (.int .i64 Bk) := (blk_cell BA.out 1).trans rfl
  have hpc : w1.cell? ⟨gW, m, none⟩ = some (.pointer (some ⟨(q.d m).g, 0, none⟩)) := by rw [H1.out.pc m hm3]; unfold pC; rw [if_pos HE.out.2]
  have hqc : w1.cell? ⟨gW, 3 + m, none⟩ = some (.pointer (some ⟨q.rg m, 0, none⟩)) := by rw [H1.out.qc m hm3]; unfold qC; rw [if_pos HE.out.2]
  have hmi : (m : Int) < 3 := by omega
  have hm0 : (0 : Int) ≤ m := by omega
  go_quiet (first | (go_at_call 30; (with_reducible refine (HT.out _).mono ?_); rintro e w' ⟨rfl, ⟨nd, rfl⟩⟩; (try first | exact ⟨rfl, _, World.drewN_drewN _ _ _⟩ | exact ⟨rfl, _, Eq.trans (World.drewN_drewN _ _ _) (congrArg (World.drewN _) (Nat.add_assoc _ _ _))⟩)))
  have hbd := pw_below_drewN (Below.refl w1.heap.size w1) nq
  have H2 := Aside0.mk (H1.out.below hbd)
  have BA2 := Aside0.mk (blk_below BA.out hbd)
  have HB2 := Aside0.mk (below_next HB.out hbd)
  have HNM : Aside0 (¬ (q.mine gW ga ∨ (w1.drewN nq).heap.size ≤ ga)) := ⟨by
    rintro (h1 | h1)
    · exact (H.out.fresh (b := ga) (by rw [GA.out]; exact Nat.le_refl _)).1 h1
    · have := cell_lt BA2.out; omega⟩
  clear hbd b1 hpc hqc H1 BA HB
  generalize w1.drewN nq = w2 at *
  have b0 : w2.cell? ⟨ga, 0, none⟩ = some (.int .i64 8) := (blk_cell BA2.out 0).trans rfl
  obtain ⟨s, hs⟩ : ∃ s, s = mod3 Sr := ⟨_, rfl⟩
  have hs3 : s < 3 := by rw [hs]; exact mod3_lt Sr
  have HT2 : Aside0 (∀ w, Calls Try.prog 30 #[.int .i64 Sr] w fun e w' => e = .returned (.int .i64 (s : Int)) ∧ Drawn0 w w') := ⟨fun w => by rw [hs]; exact three_q Sr w⟩
  have hsi : (s : Int) < 3 := by omega
  have hs0 : (0 : Int) ≤ s := by omega
  have b2 : w2.cell? ⟨ga, 2, none⟩ = some (.int .i64 Sr) := (blk_cell BA2.out 2).trans rfl
  clear hs
  by_cases hos : q.on s = true
  · have hpc : w2.cell? ⟨gW, s, none⟩ = some (.pointer (some ⟨(q.d s).g, 0, none⟩)) := by rw [H2.out.pc s hs3]; unfold pC; rw [if_pos hos]
    have HOS := Aside0.mk hos
    clear hos
    go_upto_region 23 with fail
    go_quiet (first | (go_at_call 30; (with_reducible refine (HT2.out _).mono ?_); rintro e w' ⟨rfl, ⟨nd, rfl⟩⟩; (try first | exact ⟨rfl, _, World.drewN_drewN _ _ _⟩ | exact ⟨rfl, _, Eq.trans (World.drewN_drewN _ _ _) (congrArg (World.drewN _) (Nat.add_assoc _ _ _))⟩)))
    have hbd2 := pw_below_drewN (Below.refl w2.heap.size w2) nq
    have H3 := Aside0.mk (H2.out.below hbd2)
    have BA3 := Aside0.mk (blk_below BA2.out hbd2)
    have HNM3 : Aside0 (¬ (q.mine gW ga ∨ (w2.drewN nq).heap.size ≤ ga)) := ⟨by
      rintro (h1 | h1)
      · exact HNM.out (.inl h1)
      · have := cell_lt BA3.out; omega⟩
    clear hbd2 H2 BA2 HNM hpc b2 b0 HB2
    generalize w2.drewN nq = w3 at *
    have HT3 : Aside0 (∀ w, Calls Try.prog 30 #[.int .i64 Sr] w fun e w' => e = .returned (.int .i64 (s : Int)) ∧ Below w.heap.size w w') := ⟨fun w => (HT2.out w).mono fun e w' ⟨he, hd⟩ => ⟨he, hd.below⟩⟩
    have HBX : Aside0 (∀ w, Keep q gW w3 w → w.cell? ⟨ga, 2, none⟩ = some (.int .i64 Sr) ∧ w.cell? ⟨ga, 3, none⟩ = some (.int .i64 x)) := ⟨fun w hk => by
      have h5 := blk_upd BA3.out hk HNM3.out
      exact ⟨(blk_cell h5 2).trans rfl, (blk_cell h5 3).trans rfl⟩⟩
    have HPC : Aside0 (∀ w q0, XC W w gW q0 n → q0.on = q.on → (∀ k, (q0.d k).g = (q.d k).g) → w.cell? ⟨gW, s, none⟩ = some (.pointer (some ⟨(q.d s).g, 0, none⟩))) := ⟨fun w q0 h0 e1 e2 => by rw [h0.pc s hs3]; unfold pC; rw [e1, if_pos HOS.out, e2]⟩
    have HQC : Aside0 (∀ w q0, XC W w gW q0 n → q0.on = q.on → q0.rg = q.rg → w.cell? ⟨gW, 3 + s, none⟩ = some (.pointer (some ⟨q.rg s, 0, none⟩))) := ⟨fun w q0 h0 e1 e2 => by rw [h0.qc s hs3]; unfold qC; rw [e1, if_pos HOS.out, e2]⟩
    have HK0 := Aside0.mk (And.intro (HBX.out w3 (Keep.below (Below.refl _ _))).1 (And.intro (HBX.out w3 (Keep.below (Below.refl _ _))).2 (HPC.out w3 q H3.out rfl (fun _ => rfl))))
    go_upto_region 25 with fail
    go_region_held3 (fun w' => w'.cell? ⟨ga, 2, none⟩ = some (.int .i64 Sr) ∧ w'.cell? ⟨ga, 3, none⟩ = some (.int .i64 x) ∧ w'.cell? ⟨gW, s, none⟩ = some (.pointer (some ⟨(q.d s).g, 0, none⟩))) (first | exact HK5.out | exact HK4.out | exact HK0.out) (first
      | (go_at_call 30; go_must (refine (HT3.out _).mono ?_); rintro e w4 ⟨rfl, hb⟩; have HB4 := Aside0.mk (below_next (Below.refl w3.heap.size w3).drew hb); have HK4 := Aside0.mk (And.intro (HBX.out w4 (Keep.below HB4.out)).1 (And.intro (HBX.out w4 (Keep.below HB4.out)).2 (HPC.out w4 q (H3.out.below HB4.out) rfl (fun _ => rfl)))); clear hb)
      | (go_at_call 42; obtain ⟨ra, rb, htk⟩ := XrT.pq_take (H3.out.below HB4.out) HE.out.1 hm3 hs3 HE.out.2 HOS.out x; go_must (refine htk.mono ?_); rintro e w5 ⟨rfl, hkp, q1, h1, f1, f2, f3, hsec⟩; have HX1 := Aside0.mk (And.intro h1 (And.intro f1 (And.intro f2 f3))); have HSEC := Aside0.mk hsec; have HKP := Aside0.mk (show Keep q gW w3 w5 from Upd.trans (Keep.below (q := q) (gW := gW) HB4.out) (hkp.mono (fun b hb => hb.imp id (fun h1 => Nat.le_trans HB4.out.size h1)))); have HK5 := Aside0.mk (And.intro (HBX.out w5 HKP.out).1 (And.intro (HBX.out w5 HKP.out).2 (HPC.out w5 q1 HX1.out.1 HX1.out.2.1 HX1.out.2.2.2))); clear htk hkp h1 f1 f2 f3 hsec))
    have HL0 := Aside0.mk (And.intro HK5.out.1 (And.intro HK5.out.2.1 (HQC.out w5 q1 HX1.out.1 HX1.out.2.1 HX1.out.2.2.1)))
    clear HK0 HK4 HK5
    have HKEEP : Aside0 (∀ w, Keep q gW w3 w → Keep q gW w3 w) := ⟨fun _ h => h⟩
    go_upto_region 26 with fail
    go_region_held3 (fun w' => w'.cell? ⟨ga, 2, none⟩ = some (.int .i64 Sr) ∧ w'.cell? ⟨ga, 3, none⟩ = some (.int .i64 x) ∧ w'.cell? ⟨gW, 3 + s, none⟩ = some (.pointer (some ⟨q.rg s, 0, none⟩))) (first | exact HL7.out | exact HL6.out | exact HL0.out) (first
      | (go_at_call 30; go_must (refine (HT3.out _).mono ?_); rintro e w6 ⟨rfl, hb⟩; have HB6 := Aside0.mk (below_next (Below.refl w5.heap.size w5).drew hb); have HL6 := Aside0.mk (And.intro (HBX.out w6 (HKP.out.then (S := none_) (Upd.of_below HB6.out) (fun _ h => h.elim))).1 (And.intro (HBX.out w6 (HKP.out.then (S := none_) (Upd.of_below HB6.out) (fun _ h => h.elim))).2 (HQC.out w6 q1 (HX1.out.1.below HB6.out) HX1.out.2.1 HX1.out.2.2.1))); clear hb)
      | (go_at_call 62; go_must (refine (HSEC.out w6 HB6.out).mono ?_); rintro e w7 ⟨rfl, hkp7, q2, h2, he2, g1, g2⟩; have HX2 := Aside0.mk (And.intro h2 (And.intro he2 (And.intro g1 g2))); have HL7 := Aside0.mk (And.intro (HBX.out w7 (HKEEP.out w7 (Keep.below2 HB4.out hkp7))).1 (And.intro (HBX.out w7 (HKEEP.out w7 (Keep.below2 HB4.out hkp7))).2 (HQC.out w7 q2 HX2.out.1 HX2.out.2.2.1 HX2.out.2.2.2))); clear hkp7 h2 he2 g1 g2))
    clear HL0 HL6 HL7
    go_wp2_with fail
    refine (ArY.num.calls _ _).mono ?_
    rintro e w8 ⟨rfl, rfl⟩
    go_wp2_with fail
    go_ret
    exact ⟨by first | rfl | simp, q2, HX2.out.1.more (by omega), HX2.out.2.1, HX2.out.2.2.1⟩
  · have hpc : w2.cell? ⟨gW, s, none⟩ = some (.pointer none) := by rw [H2.out.pc s hs3]; unfold pC; rw [if_neg hos]
    clear hos
    go_upto_region 23 with fail
    go_quiet (first | (go_at_call 30; (with_reducible refine (HT2.out _).mono ?_); rintro e w' ⟨rfl, ⟨nd, rfl⟩⟩; (try first | exact ⟨rfl, _, World.drewN_drewN _ _ _⟩ | exact ⟨rfl, _, Eq.trans (World.drewN_drewN _ _ _) (congrArg (World.drewN _) (Nat.add_assoc _ _ _))⟩)))
    go_wp2_with fail
    go_ret
    exact ⟨rfl, q, (H2.out.below (pw_below_drewN (Below.refl _ _) _)).more (by omega), HE.out.1, rfl⟩
end Go.Proofs.Ytgjcffjicbmkhaa.XrL8
end

section
namespace Go.Proofs.Ytgjcffjicbmkhaa.XrL10
open Go Go.RowKit Go.Proofs.YtgjcffjicbmkhaaW.PrintWords Go.Proofs.YtgjcffjicbmkhaaW.PrintLast Go.Proofs.YtgjcffjicbmkhaaW.PrintMore Go.Proofs.Ytgjcffjicbmkhaa.RowU Go.Proofs.Ytgjcffjicbmkhaa.ArS Go.Proofs.Ytgjcffjicbmkhaa.ArM Go.Proofs.Ytgjcffjicbmkhaa.GenM Go.Proofs.Ytgjcffjicbmkhaa.GenN Go.Proofs.Ytgjcffjicbmkhaa.BokA Go.Proofs.Ytgjcffjicbmkhaa.BokB Go.Proofs.Ytgjcffjicbmkhaa.ArP Go.Proofs.Ytgjcffjicbmkhaa.ArQ Go.Proofs.Ytgjcffjicbmkhaa.RfM Go.Proofs.Ytgjcffjicbmkhaa.XrM Go.Proofs.Ytgjcffjicbmkhaa.XrN Go.Proofs.Ytgjcffjicbmkhaa.XrP Go.Proofs.Ytgjcffjicbmkhaa.XrW Go.Proofs.Ytgjcffjicbmkhaa.XrB Go.Proofs.Ytgjcffjicbmkhaa.BegW
set_option linter.unusedVariables false
set_option maxRecDepth 100000
variable {W wr w' : World} {gW : Nat} {q : XQ} {n : Nat}
set_option maxHeartbeats 16000000 in
theorem lists.calls (h : XC W wr gW q n) (hn9 : n ≤ 1000000) (he : XE q) (Bk Sr x y z : Int) (V : Nat) (Ad : Option Addr) (nb cd : Nat) (hon : q.on (mod3 Bk) = true) :
    Calls Try.prog 48 #[.pointer (some ⟨gW, 0, none⟩), .agg #[.int .i64 10, .int .i64 Bk, .int .i64 Sr, .int .i64 x, .int .i64 y, .int .i64 z, .int .u64 (V : Int), .slice Ad nb cd]] wr fun e w' => StR W w' gW q (n + 1) e := by
  have H := Aside0.mk h
  obtain ⟨m, hm⟩ : ∃ m, m = mod3 Bk := ⟨_, rfl⟩
  have hm3 : m < 3 := by rw [hm]; exact mod3_lt Bk
  have HE := Aside0.mk (And.intro he hon)
  have HT : Aside0 (∀ w, Calls Try.prog 30 #[.int .i64 Bk] w fun e w' => e = .returned (.int .i64 (m : Int)) ∧ Drawn0 w w') := ⟨fun w => by rw [hm]; exact three_q Bk w⟩
  rw [← hm] at HE
  clear h he hon hm
  go_enter Try.func48, Try.ntmps48
  go_upto_region 1 with ((with_reducible refine gate_dst (N := 3) rfl ?_); refine box_event ?hg (N := 3) ?hd (cs := #[.int .i64 10, .int .i64 Bk, .int .i64 Sr, .int .i64 x, .int .i64 y, .int .i64 z, .int .u64 (V : Int), .slice Ad nb cd]) (t := 80) ?hr ?_; (case hd => rfl); (case hg => rfl); (case hr => first | (go_simp; done) | (go_simp; rfl)); intro ga hga w1 hbox hb; have BA := Aside0.mk hbox; have HB := Aside0.mk hb; have GA := Aside0.mk hga; clear hbox hb hga)
  have H1 := Aside0.mk (H.out.below HB.out)
  have b1 : w1.cell? ⟨ga, 1, none⟩ = some (.int .i64 Bk) := (blk_cell BA.out 1).trans rfl
  have hpc : w1.cell? ⟨gW, m, none⟩ = some (.pointer (some ⟨(q.d m).g, 0, none⟩)) := by rw [H1.out.pc m hm3]; unfold pC; rw [if_pos HE.out.2]
  have hqc : w1.cell? ⟨gW, 3 + m, none⟩ = some (.pointer (some ⟨q.rg m, 0, none⟩)) := by rw [H1.out.qc m hm3]; unfold qC; rw [if_pos HE.out.2]
  have hmi : (m : Int) < 3 := by omega
  have hm0 : (0 : Int) ≤ m := by omega
  go_quiet (first | (go_at_call 30; (with_reducible refine (HT.out _).mono ?_); rintro e w' ⟨rfl, ⟨nd, rfl⟩⟩; (try first | exact ⟨rfl, _, World.drewN_drewN _ _ _⟩ | exact ⟨rfl, _, Eq.trans (World.drewN_drewN _ _ _) (congrArg (World.drewN _) (Nat.add_assoc _ _ _))⟩)))
  have hbd := pw_below_drewN (Below.refl w1.heap.size w1) nq
  have H2 := Aside0.mk (H1.out.below hbd)
  have BA2 := Aside0.mk (blk_below BA.out hbd)
  have HB2 := Aside0.mk (below_next HB.out hbd)
  have HNM : Aside0 (¬ (q.mine gW ga ∨ (w1.drewN nq).heap.size ≤ ga)) := ⟨by
    rintro (h1 | h1)
    · exact (H.out.fresh (b := ga) (by rw [GA.out]; exact Nat.le_refl _)).1 h1
    · have := cell_lt BA2.out; omega⟩
  clear hbd b1 hpc hqc H1 BA HB
  generalize w1.drewN nq = w2 at *
  have b0 : w2.cell? ⟨ga, 0, none⟩ = some (.int .i64 10) := (blk_cell BA2.out 0).trans rfl
  obtain ⟨sz, hsz⟩ : ∃ sz, sz = (q.d m).sz := ⟨_, rfl⟩
  obtain ⟨u, hu⟩ : ∃ u, u = used (q.d m).l := ⟨_, rfl⟩
  have hr := H2.out.rf m hm3 HE.out.2
  have c0 := hr.c0
  have c1 := hr.c1
  rw [HE.out.1 m hm3 HE.out.2, ← hu] at c1
  rw [← hsz] at c0
  have HSZ : Aside0 (∀ w, Below w2.heap.size w2 w → Calls Try.prog 36 #[.pointer (some ⟨(q.d m).g, 0, none⟩)] w fun e w' => e = .returned (.int .i64 (sz : Int)) ∧ Drawn0 w w') := ⟨fun w hb => by rw [hsz]; exact size_q ((H2.out.below hb).th.at_ m hm3 HE.out.2)⟩
  have HUS : Aside0 (∀ w, Below w2.heap.size w2 w → Calls Try.prog 18 #[.pointer (some ⟨(q.d m).g, 0, none⟩)] w fun e w' => e = .returned (.int .i64 (u : Int)) ∧ Drawn0 w w') := ⟨fun w hb => by rw [hu]; exact used_q ((H2.out.below hb).th.at_ m hm3 HE.out.2)⟩
  have e1 : ((sz : Int) == (sz : Int)) = true := by simp
  have e2 : ((u : Int) == (u : Int)) = true := by simp
  clear hr hsz hu
  go_wp2_with fail
  go_quiet (first | (go_at_call 36; (with_reducible refine (HSZ.out _ (by first | exact Below.refl _ _ | exact pw_below_drewN (Below.refl _ _) _)).mono ?_); rintro e w' ⟨rfl, ⟨nd, rfl⟩⟩; (try first | exact ⟨rfl, _, World.drewN_drewN _ _ _⟩ | exact ⟨rfl, _, Eq.trans (World.drewN_drewN _ _ _) (congrArg (World.drewN _) (Nat.add_assoc _ _ _))⟩)) | (go_at_call 18; (with_reducible refine (HUS.out _ (by first | exact Below.refl _ _ | exact pw_below_drewN (Below.refl _ _) _)).mono ?_); rintro e w' ⟨rfl, ⟨nd, rfl⟩⟩; (try first | exact ⟨rfl, _, World.drewN_drewN _ _ _⟩ | exact ⟨rfl, _, Eq.trans (World.drewN_drewN _ _ _) (congrArg (World.drewN _) (Nat.add_assoc _ _ _))⟩)))
  go_wp2_with fail
  go_ret
  exact ⟨rfl, q, (H2.out.below (pw_below_drewN (Below.refl _ _) _)).more (by omega), HE.out.1, rfl⟩
end Go.Proofs.Ytgjcffjicbmkhaa.XrL10
end
