-- PRINTED by print.py (a twelfth state) out of the translation. Not trusted: Lean checks it.
import Derived.Test.YtdflblegdfpdpaaDoorProg
import Derived.Below
import Derived.Deep.Draws
import Derived.Deep.AppendLies
import Derived.Maps.AppendAt
import Derived.OwnWalk
import Derived.Laws.BytesArg
import Derived.Laws.MakeOwn
import Derived.Laws.OwnMore
import Derived.Deep.OwnRows
import Derived.Tactics
import Derived.Lib.ConvBytes
import Derived.Laws.Slices
import Derived.WalkKit
import Derived.KernelRfl
import Derived.RowKit3
import Derived.Deep.LoopGhost
import Derived.Deep.QuietTactic
import Derived.BigQuiet
import Derived.WideLaws
import Derived.Deep.DeepCutAuto
import Derived.Deep.CutBlock
import Derived.Deep.RegionHeld3
import Derived.Laws.Rows
import Derived.Lib.AppendStr
import Derived.ArgAppend
import Derived.Laws.IdiomCopy
import Derived.OrdersHeld
import Derived.Laws.BitsLemmas
import Derived.RowKit
import Derived.Test.YtdflblegdfpdpaaDoorWakeG
import Derived.Test.YtdflblegdfpdpaaDoorIntW
import Derived.Test.YtdflblegdfpdpaaDoorDigW
import Derived.Test.YtdflblegdfpdpaaDoorWWords
import Derived.Test.YtdflblegdfpdpaaDoorWLast
import Derived.Test.YtdflblegdfpdpaaDoorWTab
import Derived.Test.YtdflblegdfpdpaaDoorWFour
import Derived.Test.YtdflblegdfpdpaaDoorWQPut
import Derived.Test.YtdflblegdfpdpaaDoorWApart
import Derived.Test.YtdflblegdfpdpaaDoorWArr
import Derived.Test.YtdflblegdfpdpaaDoorWZeros
import Derived.Test.YtdflblegdfpdpaaDoorWFoot
import Derived.Test.YtdflblegdfpdpaaDoorWKept
import Derived.Test.YtdflblegdfpdpaaDoorWShare
import Derived.Test.YtdflblegdfpdpaaDoorWN
import Derived.Test.YtdflblegdfpdpaaDoorWFootNe
import Derived.Test.YtdflblegdfpdpaaDoorWAt
import Derived.Test.YtdflblegdfpdpaaDoorWEqStruct
import Derived.Test.YtdflblegdfpdpaaDoorWRepsOne
import Derived.Test.YtdflblegdfpdpaaDoorWInv
import Derived.Test.YtdflblegdfpdpaaDoorWInvWords
import Derived.Test.YtdflblegdfpdpaaDoorWGuard
import Derived.Test.YtdflblegdfpdpaaDoorWNEv
import Derived.Test.YtdflblegdfpdpaaDoorWMore
namespace Go.Proofs.YtdflblegdfpdpaaDoor.PE
open Go.RowKit Go.Proofs.YtdflblegdfpdpaaDoorW.PrintWords Go.Proofs.YtdflblegdfpdpaaDoorW.PrintLast Go.Proofs.YtdflblegdfpdpaaDoorW.PrintMore
attribute [local go_sem] max2_int min2_int max_two min_two max_three min_three max_four min_four   -- for this text's walks alone
open PA PB
set_option linter.unusedVariables false
set_option linter.unusedSimpArgs false



def errW : Option Int → Value
  | none => .nilIface
  | some c => .iface 0 (.int .i64 c)
theorem errW_none : errW none = .nilIface := rfl
theorem errW_some (c : Int) : errW (some c) = .iface 0 (.int .i64 c) := rfl

theorem info5 : (Tryd.prog.info? 5).map (fun i => (i.zero, i.size, i.bytes)) = some (some (.int .u8 0), 1, 1) := by kernel_rfl
-- the values' own types
/-! #### struct type 72 -/
structure S72 where
  f0 : Int
  f1 : Int
  f2 : Bool
  f3 : Bool
def z72 : S72 := ⟨(0 : Int), (0 : Int), false, false⟩
def k72 : Kd S72 := Kd.iso (Kd.pair (Kd.int .u8) (Kd.pair (Kd.int .u8) (Kd.pair Kd.bool Kd.bool))) (fun x : S72 => (x.f0, x.f1, x.f2, x.f3))
theorem k72_open {w : World} {x : S72} {cs : List Value} (h : k72.K w x cs) : cs = [.int .u8 x.f0, .int .u8 x.f1, .bool x.f2, .bool x.f3] := by
  obtain ⟨_, _, rfl, rfl, ⟨_, _, rfl, rfl, ⟨_, _, rfl, rfl, rfl⟩⟩⟩ := h
  exact rfl
theorem k72_openM {w : World} {base : Nat} {ok : Nat → Prop} {x : S72} {cs : List Value} (h : k72.M w base ok x cs) : cs = [.int .u8 x.f0, .int .u8 x.f1, .bool x.f2, .bool x.f3] := by
  obtain ⟨_, _, rfl, rfl, ⟨_, _, rfl, rfl, ⟨_, _, rfl, rfl, rfl⟩⟩⟩ := h
  exact rfl
theorem k72_mk (w : World) (x : S72)  : k72.K w x [.int .u8 x.f0, .int .u8 x.f1, .bool x.f2, .bool x.f3] := ⟨[.int .u8 x.f0], [.int .u8 x.f1, .bool x.f2, .bool x.f3], rfl, rfl, ⟨[.int .u8 x.f1], [.bool x.f2, .bool x.f3], rfl, rfl, ⟨[.bool x.f2], [.bool x.f3], rfl, rfl, rfl⟩⟩⟩
theorem k72_mkM (w : World) (base : Nat) (ok : Nat → Prop) (x : S72)  : k72.M w base ok x [.int .u8 x.f0, .int .u8 x.f1, .bool x.f2, .bool x.f3] := ⟨[.int .u8 x.f0], [.int .u8 x.f1, .bool x.f2, .bool x.f3], rfl, rfl, ⟨[.int .u8 x.f1], [.bool x.f2, .bool x.f3], rfl, rfl, ⟨[.bool x.f2], [.bool x.f3], rfl, rfl, rfl⟩⟩⟩
theorem k72_mkF (W : World) (ok : Nat → Prop) (x : S72) : Kd.FK k72 W ok x [.int .u8 x.f0, .int .u8 x.f1, .bool x.f2, .bool x.f3] := fun W2 _ => k72_mk W2 x
def rd_T72 (xs : List S72) (i : Int) : S72 := xs.getD i.toNat z72
theorem at_T72 {w : World} {A : Option Addr} {n : Nat} {xs : List S72} (h : Kd.C k72 w A n xs) (i : Int) (h0 : 0 ≤ i) (h1 : i < n) : ∃ ad , A = some ad ∧ w.cell? (ad.add (i.toNat * 4)) = some (.int .u8 (rd_T72 xs i).f0) ∧ w.cell? ⟨(ad.add (i.toNat * 4)).block, (ad.add (i.toNat * 4)).off + 1, none⟩ = some (.int .u8 (rd_T72 xs i).f1) ∧ w.cell? ⟨(ad.add (i.toNat * 4)).block, (ad.add (i.toNat * 4)).off + 2, none⟩ = some (.bool (rd_T72 xs i).f2) ∧ w.cell? ⟨(ad.add (i.toNat * 4)).block, (ad.add (i.toNat * 4)).off + 3, none⟩ = some (.bool (rd_T72 xs i).f3) := by
  obtain ⟨ad, c, e, _, hK, hc0⟩ := Kd.C_get h z72 i h0 h1
  have hc : ∀ j u, c[j]? = some u → w.cell? (ad.add (i.toNat * 4 + j)) = some u := hc0
  obtain rfl := k72_open hK
  exact ⟨ad, e, hc 0 _ rfl, by rw [← add_field _ _ 1 (by omega)]; exact hc 1 _ rfl, by rw [← add_field _ _ 2 (by omega)]; exact hc 2 _ rfl, by rw [← add_field _ _ 3 (by omega)]; exact hc 3 _ rfl⟩

def rd_L4 (xs : List (List S72)) (i : Int) : (List S72) := xs.getD i.toNat ([] : List S72)
theorem at_L4 {w : World} {A : Option Addr} {n : Nat} {xs : List (List S72)} (h : Kd.C (Kd.slice 72 k72) w A n xs) (i : Int) (h0 : 0 ≤ i) (h1 : i < n) : ∃ ad A0 c0, A = some ad ∧ w.cell? (ad.add i.toNat) = some (.slice A0 (rd_L4 xs i).length c0) ∧ (rd_L4 xs i).length ≤ c0 ∧ k72.C w A0 (rd_L4 xs i).length (rd_L4 xs i) := by
  obtain ⟨ad, c, e, _, hK, hc0⟩ := Kd.C_get h ([] : List S72) i h0 h1
  have hc : ∀ j u, c[j]? = some u → w.cell? (ad.add (i.toNat * 1 + j)) = some u := hc0
  obtain ⟨A0, c0, rfl, l0, g0⟩ := hK
  exact ⟨ad, A0, c0, e, by have hq := hc 0 _ rfl; rwa [Nat.mul_one, Nat.add_zero] at hq, l0, g0⟩

/-! #### struct type 35 -/
structure S35 where
  f0 : Int
  f1 : Int
  f2 : Bool
  f3 : (List S72)
def z35 : S35 := ⟨(0 : Int), (0 : Int), false, ([] : List S72)⟩
def k35 : Kd S35 := Kd.iso (Kd.pair (Kd.int .i64) (Kd.pair (Kd.int .u8) (Kd.pair Kd.bool (Kd.slice 72 k72)))) (fun x : S35 => (x.f0, x.f1, x.f2, x.f3))
theorem k35_open {w : World} {x : S35} {cs : List Value} (h : k35.K w x cs) : ∃ A3 c3, cs = [.int .i64 x.f0, .int .u8 x.f1, .bool x.f2, .slice A3 x.f3.length c3] ∧ x.f3.length ≤ c3 ∧ k72.C w A3 x.f3.length x.f3 := by
  obtain ⟨_, _, rfl, rfl, ⟨_, _, rfl, rfl, ⟨_, _, rfl, rfl, ⟨A3, c3, rfl, l3, g3⟩⟩⟩⟩ := h
  exact ⟨A3, c3, rfl, l3, g3⟩
theorem k35_openM {w : World} {base : Nat} {ok : Nat → Prop} {x : S35} {cs : List Value} (h : k35.M w base ok x cs) : ∃ v3, cs = [.int .i64 x.f0, .int .u8 x.f1, .bool x.f2, v3] ∧ k72.R 72 w base ok v3 x.f3 := by
  obtain ⟨_, _, rfl, rfl, ⟨_, _, rfl, rfl, ⟨_, _, rfl, rfl, ⟨v3, rfl, g3⟩⟩⟩⟩ := h
  exact ⟨v3, rfl, g3⟩
theorem k35_mk (w : World) (x : S35) {A3 : Option Addr} {c3 : Nat} (l3 : x.f3.length ≤ c3) (g3 : k72.C w A3 x.f3.length x.f3) : k35.K w x [.int .i64 x.f0, .int .u8 x.f1, .bool x.f2, .slice A3 x.f3.length c3] := ⟨[.int .i64 x.f0], [.int .u8 x.f1, .bool x.f2, .slice A3 x.f3.length c3], rfl, rfl, ⟨[.int .u8 x.f1], [.bool x.f2, .slice A3 x.f3.length c3], rfl, rfl, ⟨[.bool x.f2], [.slice A3 x.f3.length c3], rfl, rfl, ⟨A3, c3, rfl, l3, g3⟩⟩⟩⟩
theorem k35_mkM (w : World) (base : Nat) (ok : Nat → Prop) (x : S35) {v3 : Value} (g3 : k72.R 72 w base ok v3 x.f3) : k35.M w base ok x [.int .i64 x.f0, .int .u8 x.f1, .bool x.f2, v3] := ⟨[.int .i64 x.f0], [.int .u8 x.f1, .bool x.f2, v3], rfl, rfl, ⟨[.int .u8 x.f1], [.bool x.f2, v3], rfl, rfl, ⟨[.bool x.f2], [v3], rfl, rfl, ⟨v3, rfl, g3⟩⟩⟩⟩
theorem k35_openF {W : World} {ok : Nat → Prop} {x : S35} {cs : List Value} (h : Kd.FK k35 W ok x cs) : ∃ A3 c3, cs = [.int .i64 x.f0, .int .u8 x.f1, .bool x.f2, .slice A3 x.f3.length c3] ∧ x.f3.length ≤ c3 ∧ Kd.F k72 W ok A3 x.f3.length x.f3 := by
  obtain ⟨A3, c3, rfl, l3, _⟩ := k35_open (Kd.FK_now h)
  exact ⟨A3, c3, rfl, l3, (fun W' hW => by obtain ⟨A3_, c3_, he, l3_, g3_⟩ := k35_open (h W' hW); injection (Option.some.inj (show some (Value.slice A3 x.f3.length c3) = some (Value.slice A3_ x.f3.length c3_) from congrArg (fun l => l[3]?) he)) with ha_ _ _; rw [ha_]; exact g3_)⟩
theorem k35_mkF (W : World) (ok : Nat → Prop) (x : S35) {A3 : Option Addr} {c3 : Nat} (l3 : x.f3.length ≤ c3) (g3 : Kd.F k72 W ok A3 x.f3.length x.f3) : Kd.FK k35 W ok x [.int .i64 x.f0, .int .u8 x.f1, .bool x.f2, .slice A3 x.f3.length c3] := fun W2 hW => k35_mk W2 x l3 (g3 W2 hW)
def rd_T35 (xs : List S35) (i : Int) : S35 := xs.getD i.toNat z35
theorem at_T35 {w : World} {A : Option Addr} {n : Nat} {xs : List S35} (h : Kd.C k35 w A n xs) (i : Int) (h0 : 0 ≤ i) (h1 : i < n) : ∃ ad A3 c3, A = some ad ∧ w.cell? (ad.add (i.toNat * 4)) = some (.int .i64 (rd_T35 xs i).f0) ∧ w.cell? ⟨(ad.add (i.toNat * 4)).block, (ad.add (i.toNat * 4)).off + 1, none⟩ = some (.int .u8 (rd_T35 xs i).f1) ∧ w.cell? ⟨(ad.add (i.toNat * 4)).block, (ad.add (i.toNat * 4)).off + 2, none⟩ = some (.bool (rd_T35 xs i).f2) ∧ w.cell? ⟨(ad.add (i.toNat * 4)).block, (ad.add (i.toNat * 4)).off + 3, none⟩ = some (.slice A3 (rd_T35 xs i).f3.length c3) ∧ (rd_T35 xs i).f3.length ≤ c3 ∧ k72.C w A3 (rd_T35 xs i).f3.length (rd_T35 xs i).f3 := by
  obtain ⟨ad, c, e, _, hK, hc0⟩ := Kd.C_get h z35 i h0 h1
  have hc : ∀ j u, c[j]? = some u → w.cell? (ad.add (i.toNat * 4 + j)) = some u := hc0
  obtain ⟨A3, c3, rfl, l3, g3⟩ := k35_open hK
  exact ⟨ad, A3, c3, e, hc 0 _ rfl, by rw [← add_field _ _ 1 (by omega)]; exact hc 1 _ rfl, by rw [← add_field _ _ 2 (by omega)]; exact hc 2 _ rfl, by rw [← add_field _ _ 3 (by omega)]; exact hc 3 _ rfl, l3, g3⟩

def rd_L6 (xs : List (List Int)) (i : Int) : (List Int) := xs.getD i.toNat ([] : List Int)
theorem at_L6 {w : World} {A : Option Addr} {n : Nat} {xs : List (List Int)} (h : Kd.C (Kd.slice 5 (Kd.int .u8)) w A n xs) (i : Int) (h0 : 0 ≤ i) (h1 : i < n) : ∃ ad A0 c0, A = some ad ∧ w.cell? (ad.add i.toNat) = some (.slice A0 (rd_L6 xs i).length c0) ∧ (rd_L6 xs i).length ≤ c0 ∧ (Kd.int .u8).C w A0 (rd_L6 xs i).length (rd_L6 xs i) := by
  obtain ⟨ad, c, e, _, hK, hc0⟩ := Kd.C_get h ([] : List Int) i h0 h1
  have hc : ∀ j u, c[j]? = some u → w.cell? (ad.add (i.toNat * 1 + j)) = some u := hc0
  obtain ⟨A0, c0, rfl, l0, g0⟩ := hK
  exact ⟨ad, A0, c0, e, by have hq := hc 0 _ rfl; rwa [Nat.mul_one, Nat.add_zero] at hq, l0, g0⟩

/-! #### struct type 41 -/
structure S41 where
  f0 : Int
  f1 : Int
  f2 : Bool
def z41 : S41 := ⟨(0 : Int), (0 : Int), false⟩
def k41 : Kd S41 := Kd.iso (Kd.pair (Kd.int .i64) (Kd.pair (Kd.int .i64) Kd.bool)) (fun x : S41 => (x.f0, x.f1, x.f2))
theorem k41_open {w : World} {x : S41} {cs : List Value} (h : k41.K w x cs) : cs = [.int .i64 x.f0, .int .i64 x.f1, .bool x.f2] := by
  obtain ⟨_, _, rfl, rfl, ⟨_, _, rfl, rfl, rfl⟩⟩ := h
  exact rfl
theorem k41_openM {w : World} {base : Nat} {ok : Nat → Prop} {x : S41} {cs : List Value} (h : k41.M w base ok x cs) : cs = [.int .i64 x.f0, .int .i64 x.f1, .bool x.f2] := by
  obtain ⟨_, _, rfl, rfl, ⟨_, _, rfl, rfl, rfl⟩⟩ := h
  exact rfl
theorem k41_mk (w : World) (x : S41)  : k41.K w x [.int .i64 x.f0, .int .i64 x.f1, .bool x.f2] := ⟨[.int .i64 x.f0], [.int .i64 x.f1, .bool x.f2], rfl, rfl, ⟨[.int .i64 x.f1], [.bool x.f2], rfl, rfl, rfl⟩⟩
theorem k41_mkM (w : World) (base : Nat) (ok : Nat → Prop) (x : S41)  : k41.M w base ok x [.int .i64 x.f0, .int .i64 x.f1, .bool x.f2] := ⟨[.int .i64 x.f0], [.int .i64 x.f1, .bool x.f2], rfl, rfl, ⟨[.int .i64 x.f1], [.bool x.f2], rfl, rfl, rfl⟩⟩
theorem k41_mkF (W : World) (ok : Nat → Prop) (x : S41) : Kd.FK k41 W ok x [.int .i64 x.f0, .int .i64 x.f1, .bool x.f2] := fun W2 _ => k41_mk W2 x
def rd_T41 (xs : List S41) (i : Int) : S41 := xs.getD i.toNat z41
theorem at_T41 {w : World} {A : Option Addr} {n : Nat} {xs : List S41} (h : Kd.C k41 w A n xs) (i : Int) (h0 : 0 ≤ i) (h1 : i < n) : ∃ ad , A = some ad ∧ w.cell? (ad.add (i.toNat * 3)) = some (.int .i64 (rd_T41 xs i).f0) ∧ w.cell? ⟨(ad.add (i.toNat * 3)).block, (ad.add (i.toNat * 3)).off + 1, none⟩ = some (.int .i64 (rd_T41 xs i).f1) ∧ w.cell? ⟨(ad.add (i.toNat * 3)).block, (ad.add (i.toNat * 3)).off + 2, none⟩ = some (.bool (rd_T41 xs i).f2) := by
  obtain ⟨ad, c, e, _, hK, hc0⟩ := Kd.C_get h z41 i h0 h1
  have hc : ∀ j u, c[j]? = some u → w.cell? (ad.add (i.toNat * 3 + j)) = some u := hc0
  obtain rfl := k41_open hK
  exact ⟨ad, e, hc 0 _ rfl, by rw [← add_field _ _ 1 (by omega)]; exact hc 1 _ rfl, by rw [← add_field _ _ 2 (by omega)]; exact hc 2 _ rfl⟩

/-! #### struct type 43 -/
structure S43 where
  f0 : Int
  f1 : (List Int)
  f2 : Bool
def z43 : S43 := ⟨(0 : Int), ([] : List Int), false⟩
def k43 : Kd S43 := Kd.iso (Kd.pair (Kd.int .i64) (Kd.pair (Kd.slice 5 (Kd.int .u8)) Kd.bool)) (fun x : S43 => (x.f0, x.f1, x.f2))
theorem k43_open {w : World} {x : S43} {cs : List Value} (h : k43.K w x cs) : ∃ A1 c1, cs = [.int .i64 x.f0, .slice A1 x.f1.length c1, .bool x.f2] ∧ x.f1.length ≤ c1 ∧ (Kd.int .u8).C w A1 x.f1.length x.f1 := by
  obtain ⟨_, _, rfl, rfl, ⟨_, _, rfl, ⟨A1, c1, rfl, l1, g1⟩, rfl⟩⟩ := h
  exact ⟨A1, c1, rfl, l1, g1⟩
theorem k43_openM {w : World} {base : Nat} {ok : Nat → Prop} {x : S43} {cs : List Value} (h : k43.M w base ok x cs) : ∃ v1, cs = [.int .i64 x.f0, v1, .bool x.f2] ∧ (Kd.int .u8).R 5 w base ok v1 x.f1 := by
  obtain ⟨_, _, rfl, rfl, ⟨_, _, rfl, ⟨v1, rfl, g1⟩, rfl⟩⟩ := h
  exact ⟨v1, rfl, g1⟩
theorem k43_mk (w : World) (x : S43) {A1 : Option Addr} {c1 : Nat} (l1 : x.f1.length ≤ c1) (g1 : (Kd.int .u8).C w A1 x.f1.length x.f1) : k43.K w x [.int .i64 x.f0, .slice A1 x.f1.length c1, .bool x.f2] := ⟨[.int .i64 x.f0], [.slice A1 x.f1.length c1, .bool x.f2], rfl, rfl, ⟨[.slice A1 x.f1.length c1], [.bool x.f2], rfl, ⟨A1, c1, rfl, l1, g1⟩, rfl⟩⟩
theorem k43_mkM (w : World) (base : Nat) (ok : Nat → Prop) (x : S43) {v1 : Value} (g1 : (Kd.int .u8).R 5 w base ok v1 x.f1) : k43.M w base ok x [.int .i64 x.f0, v1, .bool x.f2] := ⟨[.int .i64 x.f0], [v1, .bool x.f2], rfl, rfl, ⟨[v1], [.bool x.f2], rfl, ⟨v1, rfl, g1⟩, rfl⟩⟩
theorem k43_openF {W : World} {ok : Nat → Prop} {x : S43} {cs : List Value} (h : Kd.FK k43 W ok x cs) : ∃ A1 c1, cs = [.int .i64 x.f0, .slice A1 x.f1.length c1, .bool x.f2] ∧ x.f1.length ≤ c1 ∧ Kd.F (Kd.int .u8) W ok A1 x.f1.length x.f1 := by
  obtain ⟨A1, c1, rfl, l1, _⟩ := k43_open (Kd.FK_now h)
  exact ⟨A1, c1, rfl, l1, (fun W' hW => by obtain ⟨A1_, c1_, he, l1_, g1_⟩ := k43_open (h W' hW); injection (Option.some.inj (show some (Value.slice A1 x.f1.length c1) = some (Value.slice A1_ x.f1.length c1_) from congrArg (fun l => l[1]?) he)) with ha_ _ _; rw [ha_]; exact g1_)⟩
theorem k43_mkF (W : World) (ok : Nat → Prop) (x : S43) {A1 : Option Addr} {c1 : Nat} (l1 : x.f1.length ≤ c1) (g1 : Kd.F (Kd.int .u8) W ok A1 x.f1.length x.f1) : Kd.FK k43 W ok x [.int .i64 x.f0, .slice A1 x.f1.length c1, .bool x.f2] := fun W2 hW => k43_mk W2 x l1 (g1 W2 hW)
def rd_T43 (xs : List S43) (i : Int) : S43 := xs.getD i.toNat z43
theorem at_T43 {w : World} {A : Option Addr} {n : Nat} {xs : List S43} (h : Kd.C k43 w A n xs) (i : Int) (h0 : 0 ≤ i) (h1 : i < n) : ∃ ad A1 c1, A = some ad ∧ w.cell? (ad.add (i.toNat * 3)) = some (.int .i64 (rd_T43 xs i).f0) ∧ w.cell? ⟨(ad.add (i.toNat * 3)).block, (ad.add (i.toNat * 3)).off + 1, none⟩ = some (.slice A1 (rd_T43 xs i).f1.length c1) ∧ w.cell? ⟨(ad.add (i.toNat * 3)).block, (ad.add (i.toNat * 3)).off + 2, none⟩ = some (.bool (rd_T43 xs i).f2) ∧ (rd_T43 xs i).f1.length ≤ c1 ∧ (Kd.int .u8).C w A1 (rd_T43 xs i).f1.length (rd_T43 xs i).f1 := by
  obtain ⟨ad, c, e, _, hK, hc0⟩ := Kd.C_get h z43 i h0 h1
  have hc : ∀ j u, c[j]? = some u → w.cell? (ad.add (i.toNat * 3 + j)) = some u := hc0
  obtain ⟨A1, c1, rfl, l1, g1⟩ := k43_open hK
  exact ⟨ad, A1, c1, e, hc 0 _ rfl, by rw [← add_field _ _ 1 (by omega)]; exact hc 1 _ rfl, by rw [← add_field _ _ 2 (by omega)]; exact hc 2 _ rfl, l1, g1⟩

/-! #### struct type 45 -/
structure S45 where
  f0 : Int
  f1 : (List Int)
  f2 : (List Int)
  f3 : Int
  f4 : Int
  f5 : Int
  f6 : S41
  f7 : S41
  f8 : S43
  f9 : S43
def z45 : S45 := ⟨(0 : Int), ([] : List Int), ([] : List Int), (0 : Int), (0 : Int), (0 : Int), z41, z41, z43, z43⟩
def k45 : Kd S45 := Kd.iso (Kd.pair (Kd.int .i64) (Kd.pair (Kd.slice 5 (Kd.int .u8)) (Kd.pair (Kd.slice 5 (Kd.int .u8)) (Kd.pair (Kd.int .i64) (Kd.pair (Kd.int .i64) (Kd.pair (Kd.int .i64) (Kd.pair k41 (Kd.pair k41 (Kd.pair k43 k43))))))))) (fun x : S45 => (x.f0, x.f1, x.f2, x.f3, x.f4, x.f5, x.f6, x.f7, x.f8, x.f9))
theorem k45_open {w : World} {x : S45} {cs : List Value} (h : k45.K w x cs) : ∃ A1 c1 A2 c2 A13 c13 A16 c16, cs = [.int .i64 x.f0, .slice A1 x.f1.length c1, .slice A2 x.f2.length c2, .int .i64 x.f3, .int .i64 x.f4, .int .i64 x.f5, .int .i64 x.f6.f0, .int .i64 x.f6.f1, .bool x.f6.f2, .int .i64 x.f7.f0, .int .i64 x.f7.f1, .bool x.f7.f2, .int .i64 x.f8.f0, .slice A13 x.f8.f1.length c13, .bool x.f8.f2, .int .i64 x.f9.f0, .slice A16 x.f9.f1.length c16, .bool x.f9.f2] ∧ x.f1.length ≤ c1 ∧ (Kd.int .u8).C w A1 x.f1.length x.f1 ∧ x.f2.length ≤ c2 ∧ (Kd.int .u8).C w A2 x.f2.length x.f2 ∧ x.f8.f1.length ≤ c13 ∧ (Kd.int .u8).C w A13 x.f8.f1.length x.f8.f1 ∧ x.f9.f1.length ≤ c16 ∧ (Kd.int .u8).C w A16 x.f9.f1.length x.f9.f1 := by
  obtain ⟨_, _, rfl, rfl, ⟨_, _, rfl, ⟨A1, c1, rfl, l1, g1⟩, ⟨_, _, rfl, ⟨A2, c2, rfl, l2, g2⟩, ⟨_, _, rfl, rfl, ⟨_, _, rfl, rfl, ⟨_, _, rfl, rfl, ⟨_, _, rfl, s6, ⟨_, _, rfl, s9, ⟨_, _, rfl, s12, s15⟩⟩⟩⟩⟩⟩⟩⟩⟩ := h
  obtain rfl := k41_open s6
  obtain rfl := k41_open s9
  obtain ⟨A13, c13, rfl, l13, g13⟩ := k43_open s12
  obtain ⟨A16, c16, rfl, l16, g16⟩ := k43_open s15
  exact ⟨A1, c1, A2, c2, A13, c13, A16, c16, rfl, l1, g1, l2, g2, l13, g13, l16, g16⟩
theorem k45_openM {w : World} {base : Nat} {ok : Nat → Prop} {x : S45} {cs : List Value} (h : k45.M w base ok x cs) : ∃ v1 v2 v13 v16, cs = [.int .i64 x.f0, v1, v2, .int .i64 x.f3, .int .i64 x.f4, .int .i64 x.f5, .int .i64 x.f6.f0, .int .i64 x.f6.f1, .bool x.f6.f2, .int .i64 x.f7.f0, .int .i64 x.f7.f1, .bool x.f7.f2, .int .i64 x.f8.f0, v13, .bool x.f8.f2, .int .i64 x.f9.f0, v16, .bool x.f9.f2] ∧ (Kd.int .u8).R 5 w base ok v1 x.f1 ∧ (Kd.int .u8).R 5 w base ok v2 x.f2 ∧ (Kd.int .u8).R 5 w base ok v13 x.f8.f1 ∧ (Kd.int .u8).R 5 w base ok v16 x.f9.f1 := by
  obtain ⟨_, _, rfl, rfl, ⟨_, _, rfl, ⟨v1, rfl, g1⟩, ⟨_, _, rfl, ⟨v2, rfl, g2⟩, ⟨_, _, rfl, rfl, ⟨_, _, rfl, rfl, ⟨_, _, rfl, rfl, ⟨_, _, rfl, s6, ⟨_, _, rfl, s9, ⟨_, _, rfl, s12, s15⟩⟩⟩⟩⟩⟩⟩⟩⟩ := h
  obtain rfl := k41_openM s6
  obtain rfl := k41_openM s9
  obtain ⟨v13, rfl, g13⟩ := k43_openM s12
  obtain ⟨v16, rfl, g16⟩ := k43_openM s15
  exact ⟨v1, v2, v13, v16, rfl, g1, g2, g13, g16⟩
theorem k45_mk (w : World) (x : S45) {A1 : Option Addr} {c1 : Nat} (l1 : x.f1.length ≤ c1) (g1 : (Kd.int .u8).C w A1 x.f1.length x.f1) {A2 : Option Addr} {c2 : Nat} (l2 : x.f2.length ≤ c2) (g2 : (Kd.int .u8).C w A2 x.f2.length x.f2) {A13 : Option Addr} {c13 : Nat} (l13 : x.f8.f1.length ≤ c13) (g13 : (Kd.int .u8).C w A13 x.f8.f1.length x.f8.f1) {A16 : Option Addr} {c16 : Nat} (l16 : x.f9.f1.length ≤ c16) (g16 : (Kd.int .u8).C w A16 x.f9.f1.length x.f9.f1) : k45.K w x [.int .i64 x.f0, .slice A1 x.f1.length c1, .slice A2 x.f2.length c2, .int .i64 x.f3, .int .i64 x.f4, .int .i64 x.f5, .int .i64 x.f6.f0, .int .i64 x.f6.f1, .bool x.f6.f2, .int .i64 x.f7.f0, .int .i64 x.f7.f1, .bool x.f7.f2, .int .i64 x.f8.f0, .slice A13 x.f8.f1.length c13, .bool x.f8.f2, .int .i64 x.f9.f0, .slice A16 x.f9.f1.length c16, .bool x.f9.f2] := ⟨[.int .i64 x.f0], [.slice A1 x.f1.length c1, .slice A2 x.f2.length c2, .int .i64 x.f3, .int .i64 x.f4, .int .i64 x.f5, .int .i64 x.f6.f0, .int .i64 x.f6.f1, .bool x.f6.f2, .int .i64 x.f7.f0, .int .i64 x.f7.f1, .bool x.f7.f2, .int .i64 x.f8.f0, .slice A13 x.f8.f1.length c13, .bool x.f8.f2, .int .i64 x.f9.f0, .slice A16 x.f9.f1.length c16, .bool x.f9.f2], rfl, rfl, ⟨[.slice A1 x.f1.length c1], [.slice A2 x.f2.length c2, .int .i64 x.f3, .int .i64 x.f4, .int .i64 x.f5, .int .i64 x.f6.f0, .int .i64 x.f6.f1, .bool x.f6.f2, .int .i64 x.f7.f0, .int .i64 x.f7.f1, .bool x.f7.f2, .int .i64 x.f8.f0, .slice A13 x.f8.f1.length c13, .bool x.f8.f2, .int .i64 x.f9.f0, .slice A16 x.f9.f1.length c16, .bool x.f9.f2], rfl, ⟨A1, c1, rfl, l1, g1⟩, ⟨[.slice A2 x.f2.length c2], [.int .i64 x.f3, .int .i64 x.f4, .int .i64 x.f5, .int .i64 x.f6.f0, .int .i64 x.f6.f1, .bool x.f6.f2, .int .i64 x.f7.f0, .int .i64 x.f7.f1, .bool x.f7.f2, .int .i64 x.f8.f0, .slice A13 x.f8.f1.length c13, .bool x.f8.f2, .int .i64 x.f9.f0, .slice A16 x.f9.f1.length c16, .bool x.f9.f2], rfl, ⟨A2, c2, rfl, l2, g2⟩, ⟨[.int .i64 x.f3], [.int .i64 x.f4, .int .i64 x.f5, .int .i64 x.f6.f0, .int .i64 x.f6.f1, .bool x.f6.f2, .int .i64 x.f7.f0, .int .i64 x.f7.f1, .bool x.f7.f2, .int .i64 x.f8.f0, .slice A13 x.f8.f1.length c13, .bool x.f8.f2, .int .i64 x.f9.f0, .slice A16 x.f9.f1.length c16, .bool x.f9.f2], rfl, rfl, ⟨[.int .i64 x.f4], [.int .i64 x.f5, .int .i64 x.f6.f0, .int .i64 x.f6.f1, .bool x.f6.f2, .int .i64 x.f7.f0, .int .i64 x.f7.f1, .bool x.f7.f2, .int .i64 x.f8.f0, .slice A13 x.f8.f1.length c13, .bool x.f8.f2, .int .i64 x.f9.f0, .slice A16 x.f9.f1.length c16, .bool x.f9.f2], rfl, rfl, ⟨[.int .i64 x.f5], [.int .i64 x.f6.f0, .int .i64 x.f6.f1, .bool x.f6.f2, .int .i64 x.f7.f0, .int .i64 x.f7.f1, .bool x.f7.f2, .int .i64 x.f8.f0, .slice A13 x.f8.f1.length c13, .bool x.f8.f2, .int .i64 x.f9.f0, .slice A16 x.f9.f1.length c16, .bool x.f9.f2], rfl, rfl, ⟨[.int .i64 x.f6.f0, .int .i64 x.f6.f1, .bool x.f6.f2], [.int .i64 x.f7.f0, .int .i64 x.f7.f1, .bool x.f7.f2, .int .i64 x.f8.f0, .slice A13 x.f8.f1.length c13, .bool x.f8.f2, .int .i64 x.f9.f0, .slice A16 x.f9.f1.length c16, .bool x.f9.f2], rfl, (k41_mk w x.f6 ), ⟨[.int .i64 x.f7.f0, .int .i64 x.f7.f1, .bool x.f7.f2], [.int .i64 x.f8.f0, .slice A13 x.f8.f1.length c13, .bool x.f8.f2, .int .i64 x.f9.f0, .slice A16 x.f9.f1.length c16, .bool x.f9.f2], rfl, (k41_mk w x.f7 ), ⟨[.int .i64 x.f8.f0, .slice A13 x.f8.f1.length c13, .bool x.f8.f2], [.int .i64 x.f9.f0, .slice A16 x.f9.f1.length c16, .bool x.f9.f2], rfl, (k43_mk w x.f8 l13 g13), (k43_mk w x.f9 l16 g16)⟩⟩⟩⟩⟩⟩⟩⟩⟩
theorem k45_mkM (w : World) (base : Nat) (ok : Nat → Prop) (x : S45) {v1 : Value} (g1 : (Kd.int .u8).R 5 w base ok v1 x.f1) {v2 : Value} (g2 : (Kd.int .u8).R 5 w base ok v2 x.f2) {v13 : Value} (g13 : (Kd.int .u8).R 5 w base ok v13 x.f8.f1) {v16 : Value} (g16 : (Kd.int .u8).R 5 w base ok v16 x.f9.f1) : k45.M w base ok x [.int .i64 x.f0, v1, v2, .int .i64 x.f3, .int .i64 x.f4, .int .i64 x.f5, .int .i64 x.f6.f0, .int .i64 x.f6.f1, .bool x.f6.f2, .int .i64 x.f7.f0, .int .i64 x.f7.f1, .bool x.f7.f2, .int .i64 x.f8.f0, v13, .bool x.f8.f2, .int .i64 x.f9.f0, v16, .bool x.f9.f2] := ⟨[.int .i64 x.f0], [v1, v2, .int .i64 x.f3, .int .i64 x.f4, .int .i64 x.f5, .int .i64 x.f6.f0, .int .i64 x.f6.f1, .bool x.f6.f2, .int .i64 x.f7.f0, .int .i64 x.f7.f1, .bool x.f7.f2, .int .i64 x.f8.f0, v13, .bool x.f8.f2, .int .i64 x.f9.f0, v16, .bool x.f9.f2], rfl, rfl, ⟨[v1], [v2, .int .i64 x.f3, .int .i64 x.f4, .int .i64 x.f5, .int .i64 x.f6.f0, .int .i64 x.f6.f1, .bool x.f6.f2, .int .i64 x.f7.f0, .int .i64 x.f7.f1, .bool x.f7.f2, .int .i64 x.f8.f0, v13, .bool x.f8.f2, .int .i64 x.f9.f0, v16, .bool x.f9.f2], rfl, ⟨v1, rfl, g1⟩, ⟨[v2], [.int .i64 x.f3, .int .i64 x.f4, .int .i64 x.f5, .int .i64 x.f6.f0, .int .i64 x.f6.f1, .bool x.f6.f2, .int .i64 x.f7.f0, .int .i64 x.f7.f1, .bool x.f7.f2, .int .i64 x.f8.f0, v13, .bool x.f8.f2, .int .i64 x.f9.f0, v16, .bool x.f9.f2], rfl, ⟨v2, rfl, g2⟩, ⟨[.int .i64 x.f3], [.int .i64 x.f4, .int .i64 x.f5, .int .i64 x.f6.f0, .int .i64 x.f6.f1, .bool x.f6.f2, .int .i64 x.f7.f0, .int .i64 x.f7.f1, .bool x.f7.f2, .int .i64 x.f8.f0, v13, .bool x.f8.f2, .int .i64 x.f9.f0, v16, .bool x.f9.f2], rfl, rfl, ⟨[.int .i64 x.f4], [.int .i64 x.f5, .int .i64 x.f6.f0, .int .i64 x.f6.f1, .bool x.f6.f2, .int .i64 x.f7.f0, .int .i64 x.f7.f1, .bool x.f7.f2, .int .i64 x.f8.f0, v13, .bool x.f8.f2, .int .i64 x.f9.f0, v16, .bool x.f9.f2], rfl, rfl, ⟨[.int .i64 x.f5], [.int .i64 x.f6.f0, .int .i64 x.f6.f1, .bool x.f6.f2, .int .i64 x.f7.f0, .int .i64 x.f7.f1, .bool x.f7.f2, .int .i64 x.f8.f0, v13, .bool x.f8.f2, .int .i64 x.f9.f0, v16, .bool x.f9.f2], rfl, rfl, ⟨[.int .i64 x.f6.f0, .int .i64 x.f6.f1, .bool x.f6.f2], [.int .i64 x.f7.f0, .int .i64 x.f7.f1, .bool x.f7.f2, .int .i64 x.f8.f0, v13, .bool x.f8.f2, .int .i64 x.f9.f0, v16, .bool x.f9.f2], rfl, (k41_mkM w base ok x.f6 ), ⟨[.int .i64 x.f7.f0, .int .i64 x.f7.f1, .bool x.f7.f2], [.int .i64 x.f8.f0, v13, .bool x.f8.f2, .int .i64 x.f9.f0, v16, .bool x.f9.f2], rfl, (k41_mkM w base ok x.f7 ), ⟨[.int .i64 x.f8.f0, v13, .bool x.f8.f2], [.int .i64 x.f9.f0, v16, .bool x.f9.f2], rfl, (k43_mkM w base ok x.f8 g13), (k43_mkM w base ok x.f9 g16)⟩⟩⟩⟩⟩⟩⟩⟩⟩
theorem k45_openF {W : World} {ok : Nat → Prop} {x : S45} {cs : List Value} (h : Kd.FK k45 W ok x cs) : ∃ A1 c1 A2 c2 A13 c13 A16 c16, cs = [.int .i64 x.f0, .slice A1 x.f1.length c1, .slice A2 x.f2.length c2, .int .i64 x.f3, .int .i64 x.f4, .int .i64 x.f5, .int .i64 x.f6.f0, .int .i64 x.f6.f1, .bool x.f6.f2, .int .i64 x.f7.f0, .int .i64 x.f7.f1, .bool x.f7.f2, .int .i64 x.f8.f0, .slice A13 x.f8.f1.length c13, .bool x.f8.f2, .int .i64 x.f9.f0, .slice A16 x.f9.f1.length c16, .bool x.f9.f2] ∧ x.f1.length ≤ c1 ∧ Kd.F (Kd.int .u8) W ok A1 x.f1.length x.f1 ∧ x.f2.length ≤ c2 ∧ Kd.F (Kd.int .u8) W ok A2 x.f2.length x.f2 ∧ x.f8.f1.length ≤ c13 ∧ Kd.F (Kd.int .u8) W ok A13 x.f8.f1.length x.f8.f1 ∧ x.f9.f1.length ≤ c16 ∧ Kd.F (Kd.int .u8) W ok A16 x.f9.f1.length x.f9.f1 := by
  obtain ⟨A1, c1, A2, c2, A13, c13, A16, c16, rfl, l1, _, l2, _, l13, _, l16, _⟩ := k45_open (Kd.FK_now h)
  exact ⟨A1, c1, A2, c2, A13, c13, A16, c16, rfl, l1, (fun W' hW => by obtain ⟨A1_, c1_, A2_, c2_, A13_, c13_, A16_, c16_, he, l1_, g1_, l2_, g2_, l13_, g13_, l16_, g16_⟩ := k45_open (h W' hW); injection (Option.some.inj (show some (Value.slice A1 x.f1.length c1) = some (Value.slice A1_ x.f1.length c1_) from congrArg (fun l => l[1]?) he)) with ha_ _ _; rw [ha_]; exact g1_), l2, (fun W' hW => by obtain ⟨A1_, c1_, A2_, c2_, A13_, c13_, A16_, c16_, he, l1_, g1_, l2_, g2_, l13_, g13_, l16_, g16_⟩ := k45_open (h W' hW); injection (Option.some.inj (show some (Value.slice A2 x.f2.length c2) = some (Value.slice A2_ x.f2.length c2_) from congrArg (fun l => l[2]?) he)) with ha_ _ _; rw [ha_]; exact g2_), l13, (fun W' hW => by obtain ⟨A1_, c1_, A2_, c2_, A13_, c13_, A16_, c16_, he, l1_, g1_, l2_, g2_, l13_, g13_, l16_, g16_⟩ := k45_open (h W' hW); injection (Option.some.inj (show some (Value.slice A13 x.f8.f1.length c13) = some (Value.slice A13_ x.f8.f1.length c13_) from congrArg (fun l => l[13]?) he)) with ha_ _ _; rw [ha_]; exact g13_), l16, (fun W' hW => by obtain ⟨A1_, c1_, A2_, c2_, A13_, c13_, A16_, c16_, he, l1_, g1_, l2_, g2_, l13_, g13_, l16_, g16_⟩ := k45_open (h W' hW); injection (Option.some.inj (show some (Value.slice A16 x.f9.f1.length c16) = some (Value.slice A16_ x.f9.f1.length c16_) from congrArg (fun l => l[16]?) he)) with ha_ _ _; rw [ha_]; exact g16_)⟩
theorem k45_mkF (W : World) (ok : Nat → Prop) (x : S45) {A1 : Option Addr} {c1 : Nat} (l1 : x.f1.length ≤ c1) (g1 : Kd.F (Kd.int .u8) W ok A1 x.f1.length x.f1) {A2 : Option Addr} {c2 : Nat} (l2 : x.f2.length ≤ c2) (g2 : Kd.F (Kd.int .u8) W ok A2 x.f2.length x.f2) {A13 : Option Addr} {c13 : Nat} (l13 : x.f8.f1.length ≤ c13) (g13 : Kd.F (Kd.int .u8) W ok A13 x.f8.f1.length x.f8.f1) {A16 : Option Addr} {c16 : Nat} (l16 : x.f9.f1.length ≤ c16) (g16 : Kd.F (Kd.int .u8) W ok A16 x.f9.f1.length x.f9.f1) : Kd.FK k45 W ok x [.int .i64 x.f0, .slice A1 x.f1.length c1, .slice A2 x.f2.length c2, .int .i64 x.f3, .int .i64 x.f4, .int .i64 x.f5, .int .i64 x.f6.f0, .int .i64 x.f6.f1, .bool x.f6.f2, .int .i64 x.f7.f0, .int .i64 x.f7.f1, .bool x.f7.f2, .int .i64 x.f8.f0, .slice A13 x.f8.f1.length c13, .bool x.f8.f2, .int .i64 x.f9.f0, .slice A16 x.f9.f1.length c16, .bool x.f9.f2] := fun W2 hW => k45_mk W2 x l1 (g1 W2 hW) l2 (g2 W2 hW) l13 (g13 W2 hW) l16 (g16 W2 hW)
def rd_T45 (xs : List S45) (i : Int) : S45 := xs.getD i.toNat z45
theorem at_T45 {w : World} {A : Option Addr} {n : Nat} {xs : List S45} (h : Kd.C k45 w A n xs) (i : Int) (h0 : 0 ≤ i) (h1 : i < n) : ∃ ad A1 c1 A2 c2 A13 c13 A16 c16, A = some ad ∧ w.cell? (ad.add (i.toNat * 18)) = some (.int .i64 (rd_T45 xs i).f0) ∧ w.cell? ⟨(ad.add (i.toNat * 18)).block, (ad.add (i.toNat * 18)).off + 1, none⟩ = some (.slice A1 (rd_T45 xs i).f1.length c1) ∧ w.cell? ⟨(ad.add (i.toNat * 18)).block, (ad.add (i.toNat * 18)).off + 2, none⟩ = some (.slice A2 (rd_T45 xs i).f2.length c2) ∧ w.cell? ⟨(ad.add (i.toNat * 18)).block, (ad.add (i.toNat * 18)).off + 3, none⟩ = some (.int .i64 (rd_T45 xs i).f3) ∧ w.cell? ⟨(ad.add (i.toNat * 18)).block, (ad.add (i.toNat * 18)).off + 4, none⟩ = some (.int .i64 (rd_T45 xs i).f4) ∧ w.cell? ⟨(ad.add (i.toNat * 18)).block, (ad.add (i.toNat * 18)).off + 5, none⟩ = some (.int .i64 (rd_T45 xs i).f5) ∧ w.cell? ⟨(ad.add (i.toNat * 18)).block, (ad.add (i.toNat * 18)).off + 6, none⟩ = some (.int .i64 (rd_T45 xs i).f6.f0) ∧ w.cell? ⟨(ad.add (i.toNat * 18)).block, (ad.add (i.toNat * 18)).off + 7, none⟩ = some (.int .i64 (rd_T45 xs i).f6.f1) ∧ w.cell? ⟨(ad.add (i.toNat * 18)).block, (ad.add (i.toNat * 18)).off + 8, none⟩ = some (.bool (rd_T45 xs i).f6.f2) ∧ w.cell? ⟨(ad.add (i.toNat * 18)).block, (ad.add (i.toNat * 18)).off + 9, none⟩ = some (.int .i64 (rd_T45 xs i).f7.f0) ∧ w.cell? ⟨(ad.add (i.toNat * 18)).block, (ad.add (i.toNat * 18)).off + 10, none⟩ = some (.int .i64 (rd_T45 xs i).f7.f1) ∧ w.cell? ⟨(ad.add (i.toNat * 18)).block, (ad.add (i.toNat * 18)).off + 11, none⟩ = some (.bool (rd_T45 xs i).f7.f2) ∧ w.cell? ⟨(ad.add (i.toNat * 18)).block, (ad.add (i.toNat * 18)).off + 12, none⟩ = some (.int .i64 (rd_T45 xs i).f8.f0) ∧ w.cell? ⟨(ad.add (i.toNat * 18)).block, (ad.add (i.toNat * 18)).off + 13, none⟩ = some (.slice A13 (rd_T45 xs i).f8.f1.length c13) ∧ w.cell? ⟨(ad.add (i.toNat * 18)).block, (ad.add (i.toNat * 18)).off + 14, none⟩ = some (.bool (rd_T45 xs i).f8.f2) ∧ w.cell? ⟨(ad.add (i.toNat * 18)).block, (ad.add (i.toNat * 18)).off + 15, none⟩ = some (.int .i64 (rd_T45 xs i).f9.f0) ∧ w.cell? ⟨(ad.add (i.toNat * 18)).block, (ad.add (i.toNat * 18)).off + 16, none⟩ = some (.slice A16 (rd_T45 xs i).f9.f1.length c16) ∧ w.cell? ⟨(ad.add (i.toNat * 18)).block, (ad.add (i.toNat * 18)).off + 17, none⟩ = some (.bool (rd_T45 xs i).f9.f2) ∧ (rd_T45 xs i).f1.length ≤ c1 ∧ (Kd.int .u8).C w A1 (rd_T45 xs i).f1.length (rd_T45 xs i).f1 ∧ (rd_T45 xs i).f2.length ≤ c2 ∧ (Kd.int .u8).C w A2 (rd_T45 xs i).f2.length (rd_T45 xs i).f2 ∧ (rd_T45 xs i).f8.f1.length ≤ c13 ∧ (Kd.int .u8).C w A13 (rd_T45 xs i).f8.f1.length (rd_T45 xs i).f8.f1 ∧ (rd_T45 xs i).f9.f1.length ≤ c16 ∧ (Kd.int .u8).C w A16 (rd_T45 xs i).f9.f1.length (rd_T45 xs i).f9.f1 := by
  obtain ⟨ad, c, e, _, hK, hc0⟩ := Kd.C_get h z45 i h0 h1
  have hc : ∀ j u, c[j]? = some u → w.cell? (ad.add (i.toNat * 18 + j)) = some u := hc0
  obtain ⟨A1, c1, A2, c2, A13, c13, A16, c16, rfl, l1, g1, l2, g2, l13, g13, l16, g16⟩ := k45_open hK
  exact ⟨ad, A1, c1, A2, c2, A13, c13, A16, c16, e, hc 0 _ rfl, by rw [← add_field _ _ 1 (by omega)]; exact hc 1 _ rfl, by rw [← add_field _ _ 2 (by omega)]; exact hc 2 _ rfl, by rw [← add_field _ _ 3 (by omega)]; exact hc 3 _ rfl, by rw [← add_field _ _ 4 (by omega)]; exact hc 4 _ rfl, by rw [← add_field _ _ 5 (by omega)]; exact hc 5 _ rfl, by rw [← add_field _ _ 6 (by omega)]; exact hc 6 _ rfl, by rw [← add_field _ _ 7 (by omega)]; exact hc 7 _ rfl, by rw [← add_field _ _ 8 (by omega)]; exact hc 8 _ rfl, by rw [← add_field _ _ 9 (by omega)]; exact hc 9 _ rfl, by rw [← add_field _ _ 10 (by omega)]; exact hc 10 _ rfl, by rw [← add_field _ _ 11 (by omega)]; exact hc 11 _ rfl, by rw [← add_field _ _ 12 (by omega)]; exact hc 12 _ rfl, by rw [← add_field _ _ 13 (by omega)]; exact hc 13 _ rfl, by rw [← add_field _ _ 14 (by omega)]; exact hc 14 _ rfl, by rw [← add_field _ _ 15 (by omega)]; exact hc 15 _ rfl, by rw [← add_field _ _ 16 (by omega)]; exact hc 16 _ rfl, by rw [← add_field _ _ 17 (by omega)]; exact hc 17 _ rfl, l1, g1, l2, g2, l13, g13, l16, g16⟩

end Go.Proofs.YtdflblegdfpdpaaDoor.PE
