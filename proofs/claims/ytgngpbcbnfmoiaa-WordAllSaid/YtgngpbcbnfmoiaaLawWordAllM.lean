-- JOINED by tailmerge.py: TextW PBx0 PBx1 PBx SpellF NumbersW PlayN POx0 POx1 POx AllP LawWordAll
import Derived.Test.YtgngpbcbnfmoiaaDigW
import Derived.Test.YtgngpbcbnfmoiaaNumT
import Derived.Lib.ConvBytes
import Derived.Lib.SlBytesConst
import Derived.Lib.Hide
import Derived.Test.YtgngpbcbnfmoiaaProg
import Derived.Below
import Derived.Deep.Draws
import Derived.Deep.AppendLies
import Derived.Maps.AppendAt
import Derived.OwnWalk
import Derived.Laws.BytesArg
import Derived.Laws.MakeOwn
import Derived.Laws.OwnMore
import Derived.Deep.OwnRows
import Derived.Tactics
import Derived.Laws.Slices
import Derived.WalkKit
import Derived.KernelRfl
import Derived.RowKit3
import Derived.Deep.LoopGhost
import Derived.Deep.QuietTactic
import Derived.BigQuiet
import Derived.WideLaws
import Derived.Deep.DeepCutAuto
import Derived.Deep.CutBlock
import Derived.Deep.RegionHeld3
import Derived.Laws.Rows
import Derived.Lib.AppendStr
import Derived.ArgAppend
import Derived.Laws.IdiomCopy
import Derived.OrdersHeld
import Derived.Laws.BitsLemmas
import Derived.RowKit
import Derived.Test.YtgngpbcbnfmoiaaHeadW
import Derived.Test.YtgngpbcbnfmoiaaWWords
import Derived.Test.YtgngpbcbnfmoiaaWLast
import Derived.Test.YtgngpbcbnfmoiaaWTab
import Derived.Test.YtgngpbcbnfmoiaaWFour
import Derived.Test.YtgngpbcbnfmoiaaWQPut
import Derived.Test.YtgngpbcbnfmoiaaWApart
import Derived.Test.YtgngpbcbnfmoiaaWArr
import Derived.Test.YtgngpbcbnfmoiaaWZeros
import Derived.Test.YtgngpbcbnfmoiaaWFoot
import Derived.Test.YtgngpbcbnfmoiaaWKept
import Derived.Test.YtgngpbcbnfmoiaaWShare
import Derived.Test.YtgngpbcbnfmoiaaWN
import Derived.Test.YtgngpbcbnfmoiaaWFootNe
import Derived.Test.YtgngpbcbnfmoiaaWAt
import Derived.Test.YtgngpbcbnfmoiaaWEqStruct
import Derived.Test.YtgngpbcbnfmoiaaWRepsOne
import Derived.Test.YtgngpbcbnfmoiaaWInv
import Derived.Test.YtgngpbcbnfmoiaaWInvWords
import Derived.Test.YtgngpbcbnfmoiaaWGuard
import Derived.Test.YtgngpbcbnfmoiaaWNEv
import Derived.Test.YtgngpbcbnfmoiaaWMore
import Derived.Test.YtgngpbcbnfmoiaaPDm
import Derived.Test.YtgngpbcbnfmoiaaRefT
import Derived.Test.YtgngpbcbnfmoiaaPackW
import Derived.Test.YtgngpbcbnfmoiaaPlayQ
import Derived.Test.YtgngpbcbnfmoiaaPlayH
import Derived.Test.YtgngpbcbnfmoiaaArgsW
import Derived.Test.YtgngpbcbnfmoiaaRows
import Derived.ProofKit
import Derived.OpenShut
import Derived.ShutString
import Derived.ChangeOld
import Derived.SizedLaws

section
/- larderref1.Text: the machine's call answers textL. -/
namespace Go.Proofs.Ytgngpbcbnfmoiaa.TextW
open Go Go.RowKit Go.Proofs.YtgngpbcbnfmoiaaW.PrintWords Go.Proofs.YtgngpbcbnfmoiaaW.PrintLast Go.Proofs.YtgngpbcbnfmoiaaW.PrintMore Go.Proofs.Ytgngpbcbnfmoiaa.PA Go.Proofs.Ytgngpbcbnfmoiaa.NumT
set_option linter.unusedVariables false

/-- A list that can be read. -/
def GotB (w' : World) (v : Value) (l : List Int) : Prop := ∃ A c, v = .slice A l.length c ∧ l.length ≤ c ∧ Kd.C (Kd.int .u8) w' A l.length l

theorem str_cons (x : Int) (l : List Int) : strOfNums [x] ++ strOfNums l = strOfNums (x :: l) := by
  apply ByteArray.ext
  simp [strOfNums]
theorem tdiv_neg10 (a : Nat) : Int.tdiv (-(a : Int)) 10 = -((a / 10 : Nat) : Int) := by
  rw [Int.neg_tdiv]; rfl
theorem tmod_neg10 (a : Nat) : Int.tmod (-(a : Int)) 10 = -((a % 10 : Nat) : Int) := by
  rw [Int.neg_tmod]; rfl
theorem wrap_q (a : Nat) (h : a ≤ 9223372036854775808) : wrap64 (-((a : Int) / 10)) = -((a / 10 : Nat) : Int) := by unfold wrap64; omega
theorem below_bytes {w W : World} (h : Below w.heap.size w W) (e : TypeId) (s : ByteArray) : Below w.heap.size w (Lib.bytesWorld W e s) := by
  refine ⟨?_, ?_, ?_, ?_, ?_⟩
  · exact h.os
  · exact h.tape
  · exact h.output
  · rw [Lib.bytesWorld_size]; exact Nat.le_succ_of_le h.size
  · intro k hk
    rw [Lib.bytesWorld_at_old W e s k (Nat.lt_of_lt_of_le hk h.size)]
    exact h.block k hk
theorem got_bytes (W : World) (l : List Int) (hl : ∀ c ∈ l, 0 ≤ c ∧ c < 256) (cap : Nat) (hc : l.length ≤ cap) (hn : l.length ≤ 22) : GotB (Lib.bytesWorld W 5 (strOfNums l)) (.slice (some ⟨W.heap.size, 0, none⟩) (strOfNums l).size cap) l := by
  refine ⟨_, cap, by rw [strOfNums_size], hc, ?_⟩
  refine ⟨rfl, by omega, fun _ => ⟨_, rfl, fun i p hp => ⟨[.int .u8 p], rfl, rfl, fun u x hx => ?_⟩⟩⟩
  obtain ⟨hi, hp'⟩ := List.getElem?_eq_some_iff.1 hp
  cases u with
  | zero =>
    injection hx with hx
    subst hx
    have := Lib.bytesWorld_cell W 5 (strOfNums l) i (by rw [strOfNums_size]; exact hi)
    rw [show (Kd.int .u8).sz = 1 from rfl, Nat.mul_one, Nat.add_zero, show (⟨W.heap.size, 0, none⟩ : Addr).add i = ⟨W.heap.size, 0 + i, none⟩ from add_off _ _ _, Nat.zero_add, this]
    rw [strOfNums_data, List.getD_eq_getElem?_getD, List.getElem?_map, hp]
    have h2 := hl p (hp' ▸ List.getElem_mem hi)
    simp only [Option.map_some, Option.getD_some, UInt8.toNat_ofNat']
    rw [show ((p.toNat % 2 ^ 8 : Nat) : Int) = p by omega]
  | succ u => simp at hx

theorem digits_le (n : Nat) : ∀ c ∈ digitsL n, 0 ≤ c ∧ c < 256 := fun c hc => by have := digits_dig n c hc; omega

theorem got_one (W : World) (x : Int) (m : Nat × Nat) : GotB (W.alloc (.cells #[.int .u8 x] 5 m)) (.slice (some ⟨W.heap.size, 0, none⟩) 1 1) [x] := by
  refine ⟨_, 1, rfl, by simp, ?_⟩
  refine ⟨rfl, by simp, fun _ => ⟨_, rfl, fun i p hp => ⟨[.int .u8 p], rfl, rfl, fun u y hy => ?_⟩⟩⟩
  obtain ⟨hi, hp'⟩ := List.getElem?_eq_some_iff.1 hp
  have hi0 : i = 0 := by simpa using hi
  subst hi0
  cases u with
  | zero =>
    injection hy with hy
    subst hy
    have hp2 : x = p := by simpa using hp'
    subst hp2
    rw [show (Kd.int .u8).sz = 1 from rfl, Nat.mul_one, Nat.add_zero, show (⟨W.heap.size, 0, none⟩ : Addr).add 0 = ⟨W.heap.size, 0 + 0, none⟩ from add_off _ _ _]
    simp [World.cell?, World.alloc, -World.alloc_eq]
  | succ u => simp at hy

/-- Behind some rounds: a is still to be spelled. -/
def TInv (n0 a : Nat) (L : List Int) : Prop := (0 < a → digitsL n0 = digitsL a ++ L) ∧ (a = 0 → digitsL n0 = L)
theorem TInv.step {n0 a : Nat} {L : List Int} (h : TInv n0 a L) (ha : 0 < a) : TInv n0 (a / 10) (((48 + a % 10 : Nat) : Int) :: L) := by
  have h1 := h.1 ha
  by_cases c : a < 10
  · rw [digitsL_small c] at h1
    refine ⟨fun h0 => by omega, fun _ => ?_⟩
    rw [h1, show a % 10 = a by omega]; rfl
  · rw [digitsL_great c] at h1
    refine ⟨fun _ => ?_, fun h0 => by omega⟩
    rw [h1, List.append_assoc]; rfl

theorem TInv.len {n0 a : Nat} {L : List Int} (h : TInv n0 a L) (hd : (digitsL n0).length ≤ 21) : L.length ≤ 21 := by
  rcases Nat.eq_zero_or_pos a with c | c
  · rw [← h.2 c]; exact hd
  · rw [h.1 c, List.length_append] at hd; omega

set_option maxHeartbeats 1600000 in
set_option maxRecDepth 100000 in
theorem ref_Text.calls (a0 : Int) (w : World) (h : -9223372036854775808 ≤ a0 ∧ a0 < 9223372036854775808) :
    Calls Try.prog 45 #[.int .i64 a0] w fun e w' => ∃ v : Value, e = .returned v ∧ GotB w' v (textL a0) ∧ Below w.heap.size w w' := by
  by_cases hz : a0 = 0
  · subst hz
    have hcc := fun (W : World) (C : Array Value) (n c : Nat) => Lib.run_convert_bytes_const (P := Try.prog) W 22 5 C n c Try.underlying22 Try.underlying5
    go_enter Try.func45, Try.ntmps45
    go_wp2
    go_ret
    have ht : textL 0 = [48] := by unfold textL; rw [if_neg (by omega)]; exact digitsL_small (by decide)
    exact ⟨_, rfl, by rw [ht]; exact got_one w 48 _, (Below.refl _ _).alloc (Nat.le_refl _) _⟩
  · have hlen := textL_len a0 h
    have hin := textL_in a0
    have HL := Lib.hid hlen
    have HI := Lib.hid hin
    clear hlen hin
    obtain ⟨n0, hn0⟩ : ∃ n0 : Nat, n0 = a0.natAbs := ⟨_, rfl⟩
    have hz1 : (a0 == 0) = false := by simpa using hz
    have hcs := fun (W : World) (s : ByteArray) => Lib.run_convert_string_bytes (P := Try.prog) W 9 22 5 s Try.underlying9 Try.underlying22 Try.underlying5
    have hcv := fun (W : World) (X : Int) => (show (convert 22 9 (.slice (some ⟨W.heap.size, 0, none⟩) 1 1)).run Try.prog (W.alloc (.cells #[.int .u8 X] 5)) = .ok (.string (strOfNums [X])) (W.alloc (.cells #[.int .u8 X] 5)) from by
      obtain ⟨A, c, hv, _, hC⟩ := got_one W X (0, 0)
      injection hv with e1 e2 e3
      have := Kd.C_string (P := Try.prog) (A := A) (c := c) Try.underlying22 Try.underlying5 Try.underlying9 hC
      rw [← e1, ← e3] at this
      exact this)
    have hcat := str_cons
    by_cases hs : a0 > 0
    · have hs1 : decide (0 < a0) = true := decide_eq_true hs
      have hs2 : decide (a0 < 0) = false := decide_eq_false (by omega)
      have hw : wrap64 (-a0) = -(n0 : Int) := by unfold wrap64; omega
      have ht : textL a0 = digitsL n0 := by unfold textL; rw [if_neg (by omega)]; congr 1; omega
      have hd : (digitsL n0).length ≤ 21 := ht ▸ HL.out
      have HD := Lib.hid hd
      have h0 : 0 < n0 := by omega
      have hn1 : n0 ≤ 9223372036854775808 := by omega
      have HN := Lib.hid hn1
      clear hn1
      have Hw := Lib.hid hw
      have Ht := Lib.hid ht
      clear hw ht hn0 hs hz h hd
      go_enter Try.func45, Try.ntmps45
      go_wp2
      go_loopw [3, 4] (fun v3 v4 wr => ∃ (a : Nat) (L : List Int), v3 = .int .i64 (-(a : Int)) ∧ v4 = .string (strOfNums L) ∧ a ≤ n0 ∧ Aside0 (TInv n0 a L) ∧ Aside0 (Below w.heap.size w wr)) (fun v3 v4 wr => (intOf v3).natAbs)
      case atStart => exact ⟨n0, [], by rw [← Hw.out], rfl, Nat.le_refl _, ⟨⟨fun _ => by simp, fun c => by omega⟩⟩, ⟨Below.refl _ _⟩⟩
      case round =>
        obtain ⟨a, L, rfl, rfl, ha, HT, HB⟩ := hrel
        rcases Nat.eq_zero_or_pos a with rfl | hap
        · have hc1 : decide (-((0 : Nat) : Int) < 0) = false := rfl
          go_wp2
          go_ret
          refine ⟨_, rfl, ?_, below_bytes HB.out _ _⟩
          rw [Ht.out, HT.out.2 rfl]
          exact got_bytes _ L (by rw [← HT.out.2 rfl, ← Ht.out]; exact HI.out) _ (by rw [← strOfNums_size]; exact grownCap_ge _ _ _ _) (by rw [← HT.out.2 rfl]; exact Nat.le_trans HD.out (by decide))
        · have hc1 : decide (-(a : Int) < 0) = true := decide_eq_true (by omega)
          have HA := Lib.hid hap
          have hL := HT.out.len HD.out
          have HLL := Lib.hid hL
          clear hap hL
          go_wp2
          case isTrue =>
            rename_i hbad
            exact absurd hbad (by rw [strOfNums_size, strOfNums_size]; have := HLL.out; simp only [List.length_cons, List.length_nil]; omega)
          go_roundw
          case rel =>
            have hap := HA.out
            refine ⟨a / 10, ((48 + a % 10 : Nat) : Int) :: L, ?_, ?_, by omega, ⟨HT.out.step hap⟩, ⟨(HB.out).alloc HB.out.size _⟩⟩
            · exact congrArg (Value.int .i64) (wrap_q a (Nat.le_trans ha HN.out))
            · rfl
          case measure => have hap := HA.out; rw [wrap_q a (Nat.le_trans ha HN.out)]; simp only [intOf, Int.natAbs_neg, Int.natAbs_natCast]; omega
    · have hs1 : decide (0 < a0) = false := decide_eq_false hs
      have hs2 : decide (a0 < 0) = true := decide_eq_true (by omega)
      have hw : a0 = -(n0 : Int) := by omega
      have ht : textL a0 = 45 :: digitsL n0 := by unfold textL; rw [if_pos (by omega), hn0]
      have hd : (digitsL n0).length ≤ 21 := by have := HL.out; rw [ht, List.length_cons] at this; omega
      have HD := Lib.hid hd
      have h0 : 0 < n0 := by omega
      have hn1 : n0 ≤ 9223372036854775808 := by omega
      have HN := Lib.hid hn1
      clear hn1
      have Hw := Lib.hid hw
      have Ht := Lib.hid ht
      clear hw ht hn0 hs hz h hd
      have h45 := fun L : List Int => (show (⟨#[45]⟩ : ByteArray) ++ strOfNums L = strOfNums (45 :: L) from str_cons 45 L)
      go_enter Try.func45, Try.ntmps45
      go_wp2
      go_loopw [3, 4] (fun v3 v4 wr => ∃ (a : Nat) (L : List Int), v3 = .int .i64 (-(a : Int)) ∧ v4 = .string (strOfNums L) ∧ a ≤ n0 ∧ Aside0 (TInv n0 a L) ∧ Aside0 (Below w.heap.size w wr)) (fun v3 v4 wr => (intOf v3).natAbs)
      case atStart => exact ⟨n0, [], by rw [← Hw.out], rfl, Nat.le_refl _, ⟨⟨fun _ => by simp, fun c => by omega⟩⟩, ⟨Below.refl _ _⟩⟩
      case round =>
        obtain ⟨a, L, rfl, rfl, ha, HT, HB⟩ := hrel
        rcases Nat.eq_zero_or_pos a with rfl | hap
        · have hc1 : decide (-((0 : Nat) : Int) < 0) = false := rfl
          go_wp2
          case isTrue =>
            rename_i hbad
            have h9 := HD.out
            rw [HT.out.2 rfl] at h9
            exact absurd hbad (by rw [strOfNums_size]; show ¬ (9223372036854775807 < 1 + L.length); omega)
          go_ret
          refine ⟨_, rfl, ?_, below_bytes HB.out _ _⟩
          rw [Ht.out, HT.out.2 rfl]
          exact got_bytes _ (45 :: L) (by rw [← HT.out.2 rfl, ← Ht.out]; exact HI.out) _ (by rw [← strOfNums_size]; exact grownCap_ge _ _ _ _) (by rw [List.length_cons, ← HT.out.2 rfl]; have := HD.out; omega)
        · have hc1 : decide (-(a : Int) < 0) = true := decide_eq_true (by omega)
          have HA := Lib.hid hap
          have hL := HT.out.len HD.out
          have HLL := Lib.hid hL
          clear hap hL
          go_wp2
          case isTrue =>
            rename_i hbad
            exact absurd hbad (by rw [strOfNums_size, strOfNums_size]; have := HLL.out; simp only [List.length_cons, List.length_nil]; omega)
          go_roundw
          case rel =>
            have hap := HA.out
            refine ⟨a / 10, ((48 + a % 10 : Nat) : Int) :: L, ?_, ?_, by omega, ⟨HT.out.step hap⟩, ⟨(HB.out).alloc HB.out.size _⟩⟩
            · exact congrArg (Value.int .i64) (wrap_q a (Nat.le_trans ha HN.out))
            · rfl
          case measure => have hap := HA.out; rw [wrap_q a (Nat.le_trans ha HN.out)]; simp only [intOf, Int.natAbs_neg, Int.natAbs_natCast]; omega
end Go.Proofs.Ytgngpbcbnfmoiaa.TextW
end

section
-- PRINTED by print.py (a twelfth state) out of the translation. Not trusted: Lean checks it.
namespace Go.Proofs.Ytgngpbcbnfmoiaa.PB
open Go.RowKit Go.Proofs.YtgngpbcbnfmoiaaW.PrintWords Go.Proofs.YtgngpbcbnfmoiaaW.PrintLast Go.Proofs.YtgngpbcbnfmoiaaW.PrintMore
attribute [local go_sem] max2_int min2_int max_two min_two max_three min_three max_four min_four   -- for this text's walks alone
open Go.Proofs.Ytgngpbcbnfmoiaa.PA
set_option linter.unusedVariables false
set_option linter.unusedSimpArgs false



def errW : Option Int → Value
  | none => .nilIface
  | some c => .iface 0 (.int .i64 c)
theorem errW_none : errW none = .nilIface := rfl
theorem errW_some (c : Int) : errW (some c) = .iface 0 (.int .i64 c) := rfl

theorem info5 : (Try.prog.info? 5).map (fun i => (i.zero, i.size, i.bytes)) = some (some (.int .u8 0), 1, 1) := by kernel_rfl
-- the values' own types

end Go.Proofs.Ytgngpbcbnfmoiaa.PB
end

section
-- PRINTED by print.py (a twelfth state) out of the translation. Not trusted: Lean checks it.
namespace Go.Proofs.Ytgngpbcbnfmoiaa.PB
open Go.RowKit Go.Proofs.YtgngpbcbnfmoiaaW.PrintWords Go.Proofs.YtgngpbcbnfmoiaaW.PrintLast Go.Proofs.YtgngpbcbnfmoiaaW.PrintMore
attribute [local go_sem] max2_int min2_int max_two min_two max_three min_three max_four min_four   -- for this text's walks alone
open Go.Proofs.Ytgngpbcbnfmoiaa.PA
set_option linter.unusedVariables false
set_option linter.unusedSimpArgs false

/-! ### word_Text: function 33 -/
def word_Text.f (a0 : Int) : Option (List Int) := if a0 < 0 then ((some (([45] : List Int) : List Int)).bind fun y101 => ((word_Digits.f (IntKind.u64.wrap (-(IntKind.u64.wrap (a0))))).bind fun t104 => (if y101.length + t104.length < 140737488355328 then (some (y101 ++ t104)) else (none)))) else ((word_Digits.f (IntKind.u64.wrap (a0))).bind fun t110 => (some t110))
set_option maxHeartbeats 8000000 in
set_option maxRecDepth 100000 in
theorem word_Text.calls (a0 : Int) (r : List Int) (w : World) (h : word_Text.f a0 = some r) :
    Calls Try.prog 33 #[.int .i64 a0] w fun e w' => ∃ v0_ : Value, e = .returned (v0_) ∧ Kd.R (Kd.int .u8) 5 w' w.heap.size (fun _ => True) v0_ r ∧ Below w.heap.size w w' := by
  have HB := Aside0.mk (Below.refl w.heap.size w)
  have H : (if a0 < 0 then ((some (([45] : List Int) : List Int)).bind fun y101 => ((word_Digits.f (IntKind.u64.wrap (-(IntKind.u64.wrap (a0))))).bind fun t104 => (if y101.length + t104.length < 140737488355328 then (some (y101 ++ t104)) else (none)))) else ((word_Digits.f (IntKind.u64.wrap (a0))).bind fun t110 => (some t110))) = some r := h
  clear h
  by_cases c2 : a0 < 0
  · rw [if_pos c2] at H
    have c2b0 : decide (a0 < 0) = true := decide_eq_true c2
    clear c2
    obtain ⟨y101, hy101⟩ : ∃ y_ : List Int, y_ = (([45] : List Int)) := ⟨_, rfl⟩
    replace H : ((word_Digits.f (IntKind.u64.wrap (-(IntKind.u64.wrap (a0))))).bind fun t104 => (if y101.length + t104.length < 140737488355328 then (some (y101 ++ t104)) else (none))) = some r := by first | (rw [hy101]; with_reducible exact H) | (have H2_ := (Option.bind_some _ _).symm.trans H; rw [hy101]; with_reducible exact H2_) | (have H2_ := (Option.bind_some _ _).symm.trans H; with_reducible exact H2_) | with_reducible exact H | (rw [hy101]; exact H) | exact H
    have Ny101 := Aside0.mk hy101
    clear hy101
    replace H := Option.bind_eq_some_iff.mp H
    obtain ⟨t104, A30, H⟩ := H
    replace H : (if y101.length + t104.length < 140737488355328 then (some (y101 ++ t104)) else (none)) = some r := H
    have A3 := Aside0.mk A30
    clear A30
    by_cases c4 : y101.length + t104.length < 140737488355328
    · rw [if_pos c4] at H
      have LMc4 := Aside0.mk c4
      clear c4
      obtain ⟨y107, hy107⟩ : ∃ y_ : List Int, y_ = (y101 ++ t104) := ⟨_, rfl⟩
      replace H : (some y107) = some r := by first | (rw [hy107]; with_reducible exact H) | (have H2_ := (Option.bind_some _ _).symm.trans H; rw [hy107]; with_reducible exact H2_) | (have H2_ := (Option.bind_some _ _).symm.trans H; with_reducible exact H2_) | with_reducible exact H | (rw [hy107]; exact H) | exact H
      have Ny107 := Aside0.mk hy107
      clear hy107
      obtain rfl := Option.some.inj H
      go_enter Try.func33, Try.ntmps33
      go_wp2_with (first | ((with_reducible refine gate_dst (N := 5) rfl ?_); refine Kd.R_lit (Kd.int .u8) _ 5 ?hg (N := 5) ?hd (xs := ([45] : List Int)) (inner := [.int .u8 45]) (ok := fun _ => True) (okp := fun _ => True) ?hr ?hp (fun _ hk => hk) trivial (Below.refl _ _) (Nat.le_refl _) (by simp) ?_; (case hd => rfl); (case hg => rfl); (case hr => first | (go_simp; done) | (go_simp; rfl)); (case hp => exact (Reps.one (show Kd.M (Kd.int .u8) _ _ _ 45 [.int .u8 45] from rfl) (Reps.none _ _))); intro v102 w5 ho6 hb hg_ hnew_; clear hg_ hnew_; (first | rw [← Ny101.out] at ho6 | (simp only [Int.reduceToNat] at ho6; rw [← Ny101.out] at ho6)); have n0_ := Aside0.mk (Kd.R_lower ho6 (below_size (by repeat (first | (with_reducible first | exact HB.out | apply below_alloc | apply pw_below_drewN | apply below_drew1) | exact HB.out)))); have n1_ := Aside0.mk (below_step (by repeat (first | (with_reducible first | exact HB.out | apply below_alloc | apply pw_below_drewN | apply below_drew1) | exact HB.out)) hb); clear HB; have HO103 := n0_; have HB := n1_; clear n0_ n1_; clear hb ho6) | ((with_reducible refine gate_callee (f := 35) rfl ?_); refine goesL_ (some 9) rfl rfl Try.func35 (by kernel_rfl) rfl #[.int .u64 (IntKind.u64.wrap (-(IntKind.u64.wrap (a0))))] rfl (by (try simp only [List.map_toArray, List.map_cons, List.map_nil]); first | done | rfl | (simp only [List.length_drop, List.length_take]; rfl)) ?_; (with_reducible refine (word_Digits.calls (IntKind.u64.wrap (-(IntKind.u64.wrap (a0)))) t104 _ A3.out).mono ?_); rintro e w7 ⟨v105, rfl, ho0, hb⟩; refine ⟨_, rfl, ?_⟩; have n0_ := Aside0.mk (Kd.R_elder' (by (with_reducible repeat (first | apply Kd.R_alloc | apply Kd.R_drewN | apply Kd.R_drew)); exact HO103.out) (Kd.R_base ho0) hb); have n1_ := Aside0.mk (Kd.R_lower (Kd.R_new' ho0 (Kd.R_lt (by (with_reducible repeat (first | apply Kd.R_alloc | apply Kd.R_drewN | apply Kd.R_drew)); exact HO103.out))) (below_size (by repeat (first | (with_reducible first | exact HB.out | apply below_alloc | apply pw_below_drewN | apply below_drew1) | exact HB.out)))); have n2_ := Aside0.mk (below_step (by repeat (first | (with_reducible first | exact HB.out | apply below_alloc | apply pw_below_drewN | apply below_drew1) | exact HB.out)) hb); clear HO103; clear HB; have HO103 := n0_; have HO106 := n1_; have HB := n2_; clear n0_ n1_ n2_; (try clear hb); (try clear hb2); (try clear hk); (try clear hi); (try clear ho0); obtain ⟨Ao9, co9, eo9⟩ := Kd.R_slice HO106.out; subst eo9) | ((with_reducible refine gate_builtin (b := .append) (xs := #[.tmp 5, .tmp 9]) rfl ?_); at_builtin; refine Kd.R_append_rows (Kd.int .u8) (w0 := w) w.heap.size rfl (.tmp 5) (.tmp 9) 22 5 (.int .u8 0) 1 rfl Try.underlying22 info5 rfl (by decide) (by omega) v102 y101 t104 _ _ _ (fun k_ => some k_ ≠ (.slice Ao9 t104.length co9 : Value).ownBlock) (fun _ => False) rfl rfl ?aO ?aR (fun _ _ h => h) (fun _ h => h.elim) ?aF ?aB ?aS ?aL ?_; (case aR => repeat (first | exact (Kd.R_reads' HO106.out).2.2 | (with_reducible refine Kd.C_alloc ?_ _) | (with_reducible refine Kd.C_drewN ?_ _) | (with_reducible refine Kd.C_drew ?_))); (case aB => exact (by repeat (first | (with_reducible first | exact HB.out | apply below_alloc | apply pw_below_drewN | apply below_drew1) | exact HB.out))); (case aF => exact (fun k_ hk => Kd.fresh' (Kd.R_lt (by (with_reducible repeat (first | apply Kd.R_alloc | apply Kd.R_drewN | apply Kd.R_drew)); exact HO106.out)) k_ hk)); (case aO => exact (by (with_reducible repeat (first | apply Kd.R_alloc | apply Kd.R_drewN | apply Kd.R_drew)); exact Kd.R_mono HO103.out (fun _ hk => hk.2))); (case aS => exact (below_size (by repeat (first | (with_reducible first | exact HB.out | apply below_alloc | apply pw_below_drewN | apply below_drew1) | exact HB.out)))); (case aL => have := LMc4.out; omega); intro v108 w8 ho hb hg hat; rw [← Ny107.out] at ho; have n0_ := Aside0.mk (Kd.R_after (ok := (fun _ => True)) (by (with_reducible repeat (first | apply Kd.R_alloc | apply Kd.R_drewN | apply Kd.R_drew)); exact HO106.out) hg hat); have n1_ := Aside0.mk (hb); have n2_ := Aside0.mk (ho); clear HO106; clear HB; clear HO103; have HO106 := n0_; have HB := n1_; have HO109 := n2_; clear n0_ n1_ n2_; clear ho hb hg hat))
      go_ret
      exact ⟨_, by first | rfl | (simp [errW_none, errW_some] <;> rfl) | (simp [*, errW_none, errW_some] <;> rfl), by (with_reducible repeat (first | apply Kd.R_alloc | apply Kd.R_drewN | apply Kd.R_drew)); exact Kd.R_mono HO109.out (fun _ hk => trivial), by repeat (first | (with_reducible first | exact HB.out | apply below_alloc | apply pw_below_drewN | apply below_drew1) | exact HB.out)⟩
    · rw [if_neg c4] at H
      exact absurd H (by simp)
  · rw [if_neg c2] at H
    have c2b0 : decide (a0 < 0) = false := decide_eq_false c2
    clear c2
    replace H := Option.bind_eq_some_iff.mp H
    obtain ⟨t110, A100, H⟩ := H
    replace H : (some t110) = some r := H
    have A10 := Aside0.mk A100
    clear A100
    obtain rfl := Option.some.inj H
    go_enter Try.func33, Try.ntmps33
    go_wp2_with (first | ((with_reducible refine gate_callee (f := 35) rfl ?_); refine goesL_ (some 13) rfl rfl Try.func35 (by kernel_rfl) rfl #[.int .u64 (IntKind.u64.wrap (a0))] rfl (by (try simp only [List.map_toArray, List.map_cons, List.map_nil]); first | done | rfl | (simp only [List.length_drop, List.length_take]; rfl)) ?_; (with_reducible refine (word_Digits.calls (IntKind.u64.wrap (a0)) t110 _ A10.out).mono ?_); rintro e w11 ⟨v111, rfl, ho0, hb⟩; refine ⟨_, rfl, ?_⟩; have n0_ := Aside0.mk (Kd.R_lower ho0 (below_size (by repeat (first | (with_reducible first | exact HB.out | apply below_alloc | apply pw_below_drewN | apply below_drew1) | exact HB.out)))); have n1_ := Aside0.mk (below_step (by repeat (first | (with_reducible first | exact HB.out | apply below_alloc | apply pw_below_drewN | apply below_drew1) | exact HB.out)) hb); clear HB; have HO112 := n0_; have HB := n1_; clear n0_ n1_; (try clear hb); (try clear hb2); (try clear hk); (try clear hi); (try clear ho0)))
    go_ret
    exact ⟨_, by first | rfl | (simp [errW_none, errW_some] <;> rfl) | (simp [*, errW_none, errW_some] <;> rfl), by (with_reducible repeat (first | apply Kd.R_alloc | apply Kd.R_drewN | apply Kd.R_drew)); exact HO112.out, by repeat (first | (with_reducible first | exact HB.out | apply below_alloc | apply pw_below_drewN | apply below_drew1) | exact HB.out)⟩

/-! ### word_Add: function 36 -/
def word_Add.f (a0 : Int) (a1 : Int) : Option (Int × Int) := if ((decide (a0 ≥ 0)) == (decide (a1 ≥ 0))) = true then (if ((decide ((wrap64 (a0 + a1)) ≥ 0)) != (decide (a0 ≥ 0))) = true then (some (0, 13)) else (some (wrap64 (a0 + a1), 0))) else (some (wrap64 (a0 + a1), 0))
set_option maxHeartbeats 8000000 in
set_option maxRecDepth 100000 in
theorem word_Add.calls (a0 : Int) (a1 : Int) (r1 : Int) (r2 : Int) (w : World) (h : word_Add.f a0 a1 = some (r1, r2)) :
    Calls Try.prog 36 #[.int .i64 a0, .int .i64 a1] w fun e w' => e = .returned (.tuple #[.int .i64 r1, .int .i64 r2]) ∧ Drawn0 w w' := by
  have H : (if ((decide (a0 ≥ 0)) == (decide (a1 ≥ 0))) = true then (if ((decide ((wrap64 (a0 + a1)) ≥ 0)) != (decide (a0 ≥ 0))) = true then (some (0, 13)) else (some (wrap64 (a0 + a1), 0))) else (some (wrap64 (a0 + a1), 0))) = some (r1, r2) := h
  clear h
  by_cases c3 : ((decide (a0 ≥ 0)) == (decide (a1 ≥ 0))) = true
  · rw [if_pos c3] at H
    have c3b0 : ((decide (a0 ≥ 0)) == (decide (a1 ≥ 0))) = true := c3
    (try (have c3b1 : decide ((decide (a0 ≥ 0)) = (decide (a1 ≥ 0))) = true := by simpa using c3))
    (try (have c3b2 : ((decide (a0 ≥ 0)) == (decide (a1 ≥ 0))) = true := by simpa using c3))
    clear c3
    by_cases c4 : ((decide ((wrap64 (a0 + a1)) ≥ 0)) != (decide (a0 ≥ 0))) = true
    · rw [if_pos c4] at H
      have c4b0 : ((decide ((wrap64 (a0 + a1)) ≥ 0)) != (decide (a0 ≥ 0))) = true := c4
      (try (have c4b1 : decide ((decide ((wrap64 (a0 + a1)) ≥ 0)) = (decide (a0 ≥ 0))) = false := by simpa using c4))
      (try (have c4b2 : ((decide ((wrap64 (a0 + a1)) ≥ 0)) == (decide (a0 ≥ 0))) = false := by simpa using c4))
      (try (have c4b3 : ¬ ((decide ((wrap64 (a0 + a1)) ≥ 0)) = (decide (a0 ≥ 0))) := by simpa using c4))
      clear c4
      simp only [Option.some.injEq, Prod.mk.injEq] at H
      obtain ⟨rfl, rfl⟩ := H
      go_enter Try.func36, Try.ntmps36
      go_wp2
      go_ret2
      exact ⟨by first | rfl | (simp; done) | (simp [*]; done), by repeat (first | exact Drawn0.refl _ | apply Drawn0.step)⟩
    · rw [if_neg c4] at H
      have c4b0 : ((decide ((wrap64 (a0 + a1)) ≥ 0)) != (decide (a0 ≥ 0))) = false := by simpa using c4
      (try (have c4b1 : decide ((decide ((wrap64 (a0 + a1)) ≥ 0)) = (decide (a0 ≥ 0))) = true := by simpa using c4))
      (try (have c4b2 : ((decide ((wrap64 (a0 + a1)) ≥ 0)) == (decide (a0 ≥ 0))) = true := by simpa using c4))
      clear c4
      simp only [Option.some.injEq, Prod.mk.injEq] at H
      obtain ⟨rfl, rfl⟩ := H
      go_enter Try.func36, Try.ntmps36
      go_wp2
      go_ret2
      exact ⟨by first | rfl | (simp; done) | (simp [*]; done), by repeat (first | exact Drawn0.refl _ | apply Drawn0.step)⟩
  · rw [if_neg c3] at H
    have c3b0 : ((decide (a0 ≥ 0)) == (decide (a1 ≥ 0))) = false := by simpa using c3
    (try (have c3b1 : decide ((decide (a0 ≥ 0)) = (decide (a1 ≥ 0))) = false := by simpa using c3))
    (try (have c3b2 : ((decide (a0 ≥ 0)) == (decide (a1 ≥ 0))) = false := by simpa using c3))
    (try (have c3b3 : ¬ ((decide (a0 ≥ 0)) = (decide (a1 ≥ 0))) := by simpa using c3))
    clear c3
    simp only [Option.some.injEq, Prod.mk.injEq] at H
    obtain ⟨rfl, rfl⟩ := H
    go_enter Try.func36, Try.ntmps36
    go_wp2
    go_ret2
    exact ⟨by first | rfl | (simp; done) | (simp [*]; done), by repeat (first | exact Drawn0.refl _ | apply Drawn0.step)⟩

end Go.Proofs.Ytgngpbcbnfmoiaa.PB
end

section
-- PRINTED by print.py (a twelfth state) out of the translation. Not trusted: Lean checks it.
namespace Go.Proofs.Ytgngpbcbnfmoiaa.PB
open Go.RowKit Go.Proofs.YtgngpbcbnfmoiaaW.PrintWords Go.Proofs.YtgngpbcbnfmoiaaW.PrintLast Go.Proofs.YtgngpbcbnfmoiaaW.PrintMore
attribute [local go_sem] max2_int min2_int max_two min_two max_three min_three max_four min_four   -- for this text's walks alone
open Go.Proofs.Ytgngpbcbnfmoiaa.PA
set_option linter.unusedVariables false
set_option linter.unusedSimpArgs false

end Go.Proofs.Ytgngpbcbnfmoiaa.PB
end

section
/- What word.Text, Int, Uint, Add, Digits compute, in plain words. -/
namespace Go.Proofs.Ytgngpbcbnfmoiaa.SpellF
open Go Go.RowKit Go.Proofs.YtgngpbcbnfmoiaaW.PrintWords Go.Proofs.YtgngpbcbnfmoiaaW.PrintLast Go.Proofs.YtgngpbcbnfmoiaaW.PrintMore Go.Proofs.Ytgngpbcbnfmoiaa.NumS Go.Proofs.Ytgngpbcbnfmoiaa.NumT

theorem num_some (x : Int) : PA.larderlaw1_num.f x = some x := rfl
theorem dig_some (n : Int) (h : 0 ≤ n ∧ n < 18446744073709551616) : PA.word_Digits.f n = some (PA.digitsL n.toNat) := if_pos h
theorem text_some (n : Int) (h : -9223372036854775808 ≤ n ∧ n < 9223372036854775808) : PB.word_Text.f n = some (textL n) := by
  unfold PB.word_Text.f textL
  by_cases h0 : n < 0
  · have e : IntKind.u64.wrap (-(IntKind.u64.wrap n)) = (n.natAbs : Int) := by rw [IntKind.wrap_u64, IntKind.wrap_u64]; omega
    have hl := PA.digitsL_len 20 n.natAbs (by omega) (by decide)
    rw [if_pos h0, if_pos h0, Option.bind_some, e, dig_some _ (by omega), Option.bind_some, Int.toNat_natCast, if_pos (by simp; omega)]
    rfl
  · have e : IntKind.u64.wrap n = n := by rw [IntKind.wrap_u64]; omega
    rw [if_neg h0, if_neg h0, e, dig_some _ (by omega), Option.bind_some]
theorem int_some (l : List Int) : PB.word_Int.f l = some (intS l) := rfl
theorem uint_some (l : List Int) : PB.word_Uint.f l = some (uintS l) := rfl
theorem add_some (a b : Int) (ha : -9223372036854775808 ≤ a ∧ a < 9223372036854775808) (hb : -9223372036854775808 ≤ b ∧ b < 9223372036854775808) :
    PB.word_Add.f a b = some (if -9223372036854775808 ≤ a + b ∧ a + b < 9223372036854775808 then (a + b, 0) else (0, 13)) := by
  unfold PB.word_Add.f
  by_cases c : -9223372036854775808 ≤ a + b ∧ a + b < 9223372036854775808
  · have e : wrap64 (a + b) = a + b := by unfold wrap64; omega
    rw [if_pos c, e]
    by_cases h1 : ((decide (a ≥ 0)) == (decide (b ≥ 0))) = true
    · rw [if_pos h1]
      rw [beq_iff_eq, decide_eq_decide] at h1
      rw [if_neg]
      rw [bne_iff_ne, ne_eq, Decidable.not_not, decide_eq_decide]
      omega
    · rw [if_neg h1]
  · rw [if_neg c, if_pos (by rw [beq_iff_eq, decide_eq_decide]; omega), if_pos]
    rw [bne_iff_ne, ne_eq, decide_eq_decide]
    unfold wrap64
    omega

theorem ref_add_some (a b : Int) (ha : -9223372036854775808 ≤ a ∧ a < 9223372036854775808) (hb : -9223372036854775808 ≤ b ∧ b < 9223372036854775808) :
    PD.larderref1_Add.f a b = some (if -9223372036854775808 ≤ a + b ∧ a + b < 9223372036854775808 then (a + b, 0) else (0, 13)) := by
  unfold PD.larderref1_Add.f
  have e1 : b > 0 → wrap64 (9223372036854775807 - b) = 9223372036854775807 - b := fun h => by unfold wrap64; omega
  have e2 : b < 0 → wrap64 ((-9223372036854775808) - b) = (-9223372036854775808) - b := fun h => by unfold wrap64; omega
  by_cases c : -9223372036854775808 ≤ a + b ∧ a + b < 9223372036854775808
  · have e : wrap64 (a + b) = a + b := by unfold wrap64; omega
    rw [if_pos c, e]
    by_cases h1 : b > 0
    · rw [if_pos h1, e1 h1, if_neg (by omega), if_neg (by omega)]
    · rw [if_neg h1]
      by_cases h2 : b < 0
      · rw [if_pos h2, e2 h2, if_neg (by omega)]
      · rw [if_neg h2]
  · rw [if_neg c]
    by_cases h1 : b > 0
    · rw [if_pos h1, e1 h1, if_pos (by omega)]
    · have h2 : b < 0 := by omega
      rw [if_neg h1, if_pos h2, e2 h2, if_pos (by omega)]
end Go.Proofs.Ytgngpbcbnfmoiaa.SpellF
end

section
/- larderlaw1.numbers and unsigned: the machine's calls answer true. -/
namespace Go.Proofs.Ytgngpbcbnfmoiaa.PL
open Go Go.RowKit Go.Proofs.YtgngpbcbnfmoiaaW.PrintWords Go.Proofs.YtgngpbcbnfmoiaaW.PrintLast Go.Proofs.YtgngpbcbnfmoiaaW.PrintMore Go.Proofs.Ytgngpbcbnfmoiaa.PA Go.Proofs.Ytgngpbcbnfmoiaa.WordS Go.Proofs.Ytgngpbcbnfmoiaa.NumS Go.Proofs.Ytgngpbcbnfmoiaa.NumT
set_option linter.unusedVariables false
set_option linter.unusedSimpArgs false
section
variable (a1 a2 a3 a4 a5 a6 : Int) (A7 : Option Addr) (c7 : Nat) (l7 : List Int) (A8 : Option Addr) (c8 : Nat) (l8 : List Int) (w : World)

set_option maxHeartbeats 1600000 in
set_option maxRecDepth 100000 in
theorem numbers6 (hr7 : Kd.C (Kd.int .u8) w A7 l7.length l7) (hc7 : l7.length ≤ c7) (hi7 : inB l7) (hl7 : l7.length ≤ 140737488351232) :
    Calls Try.prog 69 #[opV 6 a1 a2 a3 a4 a5 a6 A7 c7 l7 A8 c8 l8] w fun e w' => e = .returned (.bool true) ∧ Below w.heap.size w w' := by
  obtain ⟨r1, r2, hr⟩ : ∃ r1 r2, intS l7 = (r1, r2) := ⟨_, _, rfl⟩
  obtain ⟨k2, hk2⟩ := Ev.rounds (RefT.Int_ev l7 hi7 (by omega))
  have hk1 : PB.word_Int.f l7 = some (r1, r2) := congrArg some hr
  rw [hr] at hk2
  have K1 := Aside0.mk hk1
  have K2 := Aside0.mk hk2
  have hr1 : (r1 == r1) = true := by simp
  have hr2 : (r2 == r2) = true := by simp
  have H7w := Aside0.mk hr7
  have HB := Aside0.mk (Below.refl w.heap.size w)
  clear hk1 hk2 hr7 hr
  go_enter Try.func69, Try.ntmps69
  go_wp2_with (first | ((with_reducible refine gate_dst (N := 1) rfl ?_); refine box_event ?hg (N := 1) ?hd (cs := #[.int .i64 6, .int .i64 a1, .int .i64 a2, .int .i64 a3, .int .i64 a4, .int .i64 a5, .int .u64 a6, .slice A7 l7.length c7, .slice A8 l8.length c8]) (t := 71) ?hr ?_; (case hd => rfl); (case hg => rfl); (case hr => first | (go_simp; done) | (go_simp; rfl)); intro gb hg w5 hbox hb; have n0_ := Aside0.mk (below_step (by repeat (first | (with_reducible first | exact HB.out | apply below_alloc | apply pw_below_drewN | apply below_drew1) | exact HB.out)) hb); have n1_ := Aside0.mk (hbox); have GW := Aside0.mk ((by rw [hg]; exact (below_size (by repeat (first | (with_reducible first | exact HB.out | apply below_alloc | apply pw_below_drewN | apply below_drew1) | exact HB.out)))) : w.heap.size ≤ gb); clear HB; have HB := n0_; have BK := n1_; clear n0_ n1_; clear hb hbox hg; have hcz0 : w5.cell? ⟨gb, 0, none⟩ = some (.int .i64 6) := (blk_cell BK.out 0).trans rfl; have hcz1 : w5.cell? ⟨gb, 1, none⟩ = some (.int .i64 a1) := (blk_cell BK.out 1).trans rfl; have hcz2 : w5.cell? ⟨gb, 2, none⟩ = some (.int .i64 a2) := (blk_cell BK.out 2).trans rfl; have hcz3 : w5.cell? ⟨gb, 3, none⟩ = some (.int .i64 a3) := (blk_cell BK.out 3).trans rfl; have hcz4 : w5.cell? ⟨gb, 4, none⟩ = some (.int .i64 a4) := (blk_cell BK.out 4).trans rfl; have hcz5 : w5.cell? ⟨gb, 5, none⟩ = some (.int .i64 a5) := (blk_cell BK.out 5).trans rfl; have hcz6 : w5.cell? ⟨gb, 6, none⟩ = some (.int .u64 a6) := (blk_cell BK.out 6).trans rfl; have hcz7 : w5.cell? ⟨gb, 7, none⟩ = some (.slice A7 l7.length c7) := (blk_cell BK.out 7).trans rfl; have hcz8 : w5.cell? ⟨gb, 8, none⟩ = some (.slice A8 l8.length c8) := (blk_cell BK.out 8).trans rfl))
  refine (lend.calls A7 c7 l7 _ (Kd.C_below H7w.out HB.out) hc7 (by omega)).mono ?_
  rintro e w6 ⟨v6, rfl, hL, hb⟩
  have hcz1' := pw_cell_below hb hcz1; have hcz4' := pw_cell_below hb hcz4; have hcz5' := pw_cell_below hb hcz5; have hcz6' := pw_cell_below hb hcz6; have hcz7' := pw_cell_below hb hcz7; have hcz8' := pw_cell_below hb hcz8; clear hcz1 hcz4 hcz5 hcz6 hcz7 hcz8; have hcz1 := hcz1'; have hcz4 := hcz4'; have hcz5 := hcz5'; have hcz6 := hcz6'; have hcz7 := hcz7'; have hcz8 := hcz8'; clear hcz1' hcz4' hcz5' hcz6' hcz7' hcz8'; have n2_ := Aside0.mk (below_step HB.out hb); clear HB; have HB := n2_; clear n2_
  have HL := Aside0.mk hL
  clear hL hb
  obtain ⟨A, c, rfl, hc3, hC3, hC⟩ := HL.out.reads
  have hcc : l7.length ≤ c := by omega
  have HC := Aside0.mk hC
  clear hC hC3
  go_wp2_with fail
  refine (PB.word_Int.calls A c l7 r1 r2 _ HC.out hcc K1.out).mono ?_
  rintro e w7 ⟨rfl, hd⟩
  have hb := hd.below
  have hcz1' := pw_cell_below hb hcz1; have hcz4' := pw_cell_below hb hcz4; have hcz5' := pw_cell_below hb hcz5; have hcz6' := pw_cell_below hb hcz6; have hcz7' := pw_cell_below hb hcz7; have hcz8' := pw_cell_below hb hcz8; clear hcz1 hcz4 hcz5 hcz6 hcz7 hcz8; have hcz1 := hcz1'; have hcz4 := hcz4'; have hcz5 := hcz5'; have hcz6 := hcz6'; have hcz7 := hcz7'; have hcz8 := hcz8'; clear hcz1' hcz4' hcz5' hcz6' hcz7' hcz8'; have n2_ := Aside0.mk (below_step HB.out hb); clear HB; have HB := n2_; clear n2_
  have HL2 := Aside0.mk (HL.out.below hb)
  clear hb hd HL HC
  go_wp2_with fail
  refine (PK.larderref1_Int.calls k2 A7 c7 l7 r1 r2 _ (Kd.C_below H7w.out HB.out) hc7 K2.out).mono ?_
  rintro e w8 ⟨rfl, hd⟩
  have hb := hd.below
  have hcz1' := pw_cell_below hb hcz1; have hcz4' := pw_cell_below hb hcz4; have hcz5' := pw_cell_below hb hcz5; have hcz6' := pw_cell_below hb hcz6; have hcz7' := pw_cell_below hb hcz7; have hcz8' := pw_cell_below hb hcz8; clear hcz1 hcz4 hcz5 hcz6 hcz7 hcz8; have hcz1 := hcz1'; have hcz4 := hcz4'; have hcz5 := hcz5'; have hcz6 := hcz6'; have hcz7 := hcz7'; have hcz8 := hcz8'; clear hcz1' hcz4' hcz5' hcz6' hcz7' hcz8'; have n2_ := Aside0.mk (below_step HB.out hb); clear HB; have HB := n2_; clear n2_
  have HL3 := Aside0.mk (HL2.out.below hb)
  clear hb hd HL2
  go_wp2_with fail
  refine (larderlaw1_num.calls r2 r2 _ rfl).mono ?_
  rintro e w10 ⟨rfl, hd⟩
  have hb := hd.below
  have hcz1' := pw_cell_below hb hcz1; have hcz4' := pw_cell_below hb hcz4; have hcz5' := pw_cell_below hb hcz5; have hcz6' := pw_cell_below hb hcz6; have hcz7' := pw_cell_below hb hcz7; have hcz8' := pw_cell_below hb hcz8; clear hcz1 hcz4 hcz5 hcz6 hcz7 hcz8; have hcz1 := hcz1'; have hcz4 := hcz4'; have hcz5 := hcz5'; have hcz6 := hcz6'; have hcz7 := hcz7'; have hcz8 := hcz8'; clear hcz1' hcz4' hcz5' hcz6' hcz7' hcz8'; have n2_ := Aside0.mk (below_step HB.out hb); clear HB; have HB := n2_; clear n2_
  have HL5 := Aside0.mk (HL3.out.below hb)
  clear hb hd HL3
  go_wp2_with fail
  refine (intact.calls l7 _ _ A7 c7 _ HL5.out (Kd.C_below H7w.out HB.out) hc7).mono ?_
  rintro e w11 ⟨rfl, rfl⟩
  go_wp2
  go_ret
  exact ⟨rfl, HB.out⟩

set_option maxHeartbeats 4000000 in
set_option maxRecDepth 100000 in
theorem numbers7 (h4 : -9223372036854775808 ≤ a4 ∧ a4 < 9223372036854775808) :
    Calls Try.prog 69 #[opV 7 a1 a2 a3 a4 a5 a6 A7 c7 l7 A8 c8 l8] w fun e w' => e = .returned (.bool true) ∧ Below w.heap.size w w' := by
  have K1 := Aside0.mk (SpellF.text_some a4 h4)
  have HH := Aside0.mk h4
  clear h4
  have HB := Aside0.mk (Below.refl w.heap.size w)
  go_enter Try.func69, Try.ntmps69
  go_wp2_with (first | ((with_reducible refine gate_dst (N := 1) rfl ?_); refine box_event ?hg (N := 1) ?hd (cs := #[.int .i64 7, .int .i64 a1, .int .i64 a2, .int .i64 a3, .int .i64 a4, .int .i64 a5, .int .u64 a6, .slice A7 l7.length c7, .slice A8 l8.length c8]) (t := 71) ?hr ?_; (case hd => rfl); (case hg => rfl); (case hr => first | (go_simp; done) | (go_simp; rfl)); intro gb hg w5 hbox hb; have n0_ := Aside0.mk (below_step (by repeat (first | (with_reducible first | exact HB.out | apply below_alloc | apply pw_below_drewN | apply below_drew1) | exact HB.out)) hb); have n1_ := Aside0.mk (hbox); have GW := Aside0.mk ((by rw [hg]; exact (below_size (by repeat (first | (with_reducible first | exact HB.out | apply below_alloc | apply pw_below_drewN | apply below_drew1) | exact HB.out)))) : w.heap.size ≤ gb); clear HB; have HB := n0_; have BK := n1_; clear n0_ n1_; clear hb hbox hg; have hcz0 : w5.cell? ⟨gb, 0, none⟩ = some (.int .i64 7) := (blk_cell BK.out 0).trans rfl; have hcz1 : w5.cell? ⟨gb, 1, none⟩ = some (.int .i64 a1) := (blk_cell BK.out 1).trans rfl; have hcz2 : w5.cell? ⟨gb, 2, none⟩ = some (.int .i64 a2) := (blk_cell BK.out 2).trans rfl; have hcz3 : w5.cell? ⟨gb, 3, none⟩ = some (.int .i64 a3) := (blk_cell BK.out 3).trans rfl; have hcz4 : w5.cell? ⟨gb, 4, none⟩ = some (.int .i64 a4) := (blk_cell BK.out 4).trans rfl; have hcz5 : w5.cell? ⟨gb, 5, none⟩ = some (.int .i64 a5) := (blk_cell BK.out 5).trans rfl; have hcz6 : w5.cell? ⟨gb, 6, none⟩ = some (.int .u64 a6) := (blk_cell BK.out 6).trans rfl; have hcz7 : w5.cell? ⟨gb, 7, none⟩ = some (.slice A7 l7.length c7) := (blk_cell BK.out 7).trans rfl; have hcz8 : w5.cell? ⟨gb, 8, none⟩ = some (.slice A8 l8.length c8) := (blk_cell BK.out 8).trans rfl))
  go_region_with (first
    | (go_at_call 33; refine (PB.word_Text.calls a4 (textL a4) _ K1.out).mono ?_; rintro e w7 ⟨v7, rfl, hR, hb0⟩; have hb : Below w5.heap.size w5 w7 := ⟨hb0.os, hb0.tape, hb0.output, hb0.size, hb0.block⟩; clear hb0; have hcz1' := pw_cell_below hb hcz1; have hcz4' := pw_cell_below hb hcz4; have hcz5' := pw_cell_below hb hcz5; have hcz6' := pw_cell_below hb hcz6; have hcz7' := pw_cell_below hb hcz7; have hcz8' := pw_cell_below hb hcz8; clear hcz1 hcz4 hcz5 hcz6 hcz7 hcz8; have hcz1 := hcz1'; have hcz4 := hcz4'; have hcz5 := hcz5'; have hcz6 := hcz6'; have hcz7 := hcz7'; have hcz8 := hcz8'; clear hcz1' hcz4' hcz5' hcz6' hcz7' hcz8'; have n2_ := Aside0.mk (below_step HB.out hb); clear HB; have HB := n2_; clear n2_; obtain ⟨Ap, cp, rfl, hcp, hCp⟩ := Kd.R_reads hR; have HCp := Aside0.mk hCp; clear hR hCp hb)
    | (go_at_call 45; refine (TextW.ref_Text.calls a4 _ HH.out).mono ?_; rintro e w8 ⟨v8, rfl, hR, hb⟩; have hcz1' := pw_cell_below hb hcz1; have hcz4' := pw_cell_below hb hcz4; have hcz5' := pw_cell_below hb hcz5; have hcz6' := pw_cell_below hb hcz6; have hcz7' := pw_cell_below hb hcz7; have hcz8' := pw_cell_below hb hcz8; clear hcz1 hcz4 hcz5 hcz6 hcz7 hcz8; have hcz1 := hcz1'; have hcz4 := hcz4'; have hcz5 := hcz5'; have hcz6 := hcz6'; have hcz7 := hcz7'; have hcz8 := hcz8'; clear hcz1' hcz4' hcz5' hcz6' hcz7' hcz8'; have n2_ := Aside0.mk (below_step HB.out hb); clear HB; have HB := n2_; clear n2_; obtain ⟨Aq, cq, rfl, hcq, hCq⟩ := hR; have HCp2 := Aside0.mk (Kd.C_below HCp.out hb); have HCq := Aside0.mk hCq; clear hCq hb HCp)
    | (go_at_call 16; refine (larderlaw1_sameBytes.calls Ap cp (textL a4) Aq cq (textL a4) true _ HCp2.out hcp HCq.out hcq (same_refl (textL a4))).mono ?_; rintro e w9 ⟨rfl, hd⟩; have hb := hd.below; have hcz1' := pw_cell_below hb hcz1; have hcz4' := pw_cell_below hb hcz4; have hcz5' := pw_cell_below hb hcz5; have hcz6' := pw_cell_below hb hcz6; have hcz7' := pw_cell_below hb hcz7; have hcz8' := pw_cell_below hb hcz8; clear hcz1 hcz4 hcz5 hcz6 hcz7 hcz8; have hcz1 := hcz1'; have hcz4 := hcz4'; have hcz5 := hcz5'; have hcz6 := hcz6'; have hcz7 := hcz7'; have hcz8 := hcz8'; clear hcz1' hcz4' hcz5' hcz6' hcz7' hcz8'; have n2_ := Aside0.mk (below_step HB.out hb); clear HB; have HB := n2_; clear n2_; clear hb hd))
  all_goals (go_wp2; go_ret; exact ⟨rfl, HB.out⟩)

set_option maxHeartbeats 1600000 in
set_option maxRecDepth 100000 in
theorem numbers8 (h4 : -9223372036854775808 ≤ a4 ∧ a4 < 9223372036854775808) (h5 : -9223372036854775808 ≤ a5 ∧ a5 < 9223372036854775808) :
    Calls Try.prog 69 #[opV 8 a1 a2 a3 a4 a5 a6 A7 c7 l7 A8 c8 l8] w fun e w' => e = .returned (.bool true) ∧ Below w.heap.size w w' := by
  obtain ⟨r1, r2, hr⟩ : ∃ r1 r2 : Int, (if -9223372036854775808 ≤ a4 + a5 ∧ a4 + a5 < 9223372036854775808 then (a4 + a5, (0 : Int)) else (0, 13)) = (r1, r2) := ⟨_, _, rfl⟩
  have hk1 := SpellF.add_some a4 a5 h4 h5
  have hk2 := SpellF.ref_add_some a4 a5 h4 h5
  rw [hr] at hk1 hk2
  have K1 := Aside0.mk hk1
  have K2 := Aside0.mk hk2
  have hr1 : (r1 == r1) = true := by simp
  have hr2 : (r2 == r2) = true := by simp
  have HB := Aside0.mk (Below.refl w.heap.size w)
  clear hk1 hk2 hr h4 h5
  go_enter Try.func69, Try.ntmps69
  go_wp2_with (first | ((with_reducible refine gate_dst (N := 1) rfl ?_); refine box_event ?hg (N := 1) ?hd (cs := #[.int .i64 8, .int .i64 a1, .int .i64 a2, .int .i64 a3, .int .i64 a4, .int .i64 a5, .int .u64 a6, .slice A7 l7.length c7, .slice A8 l8.length c8]) (t := 71) ?hr ?_; (case hd => rfl); (case hg => rfl); (case hr => first | (go_simp; done) | (go_simp; rfl)); intro gb hg w5 hbox hb; have n0_ := Aside0.mk (below_step (by repeat (first | (with_reducible first | exact HB.out | apply below_alloc | apply pw_below_drewN | apply below_drew1) | exact HB.out)) hb); have n1_ := Aside0.mk (hbox); have GW := Aside0.mk ((by rw [hg]; exact (below_size (by repeat (first | (with_reducible first | exact HB.out | apply below_alloc | apply pw_below_drewN | apply below_drew1) | exact HB.out)))) : w.heap.size ≤ gb); clear HB; have HB := n0_; have BK := n1_; clear n0_ n1_; clear hb hbox hg; have hcz0 : w5.cell? ⟨gb, 0, none⟩ = some (.int .i64 8) := (blk_cell BK.out 0).trans rfl; have hcz1 : w5.cell? ⟨gb, 1, none⟩ = some (.int .i64 a1) := (blk_cell BK.out 1).trans rfl; have hcz2 : w5.cell? ⟨gb, 2, none⟩ = some (.int .i64 a2) := (blk_cell BK.out 2).trans rfl; have hcz3 : w5.cell? ⟨gb, 3, none⟩ = some (.int .i64 a3) := (blk_cell BK.out 3).trans rfl; have hcz4 : w5.cell? ⟨gb, 4, none⟩ = some (.int .i64 a4) := (blk_cell BK.out 4).trans rfl; have hcz5 : w5.cell? ⟨gb, 5, none⟩ = some (.int .i64 a5) := (blk_cell BK.out 5).trans rfl; have hcz6 : w5.cell? ⟨gb, 6, none⟩ = some (.int .u64 a6) := (blk_cell BK.out 6).trans rfl; have hcz7 : w5.cell? ⟨gb, 7, none⟩ = some (.slice A7 l7.length c7) := (blk_cell BK.out 7).trans rfl; have hcz8 : w5.cell? ⟨gb, 8, none⟩ = some (.slice A8 l8.length c8) := (blk_cell BK.out 8).trans rfl))
  refine (PB.word_Add.calls a4 a5 r1 r2 _ K1.out).mono ?_
  rintro e w8 ⟨rfl, hd⟩
  have hb := hd.below
  have hcz1' := pw_cell_below hb hcz1; have hcz4' := pw_cell_below hb hcz4; have hcz5' := pw_cell_below hb hcz5; have hcz6' := pw_cell_below hb hcz6; have hcz7' := pw_cell_below hb hcz7; have hcz8' := pw_cell_below hb hcz8; clear hcz1 hcz4 hcz5 hcz6 hcz7 hcz8; have hcz1 := hcz1'; have hcz4 := hcz4'; have hcz5 := hcz5'; have hcz6 := hcz6'; have hcz7 := hcz7'; have hcz8 := hcz8'; clear hcz1' hcz4' hcz5' hcz6' hcz7' hcz8'; have n2_ := Aside0.mk (below_step HB.out hb); clear HB; have HB := n2_; clear n2_
  clear hb hd
  go_wp2_with fail
  refine (PD.larderref1_Add.calls a4 a5 r1 r2 _ K2.out).mono ?_
  rintro e w8 ⟨rfl, hd⟩
  have hb := hd.below
  have hcz1' := pw_cell_below hb hcz1; have hcz4' := pw_cell_below hb hcz4; have hcz5' := pw_cell_below hb hcz5; have hcz6' := pw_cell_below hb hcz6; have hcz7' := pw_cell_below hb hcz7; have hcz8' := pw_cell_below hb hcz8; clear hcz1 hcz4 hcz5 hcz6 hcz7 hcz8; have hcz1 := hcz1'; have hcz4 := hcz4'; have hcz5 := hcz5'; have hcz6 := hcz6'; have hcz7 := hcz7'; have hcz8 := hcz8'; clear hcz1' hcz4' hcz5' hcz6' hcz7' hcz8'; have n2_ := Aside0.mk (below_step HB.out hb); clear HB; have HB := n2_; clear n2_
  clear hb hd
  go_wp2_with fail
  refine (larderlaw1_num.calls r2 r2 _ rfl).mono ?_
  rintro e w10 ⟨rfl, hd⟩
  have hb := hd.below
  have hcz1' := pw_cell_below hb hcz1; have hcz4' := pw_cell_below hb hcz4; have hcz5' := pw_cell_below hb hcz5; have hcz6' := pw_cell_below hb hcz6; have hcz7' := pw_cell_below hb hcz7; have hcz8' := pw_cell_below hb hcz8; clear hcz1 hcz4 hcz5 hcz6 hcz7 hcz8; have hcz1 := hcz1'; have hcz4 := hcz4'; have hcz5 := hcz5'; have hcz6 := hcz6'; have hcz7 := hcz7'; have hcz8 := hcz8'; clear hcz1' hcz4' hcz5' hcz6' hcz7' hcz8'; have n2_ := Aside0.mk (below_step HB.out hb); clear HB; have HB := n2_; clear n2_
  clear hb hd
  go_wp2
  go_ret
  exact ⟨rfl, HB.out⟩

set_option maxHeartbeats 1600000 in
set_option maxRecDepth 100000 in
theorem unsigned9 (hr7 : Kd.C (Kd.int .u8) w A7 l7.length l7) (hc7 : l7.length ≤ c7) (hi7 : inB l7) (hl7 : l7.length ≤ 140737488351232) :
    Calls Try.prog 70 #[opV 9 a1 a2 a3 a4 a5 a6 A7 c7 l7 A8 c8 l8] w fun e w' => e = .returned (.bool true) ∧ Below w.heap.size w w' := by
  obtain ⟨r1, r2, hr⟩ : ∃ r1 r2, uintS l7 = (r1, r2) := ⟨_, _, rfl⟩
  obtain ⟨k2, hk2⟩ := Ev.rounds (RefT.Uint_ev l7 hi7 (by omega))
  have hk1 : PB.word_Uint.f l7 = some (r1, r2) := congrArg some hr
  rw [hr] at hk2
  have K1 := Aside0.mk hk1
  have K2 := Aside0.mk hk2
  have hr1 : (r1 == r1) = true := by simp
  have hr2 : (r2 == r2) = true := by simp
  have H7w := Aside0.mk hr7
  have HB := Aside0.mk (Below.refl w.heap.size w)
  clear hk1 hk2 hr7 hr
  go_enter Try.func70, Try.ntmps70
  go_wp2_with (first | ((with_reducible refine gate_dst (N := 1) rfl ?_); refine box_event ?hg (N := 1) ?hd (cs := #[.int .i64 9, .int .i64 a1, .int .i64 a2, .int .i64 a3, .int .i64 a4, .int .i64 a5, .int .u64 a6, .slice A7 l7.length c7, .slice A8 l8.length c8]) (t := 71) ?hr ?_; (case hd => rfl); (case hg => rfl); (case hr => first | (go_simp; done) | (go_simp; rfl)); intro gb hg w5 hbox hb; have n0_ := Aside0.mk (below_step (by repeat (first | (with_reducible first | exact HB.out | apply below_alloc | apply pw_below_drewN | apply below_drew1) | exact HB.out)) hb); have n1_ := Aside0.mk (hbox); have GW := Aside0.mk ((by rw [hg]; exact (below_size (by repeat (first | (with_reducible first | exact HB.out | apply below_alloc | apply pw_below_drewN | apply below_drew1) | exact HB.out)))) : w.heap.size ≤ gb); clear HB; have HB := n0_; have BK := n1_; clear n0_ n1_; clear hb hbox hg; have hcz0 : w5.cell? ⟨gb, 0, none⟩ = some (.int .i64 9) := (blk_cell BK.out 0).trans rfl; have hcz1 : w5.cell? ⟨gb, 1, none⟩ = some (.int .i64 a1) := (blk_cell BK.out 1).trans rfl; have hcz2 : w5.cell? ⟨gb, 2, none⟩ = some (.int .i64 a2) := (blk_cell BK.out 2).trans rfl; have hcz3 : w5.cell? ⟨gb, 3, none⟩ = some (.int .i64 a3) := (blk_cell BK.out 3).trans rfl; have hcz4 : w5.cell? ⟨gb, 4, none⟩ = some (.int .i64 a4) := (blk_cell BK.out 4).trans rfl; have hcz5 : w5.cell? ⟨gb, 5, none⟩ = some (.int .i64 a5) := (blk_cell BK.out 5).trans rfl; have hcz6 : w5.cell? ⟨gb, 6, none⟩ = some (.int .u64 a6) := (blk_cell BK.out 6).trans rfl; have hcz7 : w5.cell? ⟨gb, 7, none⟩ = some (.slice A7 l7.length c7) := (blk_cell BK.out 7).trans rfl; have hcz8 : w5.cell? ⟨gb, 8, none⟩ = some (.slice A8 l8.length c8) := (blk_cell BK.out 8).trans rfl))
  refine (lend.calls A7 c7 l7 _ (Kd.C_below H7w.out HB.out) hc7 (by omega)).mono ?_
  rintro e w6 ⟨v6, rfl, hL, hb⟩
  have hcz1' := pw_cell_below hb hcz1; have hcz4' := pw_cell_below hb hcz4; have hcz5' := pw_cell_below hb hcz5; have hcz6' := pw_cell_below hb hcz6; have hcz7' := pw_cell_below hb hcz7; have hcz8' := pw_cell_below hb hcz8; clear hcz1 hcz4 hcz5 hcz6 hcz7 hcz8; have hcz1 := hcz1'; have hcz4 := hcz4'; have hcz5 := hcz5'; have hcz6 := hcz6'; have hcz7 := hcz7'; have hcz8 := hcz8'; clear hcz1' hcz4' hcz5' hcz6' hcz7' hcz8'; have n2_ := Aside0.mk (below_step HB.out hb); clear HB; have HB := n2_; clear n2_
  have HL := Aside0.mk hL
  clear hL hb
  obtain ⟨A, c, rfl, hc3, hC3, hC⟩ := HL.out.reads
  have hcc : l7.length ≤ c := by omega
  have HC := Aside0.mk hC
  clear hC hC3
  go_wp2_with fail
  refine (PB.word_Uint.calls A c l7 r1 r2 _ HC.out hcc K1.out).mono ?_
  rintro e w7 ⟨rfl, hd⟩
  have hb := hd.below
  have hcz1' := pw_cell_below hb hcz1; have hcz4' := pw_cell_below hb hcz4; have hcz5' := pw_cell_below hb hcz5; have hcz6' := pw_cell_below hb hcz6; have hcz7' := pw_cell_below hb hcz7; have hcz8' := pw_cell_below hb hcz8; clear hcz1 hcz4 hcz5 hcz6 hcz7 hcz8; have hcz1 := hcz1'; have hcz4 := hcz4'; have hcz5 := hcz5'; have hcz6 := hcz6'; have hcz7 := hcz7'; have hcz8 := hcz8'; clear hcz1' hcz4' hcz5' hcz6' hcz7' hcz8'; have n2_ := Aside0.mk (below_step HB.out hb); clear HB; have HB := n2_; clear n2_
  have HL2 := Aside0.mk (HL.out.below hb)
  clear hb hd HL HC
  go_wp2_with fail
  refine (PK.larderref1_Uint.calls k2 A7 c7 l7 r1 r2 _ (Kd.C_below H7w.out HB.out) hc7 K2.out).mono ?_
  rintro e w8 ⟨rfl, hd⟩
  have hb := hd.below
  have hcz1' := pw_cell_below hb hcz1; have hcz4' := pw_cell_below hb hcz4; have hcz5' := pw_cell_below hb hcz5; have hcz6' := pw_cell_below hb hcz6; have hcz7' := pw_cell_below hb hcz7; have hcz8' := pw_cell_below hb hcz8; clear hcz1 hcz4 hcz5 hcz6 hcz7 hcz8; have hcz1 := hcz1'; have hcz4 := hcz4'; have hcz5 := hcz5'; have hcz6 := hcz6'; have hcz7 := hcz7'; have hcz8 := hcz8'; clear hcz1' hcz4' hcz5' hcz6' hcz7' hcz8'; have n2_ := Aside0.mk (below_step HB.out hb); clear HB; have HB := n2_; clear n2_
  have HL3 := Aside0.mk (HL2.out.below hb)
  clear hb hd HL2
  go_wp2_with fail
  refine (larderlaw1_num.calls r2 r2 _ rfl).mono ?_
  rintro e w10 ⟨rfl, hd⟩
  have hb := hd.below
  have hcz1' := pw_cell_below hb hcz1; have hcz4' := pw_cell_below hb hcz4; have hcz5' := pw_cell_below hb hcz5; have hcz6' := pw_cell_below hb hcz6; have hcz7' := pw_cell_below hb hcz7; have hcz8' := pw_cell_below hb hcz8; clear hcz1 hcz4 hcz5 hcz6 hcz7 hcz8; have hcz1 := hcz1'; have hcz4 := hcz4'; have hcz5 := hcz5'; have hcz6 := hcz6'; have hcz7 := hcz7'; have hcz8 := hcz8'; clear hcz1' hcz4' hcz5' hcz6' hcz7' hcz8'; have n2_ := Aside0.mk (below_step HB.out hb); clear HB; have HB := n2_; clear n2_
  have HL5 := Aside0.mk (HL3.out.below hb)
  clear hb hd HL3
  go_wp2_with fail
  refine (intact.calls l7 _ _ A7 c7 _ HL5.out (Kd.C_below H7w.out HB.out) hc7).mono ?_
  rintro e w11 ⟨rfl, rfl⟩
  go_wp2
  go_ret
  exact ⟨rfl, HB.out⟩

set_option maxHeartbeats 4000000 in
set_option maxRecDepth 100000 in
theorem unsigned10 (h6 : 0 ≤ a6 ∧ a6 < 18446744073709551616) :
    Calls Try.prog 70 #[opV 10 a1 a2 a3 a4 a5 a6 A7 c7 l7 A8 c8 l8] w fun e w' => e = .returned (.bool true) ∧ Below w.heap.size w w' := by
  have K1 := Aside0.mk (SpellF.dig_some a6 h6)
  obtain ⟨k2, hk2⟩ := Ev.rounds (RefS.Digits a6.toNat (by omega))
  rw [show ((a6.toNat : Nat) : Int) = a6 from by omega] at hk2
  have K2 := Aside0.mk hk2
  clear h6 hk2
  have HB := Aside0.mk (Below.refl w.heap.size w)
  go_enter Try.func70, Try.ntmps70
  go_wp2_with (first | ((with_reducible refine gate_dst (N := 1) rfl ?_); refine box_event ?hg (N := 1) ?hd (cs := #[.int .i64 10, .int .i64 a1, .int .i64 a2, .int .i64 a3, .int .i64 a4, .int .i64 a5, .int .u64 a6, .slice A7 l7.length c7, .slice A8 l8.length c8]) (t := 71) ?hr ?_; (case hd => rfl); (case hg => rfl); (case hr => first | (go_simp; done) | (go_simp; rfl)); intro gb hg w5 hbox hb; have n0_ := Aside0.mk (below_step (by repeat (first | (with_reducible first | exact HB.out | apply below_alloc | apply pw_below_drewN | apply below_drew1) | exact HB.out)) hb); have n1_ := Aside0.mk (hbox); have GW := Aside0.mk ((by rw [hg]; exact (below_size (by repeat (first | (with_reducible first | exact HB.out | apply below_alloc | apply pw_below_drewN | apply below_drew1) | exact HB.out)))) : w.heap.size ≤ gb); clear HB; have HB := n0_; have BK := n1_; clear n0_ n1_; clear hb hbox hg; have hcz0 : w5.cell? ⟨gb, 0, none⟩ = some (.int .i64 10) := (blk_cell BK.out 0).trans rfl; have hcz1 : w5.cell? ⟨gb, 1, none⟩ = some (.int .i64 a1) := (blk_cell BK.out 1).trans rfl; have hcz2 : w5.cell? ⟨gb, 2, none⟩ = some (.int .i64 a2) := (blk_cell BK.out 2).trans rfl; have hcz3 : w5.cell? ⟨gb, 3, none⟩ = some (.int .i64 a3) := (blk_cell BK.out 3).trans rfl; have hcz4 : w5.cell? ⟨gb, 4, none⟩ = some (.int .i64 a4) := (blk_cell BK.out 4).trans rfl; have hcz5 : w5.cell? ⟨gb, 5, none⟩ = some (.int .i64 a5) := (blk_cell BK.out 5).trans rfl; have hcz6 : w5.cell? ⟨gb, 6, none⟩ = some (.int .u64 a6) := (blk_cell BK.out 6).trans rfl; have hcz7 : w5.cell? ⟨gb, 7, none⟩ = some (.slice A7 l7.length c7) := (blk_cell BK.out 7).trans rfl; have hcz8 : w5.cell? ⟨gb, 8, none⟩ = some (.slice A8 l8.length c8) := (blk_cell BK.out 8).trans rfl))
  go_region_with (first
    | (go_at_call 35; refine (word_Digits.calls a6 (digitsL a6.toNat) _ K1.out).mono ?_; rintro e w7 ⟨v7, rfl, hR, hb0⟩; have hb : Below w5.heap.size w5 w7 := ⟨hb0.os, hb0.tape, hb0.output, hb0.size, hb0.block⟩; clear hb0; have hcz1' := pw_cell_below hb hcz1; have hcz4' := pw_cell_below hb hcz4; have hcz5' := pw_cell_below hb hcz5; have hcz6' := pw_cell_below hb hcz6; have hcz7' := pw_cell_below hb hcz7; have hcz8' := pw_cell_below hb hcz8; clear hcz1 hcz4 hcz5 hcz6 hcz7 hcz8; have hcz1 := hcz1'; have hcz4 := hcz4'; have hcz5 := hcz5'; have hcz6 := hcz6'; have hcz7 := hcz7'; have hcz8 := hcz8'; clear hcz1' hcz4' hcz5' hcz6' hcz7' hcz8'; have n2_ := Aside0.mk (below_step HB.out hb); clear HB; have HB := n2_; clear n2_; obtain ⟨Ap, cp, rfl, hcp, hCp⟩ := Kd.R_reads hR; have HCp := Aside0.mk hCp; clear hR hCp hb)
    | (go_at_call 46; refine (PD.larderref1_Digits.calls k2 a6 (digitsL a6.toNat) _ K2.out).mono ?_; rintro e w8 ⟨v8, rfl, hR, hb⟩; have hcz1' := pw_cell_below hb hcz1; have hcz4' := pw_cell_below hb hcz4; have hcz5' := pw_cell_below hb hcz5; have hcz6' := pw_cell_below hb hcz6; have hcz7' := pw_cell_below hb hcz7; have hcz8' := pw_cell_below hb hcz8; clear hcz1 hcz4 hcz5 hcz6 hcz7 hcz8; have hcz1 := hcz1'; have hcz4 := hcz4'; have hcz5 := hcz5'; have hcz6 := hcz6'; have hcz7 := hcz7'; have hcz8 := hcz8'; clear hcz1' hcz4' hcz5' hcz6' hcz7' hcz8'; have n2_ := Aside0.mk (below_step HB.out hb); clear HB; have HB := n2_; clear n2_; obtain ⟨Aq, cq, rfl, hcq, hCq⟩ := Kd.R_reads hR; have HCp2 := Aside0.mk (Kd.C_below HCp.out hb); have HCq := Aside0.mk hCq; clear hR hCq hb HCp)
    | (go_at_call 16; refine (larderlaw1_sameBytes.calls Ap cp (digitsL a6.toNat) Aq cq (digitsL a6.toNat) true _ HCp2.out hcp HCq.out hcq (same_refl (digitsL a6.toNat))).mono ?_; rintro e w9 ⟨rfl, hd⟩; have hb := hd.below; have hcz1' := pw_cell_below hb hcz1; have hcz4' := pw_cell_below hb hcz4; have hcz5' := pw_cell_below hb hcz5; have hcz6' := pw_cell_below hb hcz6; have hcz7' := pw_cell_below hb hcz7; have hcz8' := pw_cell_below hb hcz8; clear hcz1 hcz4 hcz5 hcz6 hcz7 hcz8; have hcz1 := hcz1'; have hcz4 := hcz4'; have hcz5 := hcz5'; have hcz6 := hcz6'; have hcz7 := hcz7'; have hcz8 := hcz8'; clear hcz1' hcz4' hcz5' hcz6' hcz7' hcz8'; have n2_ := Aside0.mk (below_step HB.out hb); clear HB; have HB := n2_; clear n2_; clear hb hd))
  all_goals (go_wp2; go_ret; exact ⟨rfl, HB.out⟩)
end
end Go.Proofs.Ytgngpbcbnfmoiaa.PL
end

section
/- larderlaw1.plays of every kind: the machine's call answers true. -/
namespace Go.Proofs.Ytgngpbcbnfmoiaa.PN
open Go Go.RowKit Go.Proofs.YtgngpbcbnfmoiaaW.PrintWords Go.Proofs.YtgngpbcbnfmoiaaW.PrintLast Go.Proofs.YtgngpbcbnfmoiaaW.PrintMore Go.Proofs.Ytgngpbcbnfmoiaa.PA Go.Proofs.Ytgngpbcbnfmoiaa.PD Go.Proofs.Ytgngpbcbnfmoiaa.WordS Go.Proofs.Ytgngpbcbnfmoiaa.PL Go.Proofs.Ytgngpbcbnfmoiaa.ArgsW Go.Proofs.Ytgngpbcbnfmoiaa.PQ
set_option linter.unusedVariables false
set_option linter.unusedSimpArgs false

/-- What is played: true at every call of the twelve. -/
def larderlaw1_plays.f (a0 a1 a2 a3 a4 a5 a6 : Int) (l7 l8 : List Int) : Option Bool :=
  if (1 ≤ a0 ∧ a0 ≤ 12) ∧ goodOp a1 a4 a5 a6 l7 l8 then some true else none

section
variable (a1 a2 a3 a4 a5 a6 : Int) (A7 : Option Addr) (c7 : Nat) (l7 : List Int) (A8 : Option Addr) (c8 : Nat) (l8 : List Int) (w : World)

set_option maxHeartbeats 1600000 in
set_option maxRecDepth 100000 in
theorem plays6 (hg : goodOp a1 a4 a5 a6 l7 l8) (hr7 : Kd.C (Kd.int .u8) w A7 l7.length l7) (hc7 : l7.length ≤ c7) (hr8 : Kd.C (Kd.int .u64) w A8 l8.length l8) (hc8 : l8.length ≤ c8) :
    Calls Try.prog 58 #[opV 6 a1 a2 a3 a4 a5 a6 A7 c7 l7 A8 c8 l8] w fun e w' => e = .returned (.bool true) ∧ Below w.heap.size w w' := by
  have G := Aside0.mk hg
  have H7w := Aside0.mk hr7
  have H8w := Aside0.mk hr8
  have HB := Aside0.mk (Below.refl w.heap.size w)
  clear hg hr7 hr8
  go_enter Try.func58, Try.ntmps58
  go_wp2_with (first | ((with_reducible refine gate_dst (N := 1) rfl ?_); refine box_event ?hg (N := 1) ?hd (cs := #[.int .i64 6, .int .i64 a1, .int .i64 a2, .int .i64 a3, .int .i64 a4, .int .i64 a5, .int .u64 a6, .slice A7 l7.length c7, .slice A8 l8.length c8]) (t := 71) ?hr ?_; (case hd => rfl); (case hg => rfl); (case hr => first | (go_simp; done) | (go_simp; rfl)); intro gb hg w5 hbox hb; have n0_ := Aside0.mk (below_step (by repeat (first | (with_reducible first | exact HB.out | apply below_alloc | apply pw_below_drewN | apply below_drew1) | exact HB.out)) hb); have n1_ := Aside0.mk (hbox); have GW := Aside0.mk ((by rw [hg]; exact (below_size (by repeat (first | (with_reducible first | exact HB.out | apply below_alloc | apply pw_below_drewN | apply below_drew1) | exact HB.out)))) : w.heap.size ≤ gb); clear HB; have HB := n0_; have BK := n1_; clear n0_ n1_; clear hb hbox hg; have hcz0 : w5.cell? ⟨gb, 0, none⟩ = some (.int .i64 6) := (blk_cell BK.out 0).trans rfl; have hcz1 : w5.cell? ⟨gb, 1, none⟩ = some (.int .i64 a1) := (blk_cell BK.out 1).trans rfl; have hcz2 : w5.cell? ⟨gb, 2, none⟩ = some (.int .i64 a2) := (blk_cell BK.out 2).trans rfl; have hcz3 : w5.cell? ⟨gb, 3, none⟩ = some (.int .i64 a3) := (blk_cell BK.out 3).trans rfl; have hcz4 : w5.cell? ⟨gb, 4, none⟩ = some (.int .i64 a4) := (blk_cell BK.out 4).trans rfl; have hcz5 : w5.cell? ⟨gb, 5, none⟩ = some (.int .i64 a5) := (blk_cell BK.out 5).trans rfl; have hcz6 : w5.cell? ⟨gb, 6, none⟩ = some (.int .u64 a6) := (blk_cell BK.out 6).trans rfl; have hcz7 : w5.cell? ⟨gb, 7, none⟩ = some (.slice A7 l7.length c7) := (blk_cell BK.out 7).trans rfl; have hcz8 : w5.cell? ⟨gb, 8, none⟩ = some (.slice A8 l8.length c8) := (blk_cell BK.out 8).trans rfl))
  refine (numbers6 a1 a2 a3 a4 a5 a6 _ _ l7 _ _ l8 _ (Kd.C_below H7w.out HB.out) hc7 (gBytes_in G.out.2.2.2.2.1) (gBytes_len G.out.2.2.2.2.1)).mono ?_
  rintro e w6 ⟨rfl, hb⟩
  have n2_ := Aside0.mk (below_step HB.out hb)
  clear HB hb
  go_wp2
  go_ret
  exact ⟨rfl, n2_.out⟩

set_option maxHeartbeats 1600000 in
set_option maxRecDepth 100000 in
theorem plays7 (hg : goodOp a1 a4 a5 a6 l7 l8) (hr7 : Kd.C (Kd.int .u8) w A7 l7.length l7) (hc7 : l7.length ≤ c7) (hr8 : Kd.C (Kd.int .u64) w A8 l8.length l8) (hc8 : l8.length ≤ c8) :
    Calls Try.prog 58 #[opV 7 a1 a2 a3 a4 a5 a6 A7 c7 l7 A8 c8 l8] w fun e w' => e = .returned (.bool true) ∧ Below w.heap.size w w' := by
  have G := Aside0.mk hg
  have H7w := Aside0.mk hr7
  have H8w := Aside0.mk hr8
  have HB := Aside0.mk (Below.refl w.heap.size w)
  clear hg hr7 hr8
  go_enter Try.func58, Try.ntmps58
  go_wp2_with (first | ((with_reducible refine gate_dst (N := 1) rfl ?_); refine box_event ?hg (N := 1) ?hd (cs := #[.int .i64 7, .int .i64 a1, .int .i64 a2, .int .i64 a3, .int .i64 a4, .int .i64 a5, .int .u64 a6, .slice A7 l7.length c7, .slice A8 l8.length c8]) (t := 71) ?hr ?_; (case hd => rfl); (case hg => rfl); (case hr => first | (go_simp; done) | (go_simp; rfl)); intro gb hg w5 hbox hb; have n0_ := Aside0.mk (below_step (by repeat (first | (with_reducible first | exact HB.out | apply below_alloc | apply pw_below_drewN | apply below_drew1) | exact HB.out)) hb); have n1_ := Aside0.mk (hbox); have GW := Aside0.mk ((by rw [hg]; exact (below_size (by repeat (first | (with_reducible first | exact HB.out | apply below_alloc | apply pw_below_drewN | apply below_drew1) | exact HB.out)))) : w.heap.size ≤ gb); clear HB; have HB := n0_; have BK := n1_; clear n0_ n1_; clear hb hbox hg; have hcz0 : w5.cell? ⟨gb, 0, none⟩ = some (.int .i64 7) := (blk_cell BK.out 0).trans rfl; have hcz1 : w5.cell? ⟨gb, 1, none⟩ = some (.int .i64 a1) := (blk_cell BK.out 1).trans rfl; have hcz2 : w5.cell? ⟨gb, 2, none⟩ = some (.int .i64 a2) := (blk_cell BK.out 2).trans rfl; have hcz3 : w5.cell? ⟨gb, 3, none⟩ = some (.int .i64 a3) := (blk_cell BK.out 3).trans rfl; have hcz4 : w5.cell? ⟨gb, 4, none⟩ = some (.int .i64 a4) := (blk_cell BK.out 4).trans rfl; have hcz5 : w5.cell? ⟨gb, 5, none⟩ = some (.int .i64 a5) := (blk_cell BK.out 5).trans rfl; have hcz6 : w5.cell? ⟨gb, 6, none⟩ = some (.int .u64 a6) := (blk_cell BK.out 6).trans rfl; have hcz7 : w5.cell? ⟨gb, 7, none⟩ = some (.slice A7 l7.length c7) := (blk_cell BK.out 7).trans rfl; have hcz8 : w5.cell? ⟨gb, 8, none⟩ = some (.slice A8 l8.length c8) := (blk_cell BK.out 8).trans rfl))
  refine (numbers7 a1 a2 a3 a4 a5 a6 _ _ l7 _ _ l8 _ (wf_i64 G.out.2.1)).mono ?_
  rintro e w6 ⟨rfl, hb⟩
  have n2_ := Aside0.mk (below_step HB.out hb)
  clear HB hb
  go_wp2
  go_ret
  exact ⟨rfl, n2_.out⟩

set_option maxHeartbeats 1600000 in
set_option maxRecDepth 100000 in
theorem plays8 (hg : goodOp a1 a4 a5 a6 l7 l8) (hr7 : Kd.C (Kd.int .u8) w A7 l7.length l7) (hc7 : l7.length ≤ c7) (hr8 : Kd.C (Kd.int .u64) w A8 l8.length l8) (hc8 : l8.length ≤ c8) :
    Calls Try.prog 58 #[opV 8 a1 a2 a3 a4 a5 a6 A7 c7 l7 A8 c8 l8] w fun e w' => e = .returned (.bool true) ∧ Below w.heap.size w w' := by
  have G := Aside0.mk hg
  have H7w := Aside0.mk hr7
  have H8w := Aside0.mk hr8
  have HB := Aside0.mk (Below.refl w.heap.size w)
  clear hg hr7 hr8
  go_enter Try.func58, Try.ntmps58
  go_wp2_with (first | ((with_reducible refine gate_dst (N := 1) rfl ?_); refine box_event ?hg (N := 1) ?hd (cs := #[.int .i64 8, .int .i64 a1, .int .i64 a2, .int .i64 a3, .int .i64 a4, .int .i64 a5, .int .u64 a6, .slice A7 l7.length c7, .slice A8 l8.length c8]) (t := 71) ?hr ?_; (case hd => rfl); (case hg => rfl); (case hr => first | (go_simp; done) | (go_simp; rfl)); intro gb hg w5 hbox hb; have n0_ := Aside0.mk (below_step (by repeat (first | (with_reducible first | exact HB.out | apply below_alloc | apply pw_below_drewN | apply below_drew1) | exact HB.out)) hb); have n1_ := Aside0.mk (hbox); have GW := Aside0.mk ((by rw [hg]; exact (below_size (by repeat (first | (with_reducible first | exact HB.out | apply below_alloc | apply pw_below_drewN | apply below_drew1) | exact HB.out)))) : w.heap.size ≤ gb); clear HB; have HB := n0_; have BK := n1_; clear n0_ n1_; clear hb hbox hg; have hcz0 : w5.cell? ⟨gb, 0, none⟩ = some (.int .i64 8) := (blk_cell BK.out 0).trans rfl; have hcz1 : w5.cell? ⟨gb, 1, none⟩ = some (.int .i64 a1) := (blk_cell BK.out 1).trans rfl; have hcz2 : w5.cell? ⟨gb, 2, none⟩ = some (.int .i64 a2) := (blk_cell BK.out 2).trans rfl; have hcz3 : w5.cell? ⟨gb, 3, none⟩ = some (.int .i64 a3) := (blk_cell BK.out 3).trans rfl; have hcz4 : w5.cell? ⟨gb, 4, none⟩ = some (.int .i64 a4) := (blk_cell BK.out 4).trans rfl; have hcz5 : w5.cell? ⟨gb, 5, none⟩ = some (.int .i64 a5) := (blk_cell BK.out 5).trans rfl; have hcz6 : w5.cell? ⟨gb, 6, none⟩ = some (.int .u64 a6) := (blk_cell BK.out 6).trans rfl; have hcz7 : w5.cell? ⟨gb, 7, none⟩ = some (.slice A7 l7.length c7) := (blk_cell BK.out 7).trans rfl; have hcz8 : w5.cell? ⟨gb, 8, none⟩ = some (.slice A8 l8.length c8) := (blk_cell BK.out 8).trans rfl))
  refine (numbers8 a1 a2 a3 a4 a5 a6 _ _ l7 _ _ l8 _ (wf_i64 G.out.2.1) (wf_i64 G.out.2.2.1)).mono ?_
  rintro e w6 ⟨rfl, hb⟩
  have n2_ := Aside0.mk (below_step HB.out hb)
  clear HB hb
  go_wp2
  go_ret
  exact ⟨rfl, n2_.out⟩

set_option maxHeartbeats 1600000 in
set_option maxRecDepth 100000 in
theorem plays9 (hg : goodOp a1 a4 a5 a6 l7 l8) (hr7 : Kd.C (Kd.int .u8) w A7 l7.length l7) (hc7 : l7.length ≤ c7) (hr8 : Kd.C (Kd.int .u64) w A8 l8.length l8) (hc8 : l8.length ≤ c8) :
    Calls Try.prog 58 #[opV 9 a1 a2 a3 a4 a5 a6 A7 c7 l7 A8 c8 l8] w fun e w' => e = .returned (.bool true) ∧ Below w.heap.size w w' := by
  have G := Aside0.mk hg
  have H7w := Aside0.mk hr7
  have H8w := Aside0.mk hr8
  have HB := Aside0.mk (Below.refl w.heap.size w)
  clear hg hr7 hr8
  go_enter Try.func58, Try.ntmps58
  go_wp2_with (first | ((with_reducible refine gate_dst (N := 1) rfl ?_); refine box_event ?hg (N := 1) ?hd (cs := #[.int .i64 9, .int .i64 a1, .int .i64 a2, .int .i64 a3, .int .i64 a4, .int .i64 a5, .int .u64 a6, .slice A7 l7.length c7, .slice A8 l8.length c8]) (t := 71) ?hr ?_; (case hd => rfl); (case hg => rfl); (case hr => first | (go_simp; done) | (go_simp; rfl)); intro gb hg w5 hbox hb; have n0_ := Aside0.mk (below_step (by repeat (first | (with_reducible first | exact HB.out | apply below_alloc | apply pw_below_drewN | apply below_drew1) | exact HB.out)) hb); have n1_ := Aside0.mk (hbox); have GW := Aside0.mk ((by rw [hg]; exact (below_size (by repeat (first | (with_reducible first | exact HB.out | apply below_alloc | apply pw_below_drewN | apply below_drew1) | exact HB.out)))) : w.heap.size ≤ gb); clear HB; have HB := n0_; have BK := n1_; clear n0_ n1_; clear hb hbox hg; have hcz0 : w5.cell? ⟨gb, 0, none⟩ = some (.int .i64 9) := (blk_cell BK.out 0).trans rfl; have hcz1 : w5.cell? ⟨gb, 1, none⟩ = some (.int .i64 a1) := (blk_cell BK.out 1).trans rfl; have hcz2 : w5.cell? ⟨gb, 2, none⟩ = some (.int .i64 a2) := (blk_cell BK.out 2).trans rfl; have hcz3 : w5.cell? ⟨gb, 3, none⟩ = some (.int .i64 a3) := (blk_cell BK.out 3).trans rfl; have hcz4 : w5.cell? ⟨gb, 4, none⟩ = some (.int .i64 a4) := (blk_cell BK.out 4).trans rfl; have hcz5 : w5.cell? ⟨gb, 5, none⟩ = some (.int .i64 a5) := (blk_cell BK.out 5).trans rfl; have hcz6 : w5.cell? ⟨gb, 6, none⟩ = some (.int .u64 a6) := (blk_cell BK.out 6).trans rfl; have hcz7 : w5.cell? ⟨gb, 7, none⟩ = some (.slice A7 l7.length c7) := (blk_cell BK.out 7).trans rfl; have hcz8 : w5.cell? ⟨gb, 8, none⟩ = some (.slice A8 l8.length c8) := (blk_cell BK.out 8).trans rfl))
  refine (unsigned9 a1 a2 a3 a4 a5 a6 _ _ l7 _ _ l8 _ (Kd.C_below H7w.out HB.out) hc7 (gBytes_in G.out.2.2.2.2.1) (gBytes_len G.out.2.2.2.2.1)).mono ?_
  rintro e w6 ⟨rfl, hb⟩
  have n2_ := Aside0.mk (below_step HB.out hb)
  clear HB hb
  go_wp2
  go_ret
  exact ⟨rfl, n2_.out⟩

set_option maxHeartbeats 1600000 in
set_option maxRecDepth 100000 in
theorem plays10 (hg : goodOp a1 a4 a5 a6 l7 l8) (hr7 : Kd.C (Kd.int .u8) w A7 l7.length l7) (hc7 : l7.length ≤ c7) (hr8 : Kd.C (Kd.int .u64) w A8 l8.length l8) (hc8 : l8.length ≤ c8) :
    Calls Try.prog 58 #[opV 10 a1 a2 a3 a4 a5 a6 A7 c7 l7 A8 c8 l8] w fun e w' => e = .returned (.bool true) ∧ Below w.heap.size w w' := by
  have G := Aside0.mk hg
  have H7w := Aside0.mk hr7
  have H8w := Aside0.mk hr8
  have HB := Aside0.mk (Below.refl w.heap.size w)
  clear hg hr7 hr8
  go_enter Try.func58, Try.ntmps58
  go_wp2_with (first | ((with_reducible refine gate_dst (N := 1) rfl ?_); refine box_event ?hg (N := 1) ?hd (cs := #[.int .i64 10, .int .i64 a1, .int .i64 a2, .int .i64 a3, .int .i64 a4, .int .i64 a5, .int .u64 a6, .slice A7 l7.length c7, .slice A8 l8.length c8]) (t := 71) ?hr ?_; (case hd => rfl); (case hg => rfl); (case hr => first | (go_simp; done) | (go_simp; rfl)); intro gb hg w5 hbox hb; have n0_ := Aside0.mk (below_step (by repeat (first | (with_reducible first | exact HB.out | apply below_alloc | apply pw_below_drewN | apply below_drew1) | exact HB.out)) hb); have n1_ := Aside0.mk (hbox); have GW := Aside0.mk ((by rw [hg]; exact (below_size (by repeat (first | (with_reducible first | exact HB.out | apply below_alloc | apply pw_below_drewN | apply below_drew1) | exact HB.out)))) : w.heap.size ≤ gb); clear HB; have HB := n0_; have BK := n1_; clear n0_ n1_; clear hb hbox hg; have hcz0 : w5.cell? ⟨gb, 0, none⟩ = some (.int .i64 10) := (blk_cell BK.out 0).trans rfl; have hcz1 : w5.cell? ⟨gb, 1, none⟩ = some (.int .i64 a1) := (blk_cell BK.out 1).trans rfl; have hcz2 : w5.cell? ⟨gb, 2, none⟩ = some (.int .i64 a2) := (blk_cell BK.out 2).trans rfl; have hcz3 : w5.cell? ⟨gb, 3, none⟩ = some (.int .i64 a3) := (blk_cell BK.out 3).trans rfl; have hcz4 : w5.cell? ⟨gb, 4, none⟩ = some (.int .i64 a4) := (blk_cell BK.out 4).trans rfl; have hcz5 : w5.cell? ⟨gb, 5, none⟩ = some (.int .i64 a5) := (blk_cell BK.out 5).trans rfl; have hcz6 : w5.cell? ⟨gb, 6, none⟩ = some (.int .u64 a6) := (blk_cell BK.out 6).trans rfl; have hcz7 : w5.cell? ⟨gb, 7, none⟩ = some (.slice A7 l7.length c7) := (blk_cell BK.out 7).trans rfl; have hcz8 : w5.cell? ⟨gb, 8, none⟩ = some (.slice A8 l8.length c8) := (blk_cell BK.out 8).trans rfl))
  refine (unsigned10 a1 a2 a3 a4 a5 a6 _ _ l7 _ _ l8 _ (wf_u64 G.out.2.2.2.1)).mono ?_
  rintro e w6 ⟨rfl, hb⟩
  have n2_ := Aside0.mk (below_step HB.out hb)
  clear HB hb
  go_wp2
  go_ret
  exact ⟨rfl, n2_.out⟩
end

theorem larderlaw1_plays.calls (a0_0 : Int) (a0_1 : Int) (a0_2 : Int) (a0_3 : Int) (a0_4 : Int) (a0_5 : Int) (a0_6 : Int) (A0_7 : Option Addr) (c0_7 : Nat) (l0_7 : List Int) (A0_8 : Option Addr) (c0_8 : Nat) (l0_8 : List Int) (r : Bool) (w : World) (hr0_7 : Kd.C (Kd.int .u8) w A0_7 l0_7.length l0_7) (hc0_7 : l0_7.length ≤ c0_7) (hr0_8 : Kd.C (Kd.int .u64) w A0_8 l0_8.length l0_8) (hc0_8 : l0_8.length ≤ c0_8) (h : larderlaw1_plays.f a0_0 a0_1 a0_2 a0_3 a0_4 a0_5 a0_6 l0_7 l0_8 = some r) :
    Calls Try.prog 58 #[.agg #[.int .i64 a0_0, .int .i64 a0_1, .int .i64 a0_2, .int .i64 a0_3, .int .i64 a0_4, .int .i64 a0_5, .int .u64 a0_6, .slice A0_7 l0_7.length c0_7, .slice A0_8 l0_8.length c0_8]] w fun e w' => e = .returned (.bool r) ∧ Below w.heap.size w w' := by
  unfold larderlaw1_plays.f at h
  split at h
  case isFalse => cases h
  rename_i hk
  obtain rfl := Option.some.inj h
  obtain ⟨⟨h1, h2⟩, hg⟩ := hk
  have hh : ∀ z : Int, (z = 1 ∨ z = 2) → PH.larderlaw1_plays.f z a0_1 a0_2 a0_3 a0_4 a0_5 a0_6 l0_7 l0_8 = some true := fun z hz => if_pos ⟨hz, wf_u64 hg.2.2.2.1⟩
  have hk : a0_0 = 1 ∨ a0_0 = 2 ∨ a0_0 = 3 ∨ a0_0 = 4 ∨ a0_0 = 5 ∨ a0_0 = 6 ∨ a0_0 = 7 ∨ a0_0 = 8 ∨ a0_0 = 9 ∨ a0_0 = 10 ∨ a0_0 = 11 ∨ a0_0 = 12 := by omega
  rcases hk with rfl | rfl | rfl | rfl | rfl | rfl | rfl | rfl | rfl | rfl | rfl | rfl
  · exact PH.larderlaw1_plays.calls _ _ _ _ _ _ _ _ _ _ _ _ _ true _ hr0_7 hc0_7 hr0_8 hc0_8 (hh 1 (.inl rfl))
  · exact PH.larderlaw1_plays.calls _ _ _ _ _ _ _ _ _ _ _ _ _ true _ hr0_7 hc0_7 hr0_8 hc0_8 (hh 2 (.inr rfl))
  · exact PQ.plays3 _ _ _ _ _ _ _ _ _ _ _ _ _ hg hr0_7 hc0_7 hr0_8 hc0_8
  · exact PQ.plays4 _ _ _ _ _ _ _ _ _ _ _ _ _ hg hr0_7 hc0_7 hr0_8 hc0_8
  · exact PQ.plays5 _ _ _ _ _ _ _ _ _ _ _ _ _ hg hr0_7 hc0_7 hr0_8 hc0_8
  · exact plays6 _ _ _ _ _ _ _ _ _ _ _ _ _ hg hr0_7 hc0_7 hr0_8 hc0_8
  · exact plays7 _ _ _ _ _ _ _ _ _ _ _ _ _ hg hr0_7 hc0_7 hr0_8 hc0_8
  · exact plays8 _ _ _ _ _ _ _ _ _ _ _ _ _ hg hr0_7 hc0_7 hr0_8 hc0_8
  · exact plays9 _ _ _ _ _ _ _ _ _ _ _ _ _ hg hr0_7 hc0_7 hr0_8 hc0_8
  · exact plays10 _ _ _ _ _ _ _ _ _ _ _ _ _ hg hr0_7 hc0_7 hr0_8 hc0_8
  · exact PQ.plays11 _ _ _ _ _ _ _ _ _ _ _ _ _ hg hr0_7 hc0_7 hr0_8 hc0_8
  · exact PQ.plays12 _ _ _ _ _ _ _ _ _ _ _ _ _ hg hr0_7 hc0_7 hr0_8 hc0_8
end Go.Proofs.Ytgngpbcbnfmoiaa.PN
end

section
-- PRINTED by print.py (a twelfth state) out of the translation. Not trusted: Lean checks it.
namespace Go.Proofs.Ytgngpbcbnfmoiaa.PO
open Go.RowKit Go.Proofs.YtgngpbcbnfmoiaaW.PrintWords Go.Proofs.YtgngpbcbnfmoiaaW.PrintLast Go.Proofs.YtgngpbcbnfmoiaaW.PrintMore
attribute [local go_sem] max2_int min2_int max_two min_two max_three min_three max_four min_four   -- for this text's walks alone
open Go.Proofs.Ytgngpbcbnfmoiaa.PA Go.Proofs.Ytgngpbcbnfmoiaa.PB Go.Proofs.Ytgngpbcbnfmoiaa.PD Go.Proofs.Ytgngpbcbnfmoiaa.PN
set_option linter.unusedVariables false
set_option linter.unusedSimpArgs false



def errW : Option Int → Value
  | none => .nilIface
  | some c => .iface 0 (.int .i64 c)
theorem errW_none : errW none = .nilIface := rfl
theorem errW_some (c : Int) : errW (some c) = .iface 0 (.int .i64 c) := rfl

-- the values' own types
def rd_L3 (xs : List (List Int)) (i : Int) : (List Int) := xs.getD i.toNat ([] : List Int)
theorem at_L3 {w : World} {A : Option Addr} {n : Nat} {xs : List (List Int)} (h : Kd.C (Kd.slice 5 (Kd.int .u8)) w A n xs) (i : Int) (h0 : 0 ≤ i) (h1 : i < n) : ∃ ad A0 c0, A = some ad ∧ w.cell? (ad.add i.toNat) = some (.slice A0 (rd_L3 xs i).length c0) ∧ (rd_L3 xs i).length ≤ c0 ∧ (Kd.int .u8).C w A0 (rd_L3 xs i).length (rd_L3 xs i) := by
  obtain ⟨ad, c, e, _, hK, hc0⟩ := Kd.C_get h ([] : List Int) i h0 h1
  have hc : ∀ j u, c[j]? = some u → w.cell? (ad.add (i.toNat * 1 + j)) = some u := hc0
  obtain ⟨A0, c0, rfl, l0, g0⟩ := hK
  exact ⟨ad, A0, c0, e, by have hq := hc 0 _ rfl; rwa [Nat.mul_one, Nat.add_zero] at hq, l0, g0⟩

def rd_L4 (xs : List (List Int)) (i : Int) : (List Int) := xs.getD i.toNat ([] : List Int)
theorem at_L4 {w : World} {A : Option Addr} {n : Nat} {xs : List (List Int)} (h : Kd.C (Kd.slice 23 (Kd.int .u64)) w A n xs) (i : Int) (h0 : 0 ≤ i) (h1 : i < n) : ∃ ad A0 c0, A = some ad ∧ w.cell? (ad.add i.toNat) = some (.slice A0 (rd_L4 xs i).length c0) ∧ (rd_L4 xs i).length ≤ c0 ∧ (Kd.int .u64).C w A0 (rd_L4 xs i).length (rd_L4 xs i) := by
  obtain ⟨ad, c, e, _, hK, hc0⟩ := Kd.C_get h ([] : List Int) i h0 h1
  have hc : ∀ j u, c[j]? = some u → w.cell? (ad.add (i.toNat * 1 + j)) = some u := hc0
  obtain ⟨A0, c0, rfl, l0, g0⟩ := hK
  exact ⟨ad, A0, c0, e, by have hq := hc 0 _ rfl; rwa [Nat.mul_one, Nat.add_zero] at hq, l0, g0⟩

/-! #### struct type 71 -/
structure S71 where
  f0 : Int
  f1 : Int
  f2 : Int
  f3 : Int
  f4 : Int
  f5 : Int
  f6 : Int
  f7 : (List Int)
  f8 : (List Int)
def z71 : S71 := ⟨(0 : Int), (0 : Int), (0 : Int), (0 : Int), (0 : Int), (0 : Int), (0 : Int), ([] : List Int), ([] : List Int)⟩
def k71 : Kd S71 := Kd.iso (Kd.pair (Kd.int .i64) (Kd.pair (Kd.int .i64) (Kd.pair (Kd.int .i64) (Kd.pair (Kd.int .i64) (Kd.pair (Kd.int .i64) (Kd.pair (Kd.int .i64) (Kd.pair (Kd.int .u64) (Kd.pair (Kd.slice 5 (Kd.int .u8)) (Kd.slice 23 (Kd.int .u64)))))))))) (fun x : S71 => (x.f0, x.f1, x.f2, x.f3, x.f4, x.f5, x.f6, x.f7, x.f8))
theorem k71_open {w : World} {x : S71} {cs : List Value} (h : k71.K w x cs) : ∃ A7 c7 A8 c8, cs = [.int .i64 x.f0, .int .i64 x.f1, .int .i64 x.f2, .int .i64 x.f3, .int .i64 x.f4, .int .i64 x.f5, .int .u64 x.f6, .slice A7 x.f7.length c7, .slice A8 x.f8.length c8] ∧ x.f7.length ≤ c7 ∧ (Kd.int .u8).C w A7 x.f7.length x.f7 ∧ x.f8.length ≤ c8 ∧ (Kd.int .u64).C w A8 x.f8.length x.f8 := by
  obtain ⟨_, _, rfl, rfl, ⟨_, _, rfl, rfl, ⟨_, _, rfl, rfl, ⟨_, _, rfl, rfl, ⟨_, _, rfl, rfl, ⟨_, _, rfl, rfl, ⟨_, _, rfl, rfl, ⟨_, _, rfl, ⟨A7, c7, rfl, l7, g7⟩, ⟨A8, c8, rfl, l8, g8⟩⟩⟩⟩⟩⟩⟩⟩⟩ := h
  exact ⟨A7, c7, A8, c8, rfl, l7, g7, l8, g8⟩
theorem k71_openM {w : World} {base : Nat} {ok : Nat → Prop} {x : S71} {cs : List Value} (h : k71.M w base ok x cs) : ∃ v7 v8, cs = [.int .i64 x.f0, .int .i64 x.f1, .int .i64 x.f2, .int .i64 x.f3, .int .i64 x.f4, .int .i64 x.f5, .int .u64 x.f6, v7, v8] ∧ (Kd.int .u8).R 5 w base ok v7 x.f7 ∧ (Kd.int .u64).R 23 w base ok v8 x.f8 := by
  obtain ⟨_, _, rfl, rfl, ⟨_, _, rfl, rfl, ⟨_, _, rfl, rfl, ⟨_, _, rfl, rfl, ⟨_, _, rfl, rfl, ⟨_, _, rfl, rfl, ⟨_, _, rfl, rfl, ⟨_, _, rfl, ⟨v7, rfl, g7⟩, ⟨v8, rfl, g8⟩⟩⟩⟩⟩⟩⟩⟩⟩ := h
  exact ⟨v7, v8, rfl, g7, g8⟩
theorem k71_mk (w : World) (x : S71) {A7 : Option Addr} {c7 : Nat} (l7 : x.f7.length ≤ c7) (g7 : (Kd.int .u8).C w A7 x.f7.length x.f7) {A8 : Option Addr} {c8 : Nat} (l8 : x.f8.length ≤ c8) (g8 : (Kd.int .u64).C w A8 x.f8.length x.f8) : k71.K w x [.int .i64 x.f0, .int .i64 x.f1, .int .i64 x.f2, .int .i64 x.f3, .int .i64 x.f4, .int .i64 x.f5, .int .u64 x.f6, .slice A7 x.f7.length c7, .slice A8 x.f8.length c8] := ⟨[.int .i64 x.f0], [.int .i64 x.f1, .int .i64 x.f2, .int .i64 x.f3, .int .i64 x.f4, .int .i64 x.f5, .int .u64 x.f6, .slice A7 x.f7.length c7, .slice A8 x.f8.length c8], rfl, rfl, ⟨[.int .i64 x.f1], [.int .i64 x.f2, .int .i64 x.f3, .int .i64 x.f4, .int .i64 x.f5, .int .u64 x.f6, .slice A7 x.f7.length c7, .slice A8 x.f8.length c8], rfl, rfl, ⟨[.int .i64 x.f2], [.int .i64 x.f3, .int .i64 x.f4, .int .i64 x.f5, .int .u64 x.f6, .slice A7 x.f7.length c7, .slice A8 x.f8.length c8], rfl, rfl, ⟨[.int .i64 x.f3], [.int .i64 x.f4, .int .i64 x.f5, .int .u64 x.f6, .slice A7 x.f7.length c7, .slice A8 x.f8.length c8], rfl, rfl, ⟨[.int .i64 x.f4], [.int .i64 x.f5, .int .u64 x.f6, .slice A7 x.f7.length c7, .slice A8 x.f8.length c8], rfl, rfl, ⟨[.int .i64 x.f5], [.int .u64 x.f6, .slice A7 x.f7.length c7, .slice A8 x.f8.length c8], rfl, rfl, ⟨[.int .u64 x.f6], [.slice A7 x.f7.length c7, .slice A8 x.f8.length c8], rfl, rfl, ⟨[.slice A7 x.f7.length c7], [.slice A8 x.f8.length c8], rfl, ⟨A7, c7, rfl, l7, g7⟩, ⟨A8, c8, rfl, l8, g8⟩⟩⟩⟩⟩⟩⟩⟩⟩
theorem k71_mkM (w : World) (base : Nat) (ok : Nat → Prop) (x : S71) {v7 : Value} (g7 : (Kd.int .u8).R 5 w base ok v7 x.f7) {v8 : Value} (g8 : (Kd.int .u64).R 23 w base ok v8 x.f8) : k71.M w base ok x [.int .i64 x.f0, .int .i64 x.f1, .int .i64 x.f2, .int .i64 x.f3, .int .i64 x.f4, .int .i64 x.f5, .int .u64 x.f6, v7, v8] := ⟨[.int .i64 x.f0], [.int .i64 x.f1, .int .i64 x.f2, .int .i64 x.f3, .int .i64 x.f4, .int .i64 x.f5, .int .u64 x.f6, v7, v8], rfl, rfl, ⟨[.int .i64 x.f1], [.int .i64 x.f2, .int .i64 x.f3, .int .i64 x.f4, .int .i64 x.f5, .int .u64 x.f6, v7, v8], rfl, rfl, ⟨[.int .i64 x.f2], [.int .i64 x.f3, .int .i64 x.f4, .int .i64 x.f5, .int .u64 x.f6, v7, v8], rfl, rfl, ⟨[.int .i64 x.f3], [.int .i64 x.f4, .int .i64 x.f5, .int .u64 x.f6, v7, v8], rfl, rfl, ⟨[.int .i64 x.f4], [.int .i64 x.f5, .int .u64 x.f6, v7, v8], rfl, rfl, ⟨[.int .i64 x.f5], [.int .u64 x.f6, v7, v8], rfl, rfl, ⟨[.int .u64 x.f6], [v7, v8], rfl, rfl, ⟨[v7], [v8], rfl, ⟨v7, rfl, g7⟩, ⟨v8, rfl, g8⟩⟩⟩⟩⟩⟩⟩⟩⟩
def rd_T71 (xs : List S71) (i : Int) : S71 := xs.getD i.toNat z71
theorem at_T71 {w : World} {A : Option Addr} {n : Nat} {xs : List S71} (h : Kd.C k71 w A n xs) (i : Int) (h0 : 0 ≤ i) (h1 : i < n) : ∃ ad A7 c7 A8 c8, A = some ad ∧ w.cell? (ad.add (i.toNat * 9)) = some (.int .i64 (rd_T71 xs i).f0) ∧ w.cell? ⟨(ad.add (i.toNat * 9)).block, (ad.add (i.toNat * 9)).off + 1, none⟩ = some (.int .i64 (rd_T71 xs i).f1) ∧ w.cell? ⟨(ad.add (i.toNat * 9)).block, (ad.add (i.toNat * 9)).off + 2, none⟩ = some (.int .i64 (rd_T71 xs i).f2) ∧ w.cell? ⟨(ad.add (i.toNat * 9)).block, (ad.add (i.toNat * 9)).off + 3, none⟩ = some (.int .i64 (rd_T71 xs i).f3) ∧ w.cell? ⟨(ad.add (i.toNat * 9)).block, (ad.add (i.toNat * 9)).off + 4, none⟩ = some (.int .i64 (rd_T71 xs i).f4) ∧ w.cell? ⟨(ad.add (i.toNat * 9)).block, (ad.add (i.toNat * 9)).off + 5, none⟩ = some (.int .i64 (rd_T71 xs i).f5) ∧ w.cell? ⟨(ad.add (i.toNat * 9)).block, (ad.add (i.toNat * 9)).off + 6, none⟩ = some (.int .u64 (rd_T71 xs i).f6) ∧ w.cell? ⟨(ad.add (i.toNat * 9)).block, (ad.add (i.toNat * 9)).off + 7, none⟩ = some (.slice A7 (rd_T71 xs i).f7.length c7) ∧ w.cell? ⟨(ad.add (i.toNat * 9)).block, (ad.add (i.toNat * 9)).off + 8, none⟩ = some (.slice A8 (rd_T71 xs i).f8.length c8) ∧ (rd_T71 xs i).f7.length ≤ c7 ∧ (Kd.int .u8).C w A7 (rd_T71 xs i).f7.length (rd_T71 xs i).f7 ∧ (rd_T71 xs i).f8.length ≤ c8 ∧ (Kd.int .u64).C w A8 (rd_T71 xs i).f8.length (rd_T71 xs i).f8 := by
  obtain ⟨ad, c, e, _, hK, hc0⟩ := Kd.C_get h z71 i h0 h1
  have hc : ∀ j u, c[j]? = some u → w.cell? (ad.add (i.toNat * 9 + j)) = some u := hc0
  obtain ⟨A7, c7, A8, c8, rfl, l7, g7, l8, g8⟩ := k71_open hK
  exact ⟨ad, A7, c7, A8, c8, e, hc 0 _ rfl, by rw [← add_field _ _ 1 (by omega)]; exact hc 1 _ rfl, by rw [← add_field _ _ 2 (by omega)]; exact hc 2 _ rfl, by rw [← add_field _ _ 3 (by omega)]; exact hc 3 _ rfl, by rw [← add_field _ _ 4 (by omega)]; exact hc 4 _ rfl, by rw [← add_field _ _ 5 (by omega)]; exact hc 5 _ rfl, by rw [← add_field _ _ 6 (by omega)]; exact hc 6 _ rfl, by rw [← add_field _ _ 7 (by omega)]; exact hc 7 _ rfl, by rw [← add_field _ _ 8 (by omega)]; exact hc 8 _ rfl, l7, g7, l8, g8⟩

end Go.Proofs.Ytgngpbcbnfmoiaa.PO
end

section
-- PRINTED by print.py (a twelfth state) out of the translation. Not trusted: Lean checks it.
namespace Go.Proofs.Ytgngpbcbnfmoiaa.PO
open Go.RowKit Go.Proofs.YtgngpbcbnfmoiaaW.PrintWords Go.Proofs.YtgngpbcbnfmoiaaW.PrintLast Go.Proofs.YtgngpbcbnfmoiaaW.PrintMore
attribute [local go_sem] max2_int min2_int max_two min_two max_three min_three max_four min_four   -- for this text's walks alone
open Go.Proofs.Ytgngpbcbnfmoiaa.PA Go.Proofs.Ytgngpbcbnfmoiaa.PB Go.Proofs.Ytgngpbcbnfmoiaa.PD Go.Proofs.Ytgngpbcbnfmoiaa.PN
set_option linter.unusedVariables false
set_option linter.unusedSimpArgs false

/-! ### larderlaw1_upTo: function 42 -/
def larderlaw1_upTo.l0 : Nat → List (S71) → Int → Int → Int → Option (Bool)
  | 0, _, _, _, _ => none
  | k + 1, x0, x1, x2, x7 => if x7 < (x0.length : Int) then (if 0 ≤ x7 then (if ((rd_T71 x0 x7).f0) ≥ x1 then (if ((rd_T71 x0 x7).f0) ≤ x2 then ((larderlaw1_plays.f ((rd_T71 x0 x7).f0) ((rd_T71 x0 x7).f1) ((rd_T71 x0 x7).f2) ((rd_T71 x0 x7).f3) ((rd_T71 x0 x7).f4) ((rd_T71 x0 x7).f5) ((rd_T71 x0 x7).f6) ((rd_T71 x0 x7).f7) ((rd_T71 x0 x7).f8)).bind fun t103 => (if t103 = true then (larderlaw1_upTo.l0 k x0 x1 x2 (wrap64 (x7 + 1))) else (some false))) else (larderlaw1_upTo.l0 k x0 x1 x2 (wrap64 (x7 + 1)))) else (larderlaw1_upTo.l0 k x0 x1 x2 (wrap64 (x7 + 1)))) else (none)) else (some true)
def larderlaw1_upTo.f (k : Nat) (l0 : List (S71)) (a1 : Int) (a2 : Int) : Option (Bool) := larderlaw1_upTo.l0 k l0 a1 a2 0
theorem larderlaw1_upTo.mono_l : ∀ k, (∀ y0 y1 y2 y3, LeO (larderlaw1_upTo.l0 k y0 y1 y2 y3) (larderlaw1_upTo.l0 (k + 1) y0 y1 y2 y3))
  | 0 => fun _ _ _ _ r h => by simp [larderlaw1_upTo.l0] at h
  | k + 1 => by
    have ih0 := larderlaw1_upTo.mono_l k
    · intro y0 y1 y2 y3
      unfold larderlaw1_upTo.l0
      repeat' first
      | (with_reducible exact ih0 _ _ _ _)
      | (with_reducible exact LeO.refl _)
      | (with_reducible exact LeO.none _)
      | (with_reducible refine LeO.ite ?_ ?_)
      | (with_reducible refine LeO.bind ?_ (fun _ => ?_))
      | exact ih0 _ _ _ _
      | exact LeO.none _
      | refine LeO.ite ?_ ?_
      | refine LeO.bind ?_ (fun _ => ?_)
theorem larderlaw1_upTo.mono : ∀ a0 a1 a2 k, LeO (larderlaw1_upTo.f k a0 a1 a2) (larderlaw1_upTo.f (k + 1) a0 a1 a2) := by
  intro a0 a1 a2 k
  have ih0 := larderlaw1_upTo.mono_l k
  unfold larderlaw1_upTo.f
  repeat' first
      | (with_reducible exact ih0 _ _ _ _)
      | (with_reducible exact LeO.refl _)
      | (with_reducible exact LeO.none _)
      | (with_reducible refine LeO.ite ?_ ?_)
      | (with_reducible refine LeO.bind ?_ (fun _ => ?_))
      | exact ih0 _ _ _ _
      | exact LeO.none _
      | refine LeO.ite ?_ ?_
      | refine LeO.bind ?_ (fun _ => ?_)
set_option maxHeartbeats 8000000 in
set_option maxRecDepth 100000 in
theorem larderlaw1_upTo.calls (k : Nat) (A0 : Option Addr) (c0 : Nat) (l0 : List (S71)) (a1 : Int) (a2 : Int) (r : Bool) (w : World) (hr0 : Kd.C k71 w A0 l0.length l0) (hc0 : l0.length ≤ c0) (h : larderlaw1_upTo.f k l0 a1 a2 = some r) :
    Calls Try.prog 42 #[.slice A0 l0.length c0, .int .i64 a1, .int .i64 a2] w fun e w' => e = .returned (.bool r) ∧ Below w.heap.size w w' := by
  have hu71 := Try.underlying71
  have HR0 := Aside0.mk hr0
  have HC0 := Aside0.mk hc0
  clear hr0 hc0
  have HB := Aside0.mk (Below.refl w.heap.size w)
  have H : (larderlaw1_upTo.l0 k l0 a1 a2 0) = some r := h
  clear h
  have H' := Aside0.mk H
  clear H
  go_enter Try.func42, Try.ntmps42
  go_wp2
  go_loopg [7] k (fun kq v7 w' => ∃ (x7_1 : Int), v7 = .int .i64 x7_1 ∧ Aside0 (larderlaw1_upTo.l0 kq l0 a1 a2 x7_1 = some r) ∧ Aside0 (kq ≤ k) ∧ Aside0 (Below w.heap.size w w'))
  case atStart => exact ⟨(0), (by first | rfl | (simp; done) | (simp [*]; done)), H', ⟨Nat.le_refl _⟩, ⟨by repeat (first | (with_reducible first | exact HB.out | apply below_alloc | apply pw_below_drewN | apply below_drew1) | exact HB.out)⟩⟩
  case round =>
    clear H'
    try clear p2
    obtain ⟨x7_1, rfl, HA, HK1, HB⟩ := hrel
    cases gk with
    | zero => exact absurd HA.out (by simp [larderlaw1_upTo.l0])
    | succ k1 =>
      have H := HA.out
      clear HA
      simp only [larderlaw1_upTo.l0] at H
      by_cases c4 : x7_1 < (l0.length : Int)
      · rw [if_pos c4] at H
        have c4b0 : decide (x7_1 < (l0.length : Int)) = true := decide_eq_true c4
        clear c4
        by_cases c5 : 0 ≤ x7_1
        · rw [if_pos c5] at H
          have c5b0 : decide (0 ≤ x7_1) = true := decide_eq_true c5
          clear c5
          by_cases c6 : ((rd_T71 l0 x7_1).f0) ≥ a1
          · rw [if_pos c6] at H
            have c6b0 : decide (a1 ≤ ((rd_T71 l0 x7_1).f0)) = true := decide_eq_true c6
            clear c6
            by_cases c7 : ((rd_T71 l0 x7_1).f0) ≤ a2
            · rw [if_pos c7] at H
              have c7b0 : decide (((rd_T71 l0 x7_1).f0) ≤ a2) = true := decide_eq_true c7
              clear c7
              replace H := Option.bind_eq_some_iff.mp H
              obtain ⟨t103, A80, H⟩ := H
              replace H : (if t103 = true then (larderlaw1_upTo.l0 k1 l0 a1 a2 (wrap64 (x7_1 + 1))) else (some false)) = some r := H
              have A8 := Aside0.mk A80
              clear A80
              by_cases c9 : t103 = true
              · subst c9
                have H1 : (larderlaw1_upTo.l0 k1 l0 a1 a2 (wrap64 (x7_1 + 1))) = some r := by rw [if_pos rfl] at H; exact H
                clear H
                have H := H1
                clear H1
                have H' := Aside0.mk H
                clear H
                have p101 : 0 ≤ (x7_1 : Int) := of_decide_eq_true (by first | (with_reducible assumption) | assumption)
                have q101 : x7_1 < (l0.length : Int) := of_decide_eq_true (by first | (with_reducible assumption) | assumption)
                obtain ⟨ad101, A101_7, c101_7, A101_8, c101_8, e101, hx101_0, hx101_1, hx101_2, hx101_3, hx101_4, hx101_5, hx101_6, hx101_7, hx101_8, hl101_7, hi101_7, hl101_8, hi101_8⟩ := at_T71 HR0.out x7_1 p101 q101
                cases e101
                replace hx101_0 := (HB.out.cell (World.block_lt_of_cell? w _ hx101_0)).trans hx101_0
                replace hx101_1 := (HB.out.cell (World.block_lt_of_cell? w _ hx101_1)).trans hx101_1
                replace hx101_2 := (HB.out.cell (World.block_lt_of_cell? w _ hx101_2)).trans hx101_2
                replace hx101_3 := (HB.out.cell (World.block_lt_of_cell? w _ hx101_3)).trans hx101_3
                replace hx101_4 := (HB.out.cell (World.block_lt_of_cell? w _ hx101_4)).trans hx101_4
                replace hx101_5 := (HB.out.cell (World.block_lt_of_cell? w _ hx101_5)).trans hx101_5
                replace hx101_6 := (HB.out.cell (World.block_lt_of_cell? w _ hx101_6)).trans hx101_6
                replace hx101_7 := (HB.out.cell (World.block_lt_of_cell? w _ hx101_7)).trans hx101_7
                replace hx101_8 := (HB.out.cell (World.block_lt_of_cell? w _ hx101_8)).trans hx101_8
                have HR101_7 := Aside0.mk hi101_7
                have HC101_7 := Aside0.mk hl101_7
                clear hi101_7 hl101_7
                have HR101_8 := Aside0.mk hi101_8
                have HC101_8 := Aside0.mk hl101_8
                clear hi101_8 hl101_8
                replace p101 := eq_true p101
                replace q101 := eq_true q101
                go_wp2_with (first | ((with_reducible refine gate_dst (N := 8) rfl ?_); refine box_event ?hg (N := 8) ?hd (cs := #[.int .i64 0, .int .i64 0, .int .i64 0, .int .i64 0, .int .i64 0, .int .i64 0, .int .u64 0, .slice none 0 0, .slice none 0 0]) (t := 71) ?hr ?_; (case hd => rfl); (case hg => rfl); (case hr => first | (go_simp; done) | (go_simp; rfl)); intro gb102 hg w10 hbox hb; have n0_ := Aside0.mk (below_step (by repeat (first | (with_reducible first | exact HB.out | apply below_alloc | apply pw_below_drewN | apply below_drew1) | exact HB.out)) hb); have n1_ := Aside0.mk (hbox); have n2_ := Aside0.mk ((by rw [hg]; exact (below_size (by repeat (first | (with_reducible first | exact HB.out | apply below_alloc | apply pw_below_drewN | apply below_drew1) | exact HB.out))) : w.heap.size ≤ gb102)); have n3_ := Aside0.mk ((by rw [hg]; exact (below_size (by repeat (first | (with_reducible first | exact HB.out | apply below_alloc | apply pw_below_drewN | apply below_drew1) | exact HB.out))) : w.heap.size ≤ gb102)); clear HB; have HB := n0_; have BK102 := n1_; have GW102 := n2_; have GE102 := n3_; clear n0_ n1_ n2_ n3_; clear hb hbox hg; have hcz11_0 : w10.cell? ⟨gb102, 0, none⟩ = some (.int .i64 0) := (blk_cell BK102.out 0).trans rfl; have hcz11_1 : w10.cell? ⟨gb102, 1, none⟩ = some (.int .i64 0) := (blk_cell BK102.out 1).trans rfl; have hcz11_2 : w10.cell? ⟨gb102, 2, none⟩ = some (.int .i64 0) := (blk_cell BK102.out 2).trans rfl; have hcz11_3 : w10.cell? ⟨gb102, 3, none⟩ = some (.int .i64 0) := (blk_cell BK102.out 3).trans rfl; have hcz11_4 : w10.cell? ⟨gb102, 4, none⟩ = some (.int .i64 0) := (blk_cell BK102.out 4).trans rfl; have hcz11_5 : w10.cell? ⟨gb102, 5, none⟩ = some (.int .i64 0) := (blk_cell BK102.out 5).trans rfl; have hcz11_6 : w10.cell? ⟨gb102, 6, none⟩ = some (.int .u64 0) := (blk_cell BK102.out 6).trans rfl; have hcz11_7 : w10.cell? ⟨gb102, 7, none⟩ = some (.slice none 0 0) := (blk_cell BK102.out 7).trans rfl; have hcz11_8 : w10.cell? ⟨gb102, 8, none⟩ = some (.slice none 0 0) := (blk_cell BK102.out 8).trans rfl; have hfz11_0 := blk_frozen BK102.out 0; have hfz11_1 := blk_frozen BK102.out 1; have hfz11_2 := blk_frozen BK102.out 2; have hfz11_3 := blk_frozen BK102.out 3; have hfz11_4 := blk_frozen BK102.out 4; have hfz11_5 := blk_frozen BK102.out 5; have hfz11_6 := blk_frozen BK102.out 6; have hfz11_7 := blk_frozen BK102.out 7; have hfz11_8 := blk_frozen BK102.out 8) | (go_at_call 58; (with_reducible refine (larderlaw1_plays.calls ((rd_T71 l0 x7_1).f0) ((rd_T71 l0 x7_1).f1) ((rd_T71 l0 x7_1).f2) ((rd_T71 l0 x7_1).f3) ((rd_T71 l0 x7_1).f4) ((rd_T71 l0 x7_1).f5) ((rd_T71 l0 x7_1).f6) _ _ ((rd_T71 l0 x7_1).f7) _ _ ((rd_T71 l0 x7_1).f8) true _ ?side1 ?side2 ?side3 ?side4 A8.out).mono ?_); (case side1 => exact Kd.C_below HR101_7.out (by repeat (first | (with_reducible first | exact HB.out | apply below_alloc | apply pw_below_drewN | apply below_drew1 | refine below_set ?_ GE102.out) | exact HB.out))); (case side2 => exact HC101_7.out); (case side3 => exact Kd.C_below HR101_8.out (by repeat (first | (with_reducible first | exact HB.out | apply below_alloc | apply pw_below_drewN | apply below_drew1 | refine below_set ?_ GE102.out) | exact HB.out))); (case side4 => exact HC101_8.out); rintro e w12 ⟨rfl, hb⟩; have n0_ := Aside0.mk (blk_below (g := gb102) (o := .cells #[.int .i64 ((rd_T71 l0 x7_1).f0), .int .i64 ((rd_T71 l0 x7_1).f1), .int .i64 ((rd_T71 l0 x7_1).f2), .int .i64 ((rd_T71 l0 x7_1).f3), .int .i64 ((rd_T71 l0 x7_1).f4), .int .i64 ((rd_T71 l0 x7_1).f5), .int .u64 ((rd_T71 l0 x7_1).f6), .slice A101_7 ((rd_T71 l0 x7_1).f7).length c101_7, .slice A101_8 ((rd_T71 l0 x7_1).f8).length c101_8] 71 (0, 0)) (by (with_reducible repeat (first | refine blk_drewN ?_ _ | refine blk_drew ?_ | refine blk_alloc ?_ _)); refine blk_put (cs := #[.int .i64 ((rd_T71 l0 x7_1).f0), .int .i64 ((rd_T71 l0 x7_1).f1), .int .i64 ((rd_T71 l0 x7_1).f2), .int .i64 ((rd_T71 l0 x7_1).f3), .int .i64 ((rd_T71 l0 x7_1).f4), .int .i64 ((rd_T71 l0 x7_1).f5), .int .u64 ((rd_T71 l0 x7_1).f6), .slice A101_7 ((rd_T71 l0 x7_1).f7).length c101_7, .slice none 0 0]) ?_ 8 _ rfl; (with_reducible repeat (first | refine blk_drewN ?_ _ | refine blk_drew ?_ | refine blk_alloc ?_ _)); refine blk_put (cs := #[.int .i64 ((rd_T71 l0 x7_1).f0), .int .i64 ((rd_T71 l0 x7_1).f1), .int .i64 ((rd_T71 l0 x7_1).f2), .int .i64 ((rd_T71 l0 x7_1).f3), .int .i64 ((rd_T71 l0 x7_1).f4), .int .i64 ((rd_T71 l0 x7_1).f5), .int .u64 ((rd_T71 l0 x7_1).f6), .slice none 0 0, .slice none 0 0]) ?_ 7 _ rfl; (with_reducible repeat (first | refine blk_drewN ?_ _ | refine blk_drew ?_ | refine blk_alloc ?_ _)); refine blk_put (cs := #[.int .i64 ((rd_T71 l0 x7_1).f0), .int .i64 ((rd_T71 l0 x7_1).f1), .int .i64 ((rd_T71 l0 x7_1).f2), .int .i64 ((rd_T71 l0 x7_1).f3), .int .i64 ((rd_T71 l0 x7_1).f4), .int .i64 ((rd_T71 l0 x7_1).f5), .int .u64 0, .slice none 0 0, .slice none 0 0]) ?_ 6 _ rfl; (with_reducible repeat (first | refine blk_drewN ?_ _ | refine blk_drew ?_ | refine blk_alloc ?_ _)); refine blk_put (cs := #[.int .i64 ((rd_T71 l0 x7_1).f0), .int .i64 ((rd_T71 l0 x7_1).f1), .int .i64 ((rd_T71 l0 x7_1).f2), .int .i64 ((rd_T71 l0 x7_1).f3), .int .i64 ((rd_T71 l0 x7_1).f4), .int .i64 0, .int .u64 0, .slice none 0 0, .slice none 0 0]) ?_ 5 _ rfl; (with_reducible repeat (first | refine blk_drewN ?_ _ | refine blk_drew ?_ | refine blk_alloc ?_ _)); refine blk_put (cs := #[.int .i64 ((rd_T71 l0 x7_1).f0), .int .i64 ((rd_T71 l0 x7_1).f1), .int .i64 ((rd_T71 l0 x7_1).f2), .int .i64 ((rd_T71 l0 x7_1).f3), .int .i64 0, .int .i64 0, .int .u64 0, .slice none 0 0, .slice none 0 0]) ?_ 4 _ rfl; (with_reducible repeat (first | refine blk_drewN ?_ _ | refine blk_drew ?_ | refine blk_alloc ?_ _)); refine blk_put (cs := #[.int .i64 ((rd_T71 l0 x7_1).f0), .int .i64 ((rd_T71 l0 x7_1).f1), .int .i64 ((rd_T71 l0 x7_1).f2), .int .i64 0, .int .i64 0, .int .i64 0, .int .u64 0, .slice none 0 0, .slice none 0 0]) ?_ 3 _ rfl; (with_reducible repeat (first | refine blk_drewN ?_ _ | refine blk_drew ?_ | refine blk_alloc ?_ _)); refine blk_put (cs := #[.int .i64 ((rd_T71 l0 x7_1).f0), .int .i64 ((rd_T71 l0 x7_1).f1), .int .i64 0, .int .i64 0, .int .i64 0, .int .i64 0, .int .u64 0, .slice none 0 0, .slice none 0 0]) ?_ 2 _ rfl; (with_reducible repeat (first | refine blk_drewN ?_ _ | refine blk_drew ?_ | refine blk_alloc ?_ _)); refine blk_put (cs := #[.int .i64 ((rd_T71 l0 x7_1).f0), .int .i64 0, .int .i64 0, .int .i64 0, .int .i64 0, .int .i64 0, .int .u64 0, .slice none 0 0, .slice none 0 0]) ?_ 1 _ rfl; (with_reducible repeat (first | refine blk_drewN ?_ _ | refine blk_drew ?_ | refine blk_alloc ?_ _)); refine blk_put (cs := #[.int .i64 0, .int .i64 0, .int .i64 0, .int .i64 0, .int .i64 0, .int .i64 0, .int .u64 0, .slice none 0 0, .slice none 0 0]) ?_ 0 _ rfl; (with_reducible repeat (first | refine blk_drewN ?_ _ | refine blk_drew ?_ | refine blk_alloc ?_ _)); exact BK102.out) hb); have n1_ := Aside0.mk (below_step (by repeat (first | (with_reducible first | exact HB.out | apply below_alloc | apply pw_below_drewN | apply below_drew1 | refine below_set ?_ GE102.out) | exact HB.out)) hb); clear BK102; clear HB; have BK102 := n0_; have HB := n1_; clear n0_ n1_; (try clear hb); (try clear hb2); (try clear hk); (try clear hi)))
                go_roundg k1
                case measure => have := HK1.out; omega
                case rel => exact ⟨(wrap64 (x7_1 + 1)), (by first | rfl | (simp; done) | (simp [*]; done)), H', ⟨by have := HK1.out; omega⟩, ⟨by repeat (first | (with_reducible first | exact HB.out | apply below_alloc | apply pw_below_drewN | apply below_drew1 | refine below_set ?_ GE102.out) | exact HB.out)⟩⟩
              · replace c9 := Bool.eq_false_iff.mpr c9
                subst c9
                have H1 : (some false) = some r := by rw [if_neg (show ¬ (false = true) by decide)] at H; exact H
                clear H
                have H := H1
                clear H1
                obtain rfl := Option.some.inj H
                have p101 : 0 ≤ (x7_1 : Int) := of_decide_eq_true (by first | (with_reducible assumption) | assumption)
                have q101 : x7_1 < (l0.length : Int) := of_decide_eq_true (by first | (with_reducible assumption) | assumption)
                obtain ⟨ad101, A101_7, c101_7, A101_8, c101_8, e101, hx101_0, hx101_1, hx101_2, hx101_3, hx101_4, hx101_5, hx101_6, hx101_7, hx101_8, hl101_7, hi101_7, hl101_8, hi101_8⟩ := at_T71 HR0.out x7_1 p101 q101
                cases e101
                replace hx101_0 := (HB.out.cell (World.block_lt_of_cell? w _ hx101_0)).trans hx101_0
                replace hx101_1 := (HB.out.cell (World.block_lt_of_cell? w _ hx101_1)).trans hx101_1
                replace hx101_2 := (HB.out.cell (World.block_lt_of_cell? w _ hx101_2)).trans hx101_2
                replace hx101_3 := (HB.out.cell (World.block_lt_of_cell? w _ hx101_3)).trans hx101_3
                replace hx101_4 := (HB.out.cell (World.block_lt_of_cell? w _ hx101_4)).trans hx101_4
                replace hx101_5 := (HB.out.cell (World.block_lt_of_cell? w _ hx101_5)).trans hx101_5
                replace hx101_6 := (HB.out.cell (World.block_lt_of_cell? w _ hx101_6)).trans hx101_6
                replace hx101_7 := (HB.out.cell (World.block_lt_of_cell? w _ hx101_7)).trans hx101_7
                replace hx101_8 := (HB.out.cell (World.block_lt_of_cell? w _ hx101_8)).trans hx101_8
                have HR101_7 := Aside0.mk hi101_7
                have HC101_7 := Aside0.mk hl101_7
                clear hi101_7 hl101_7
                have HR101_8 := Aside0.mk hi101_8
                have HC101_8 := Aside0.mk hl101_8
                clear hi101_8 hl101_8
                replace p101 := eq_true p101
                replace q101 := eq_true q101
                go_wp2_with (first | ((with_reducible refine gate_dst (N := 8) rfl ?_); refine box_event ?hg (N := 8) ?hd (cs := #[.int .i64 0, .int .i64 0, .int .i64 0, .int .i64 0, .int .i64 0, .int .i64 0, .int .u64 0, .slice none 0 0, .slice none 0 0]) (t := 71) ?hr ?_; (case hd => rfl); (case hg => rfl); (case hr => first | (go_simp; done) | (go_simp; rfl)); intro gb102 hg w13 hbox hb; have n0_ := Aside0.mk (below_step (by repeat (first | (with_reducible first | exact HB.out | apply below_alloc | apply pw_below_drewN | apply below_drew1) | exact HB.out)) hb); have n1_ := Aside0.mk (hbox); have n2_ := Aside0.mk ((by rw [hg]; exact (below_size (by repeat (first | (with_reducible first | exact HB.out | apply below_alloc | apply pw_below_drewN | apply below_drew1) | exact HB.out))) : w.heap.size ≤ gb102)); have n3_ := Aside0.mk ((by rw [hg]; exact (below_size (by repeat (first | (with_reducible first | exact HB.out | apply below_alloc | apply pw_below_drewN | apply below_drew1) | exact HB.out))) : w.heap.size ≤ gb102)); clear HB; have HB := n0_; have BK102 := n1_; have GW102 := n2_; have GE102 := n3_; clear n0_ n1_ n2_ n3_; clear hb hbox hg; have hcz14_0 : w13.cell? ⟨gb102, 0, none⟩ = some (.int .i64 0) := (blk_cell BK102.out 0).trans rfl; have hcz14_1 : w13.cell? ⟨gb102, 1, none⟩ = some (.int .i64 0) := (blk_cell BK102.out 1).trans rfl; have hcz14_2 : w13.cell? ⟨gb102, 2, none⟩ = some (.int .i64 0) := (blk_cell BK102.out 2).trans rfl; have hcz14_3 : w13.cell? ⟨gb102, 3, none⟩ = some (.int .i64 0) := (blk_cell BK102.out 3).trans rfl; have hcz14_4 : w13.cell? ⟨gb102, 4, none⟩ = some (.int .i64 0) := (blk_cell BK102.out 4).trans rfl; have hcz14_5 : w13.cell? ⟨gb102, 5, none⟩ = some (.int .i64 0) := (blk_cell BK102.out 5).trans rfl; have hcz14_6 : w13.cell? ⟨gb102, 6, none⟩ = some (.int .u64 0) := (blk_cell BK102.out 6).trans rfl; have hcz14_7 : w13.cell? ⟨gb102, 7, none⟩ = some (.slice none 0 0) := (blk_cell BK102.out 7).trans rfl; have hcz14_8 : w13.cell? ⟨gb102, 8, none⟩ = some (.slice none 0 0) := (blk_cell BK102.out 8).trans rfl; have hfz14_0 := blk_frozen BK102.out 0; have hfz14_1 := blk_frozen BK102.out 1; have hfz14_2 := blk_frozen BK102.out 2; have hfz14_3 := blk_frozen BK102.out 3; have hfz14_4 := blk_frozen BK102.out 4; have hfz14_5 := blk_frozen BK102.out 5; have hfz14_6 := blk_frozen BK102.out 6; have hfz14_7 := blk_frozen BK102.out 7; have hfz14_8 := blk_frozen BK102.out 8) | (go_at_call 58; (with_reducible refine (larderlaw1_plays.calls ((rd_T71 l0 x7_1).f0) ((rd_T71 l0 x7_1).f1) ((rd_T71 l0 x7_1).f2) ((rd_T71 l0 x7_1).f3) ((rd_T71 l0 x7_1).f4) ((rd_T71 l0 x7_1).f5) ((rd_T71 l0 x7_1).f6) _ _ ((rd_T71 l0 x7_1).f7) _ _ ((rd_T71 l0 x7_1).f8) false _ ?side1 ?side2 ?side3 ?side4 A8.out).mono ?_); (case side1 => exact Kd.C_below HR101_7.out (by repeat (first | (with_reducible first | exact HB.out | apply below_alloc | apply pw_below_drewN | apply below_drew1 | refine below_set ?_ GE102.out) | exact HB.out))); (case side2 => exact HC101_7.out); (case side3 => exact Kd.C_below HR101_8.out (by repeat (first | (with_reducible first | exact HB.out | apply below_alloc | apply pw_below_drewN | apply below_drew1 | refine below_set ?_ GE102.out) | exact HB.out))); (case side4 => exact HC101_8.out); rintro e w15 ⟨rfl, hb⟩; have n0_ := Aside0.mk (blk_below (g := gb102) (o := .cells #[.int .i64 ((rd_T71 l0 x7_1).f0), .int .i64 ((rd_T71 l0 x7_1).f1), .int .i64 ((rd_T71 l0 x7_1).f2), .int .i64 ((rd_T71 l0 x7_1).f3), .int .i64 ((rd_T71 l0 x7_1).f4), .int .i64 ((rd_T71 l0 x7_1).f5), .int .u64 ((rd_T71 l0 x7_1).f6), .slice A101_7 ((rd_T71 l0 x7_1).f7).length c101_7, .slice A101_8 ((rd_T71 l0 x7_1).f8).length c101_8] 71 (0, 0)) (by (with_reducible repeat (first | refine blk_drewN ?_ _ | refine blk_drew ?_ | refine blk_alloc ?_ _)); refine blk_put (cs := #[.int .i64 ((rd_T71 l0 x7_1).f0), .int .i64 ((rd_T71 l0 x7_1).f1), .int .i64 ((rd_T71 l0 x7_1).f2), .int .i64 ((rd_T71 l0 x7_1).f3), .int .i64 ((rd_T71 l0 x7_1).f4), .int .i64 ((rd_T71 l0 x7_1).f5), .int .u64 ((rd_T71 l0 x7_1).f6), .slice A101_7 ((rd_T71 l0 x7_1).f7).length c101_7, .slice none 0 0]) ?_ 8 _ rfl; (with_reducible repeat (first | refine blk_drewN ?_ _ | refine blk_drew ?_ | refine blk_alloc ?_ _)); refine blk_put (cs := #[.int .i64 ((rd_T71 l0 x7_1).f0), .int .i64 ((rd_T71 l0 x7_1).f1), .int .i64 ((rd_T71 l0 x7_1).f2), .int .i64 ((rd_T71 l0 x7_1).f3), .int .i64 ((rd_T71 l0 x7_1).f4), .int .i64 ((rd_T71 l0 x7_1).f5), .int .u64 ((rd_T71 l0 x7_1).f6), .slice none 0 0, .slice none 0 0]) ?_ 7 _ rfl; (with_reducible repeat (first | refine blk_drewN ?_ _ | refine blk_drew ?_ | refine blk_alloc ?_ _)); refine blk_put (cs := #[.int .i64 ((rd_T71 l0 x7_1).f0), .int .i64 ((rd_T71 l0 x7_1).f1), .int .i64 ((rd_T71 l0 x7_1).f2), .int .i64 ((rd_T71 l0 x7_1).f3), .int .i64 ((rd_T71 l0 x7_1).f4), .int .i64 ((rd_T71 l0 x7_1).f5), .int .u64 0, .slice none 0 0, .slice none 0 0]) ?_ 6 _ rfl; (with_reducible repeat (first | refine blk_drewN ?_ _ | refine blk_drew ?_ | refine blk_alloc ?_ _)); refine blk_put (cs := #[.int .i64 ((rd_T71 l0 x7_1).f0), .int .i64 ((rd_T71 l0 x7_1).f1), .int .i64 ((rd_T71 l0 x7_1).f2), .int .i64 ((rd_T71 l0 x7_1).f3), .int .i64 ((rd_T71 l0 x7_1).f4), .int .i64 0, .int .u64 0, .slice none 0 0, .slice none 0 0]) ?_ 5 _ rfl; (with_reducible repeat (first | refine blk_drewN ?_ _ | refine blk_drew ?_ | refine blk_alloc ?_ _)); refine blk_put (cs := #[.int .i64 ((rd_T71 l0 x7_1).f0), .int .i64 ((rd_T71 l0 x7_1).f1), .int .i64 ((rd_T71 l0 x7_1).f2), .int .i64 ((rd_T71 l0 x7_1).f3), .int .i64 0, .int .i64 0, .int .u64 0, .slice none 0 0, .slice none 0 0]) ?_ 4 _ rfl; (with_reducible repeat (first | refine blk_drewN ?_ _ | refine blk_drew ?_ | refine blk_alloc ?_ _)); refine blk_put (cs := #[.int .i64 ((rd_T71 l0 x7_1).f0), .int .i64 ((rd_T71 l0 x7_1).f1), .int .i64 ((rd_T71 l0 x7_1).f2), .int .i64 0, .int .i64 0, .int .i64 0, .int .u64 0, .slice none 0 0, .slice none 0 0]) ?_ 3 _ rfl; (with_reducible repeat (first | refine blk_drewN ?_ _ | refine blk_drew ?_ | refine blk_alloc ?_ _)); refine blk_put (cs := #[.int .i64 ((rd_T71 l0 x7_1).f0), .int .i64 ((rd_T71 l0 x7_1).f1), .int .i64 0, .int .i64 0, .int .i64 0, .int .i64 0, .int .u64 0, .slice none 0 0, .slice none 0 0]) ?_ 2 _ rfl; (with_reducible repeat (first | refine blk_drewN ?_ _ | refine blk_drew ?_ | refine blk_alloc ?_ _)); refine blk_put (cs := #[.int .i64 ((rd_T71 l0 x7_1).f0), .int .i64 0, .int .i64 0, .int .i64 0, .int .i64 0, .int .i64 0, .int .u64 0, .slice none 0 0, .slice none 0 0]) ?_ 1 _ rfl; (with_reducible repeat (first | refine blk_drewN ?_ _ | refine blk_drew ?_ | refine blk_alloc ?_ _)); refine blk_put (cs := #[.int .i64 0, .int .i64 0, .int .i64 0, .int .i64 0, .int .i64 0, .int .i64 0, .int .u64 0, .slice none 0 0, .slice none 0 0]) ?_ 0 _ rfl; (with_reducible repeat (first | refine blk_drewN ?_ _ | refine blk_drew ?_ | refine blk_alloc ?_ _)); exact BK102.out) hb); have n1_ := Aside0.mk (below_step (by repeat (first | (with_reducible first | exact HB.out | apply below_alloc | apply pw_below_drewN | apply below_drew1 | refine below_set ?_ GE102.out) | exact HB.out)) hb); clear BK102; clear HB; have BK102 := n0_; have HB := n1_; clear n0_ n1_; (try clear hb); (try clear hb2); (try clear hk); (try clear hi)))
                go_ret
                exact ⟨by first | rfl | (simp [errW_none, errW_some] <;> rfl) | (simp [*, errW_none, errW_some] <;> rfl), by repeat (first | (with_reducible first | exact HB.out | apply below_alloc | apply pw_below_drewN | apply below_drew1 | refine below_set ?_ GE102.out) | exact HB.out)⟩
            · rw [if_neg c7] at H
              have c7b0 : decide (((rd_T71 l0 x7_1).f0) ≤ a2) = false := decide_eq_false c7
              clear c7
              have H' := Aside0.mk H
              clear H
              have p101 : 0 ≤ (x7_1 : Int) := of_decide_eq_true (by first | (with_reducible assumption) | assumption)
              have q101 : x7_1 < (l0.length : Int) := of_decide_eq_true (by first | (with_reducible assumption) | assumption)
              obtain ⟨ad101, A101_7, c101_7, A101_8, c101_8, e101, hx101_0, hx101_1, hx101_2, hx101_3, hx101_4, hx101_5, hx101_6, hx101_7, hx101_8, hl101_7, hi101_7, hl101_8, hi101_8⟩ := at_T71 HR0.out x7_1 p101 q101
              cases e101
              replace hx101_0 := (HB.out.cell (World.block_lt_of_cell? w _ hx101_0)).trans hx101_0
              replace hx101_1 := (HB.out.cell (World.block_lt_of_cell? w _ hx101_1)).trans hx101_1
              replace hx101_2 := (HB.out.cell (World.block_lt_of_cell? w _ hx101_2)).trans hx101_2
              replace hx101_3 := (HB.out.cell (World.block_lt_of_cell? w _ hx101_3)).trans hx101_3
              replace hx101_4 := (HB.out.cell (World.block_lt_of_cell? w _ hx101_4)).trans hx101_4
              replace hx101_5 := (HB.out.cell (World.block_lt_of_cell? w _ hx101_5)).trans hx101_5
              replace hx101_6 := (HB.out.cell (World.block_lt_of_cell? w _ hx101_6)).trans hx101_6
              replace hx101_7 := (HB.out.cell (World.block_lt_of_cell? w _ hx101_7)).trans hx101_7
              replace hx101_8 := (HB.out.cell (World.block_lt_of_cell? w _ hx101_8)).trans hx101_8
              have HR101_7 := Aside0.mk hi101_7
              have HC101_7 := Aside0.mk hl101_7
              clear hi101_7 hl101_7
              have HR101_8 := Aside0.mk hi101_8
              have HC101_8 := Aside0.mk hl101_8
              clear hi101_8 hl101_8
              replace p101 := eq_true p101
              replace q101 := eq_true q101
              go_wp2_with (first | ((with_reducible refine gate_dst (N := 8) rfl ?_); refine box_event ?hg (N := 8) ?hd (cs := #[.int .i64 0, .int .i64 0, .int .i64 0, .int .i64 0, .int .i64 0, .int .i64 0, .int .u64 0, .slice none 0 0, .slice none 0 0]) (t := 71) ?hr ?_; (case hd => rfl); (case hg => rfl); (case hr => first | (go_simp; done) | (go_simp; rfl)); intro gb102 hg w16 hbox hb; have n0_ := Aside0.mk (below_step (by repeat (first | (with_reducible first | exact HB.out | apply below_alloc | apply pw_below_drewN | apply below_drew1) | exact HB.out)) hb); have n1_ := Aside0.mk (hbox); have n2_ := Aside0.mk ((by rw [hg]; exact (below_size (by repeat (first | (with_reducible first | exact HB.out | apply below_alloc | apply pw_below_drewN | apply below_drew1) | exact HB.out))) : w.heap.size ≤ gb102)); have n3_ := Aside0.mk ((by rw [hg]; exact (below_size (by repeat (first | (with_reducible first | exact HB.out | apply below_alloc | apply pw_below_drewN | apply below_drew1) | exact HB.out))) : w.heap.size ≤ gb102)); clear HB; have HB := n0_; have BK102 := n1_; have GW102 := n2_; have GE102 := n3_; clear n0_ n1_ n2_ n3_; clear hb hbox hg; have hcz17_0 : w16.cell? ⟨gb102, 0, none⟩ = some (.int .i64 0) := (blk_cell BK102.out 0).trans rfl; have hcz17_1 : w16.cell? ⟨gb102, 1, none⟩ = some (.int .i64 0) := (blk_cell BK102.out 1).trans rfl; have hcz17_2 : w16.cell? ⟨gb102, 2, none⟩ = some (.int .i64 0) := (blk_cell BK102.out 2).trans rfl; have hcz17_3 : w16.cell? ⟨gb102, 3, none⟩ = some (.int .i64 0) := (blk_cell BK102.out 3).trans rfl; have hcz17_4 : w16.cell? ⟨gb102, 4, none⟩ = some (.int .i64 0) := (blk_cell BK102.out 4).trans rfl; have hcz17_5 : w16.cell? ⟨gb102, 5, none⟩ = some (.int .i64 0) := (blk_cell BK102.out 5).trans rfl; have hcz17_6 : w16.cell? ⟨gb102, 6, none⟩ = some (.int .u64 0) := (blk_cell BK102.out 6).trans rfl; have hcz17_7 : w16.cell? ⟨gb102, 7, none⟩ = some (.slice none 0 0) := (blk_cell BK102.out 7).trans rfl; have hcz17_8 : w16.cell? ⟨gb102, 8, none⟩ = some (.slice none 0 0) := (blk_cell BK102.out 8).trans rfl; have hfz17_0 := blk_frozen BK102.out 0; have hfz17_1 := blk_frozen BK102.out 1; have hfz17_2 := blk_frozen BK102.out 2; have hfz17_3 := blk_frozen BK102.out 3; have hfz17_4 := blk_frozen BK102.out 4; have hfz17_5 := blk_frozen BK102.out 5; have hfz17_6 := blk_frozen BK102.out 6; have hfz17_7 := blk_frozen BK102.out 7; have hfz17_8 := blk_frozen BK102.out 8))
              go_roundg k1
              case measure => have := HK1.out; omega
              case rel => exact ⟨(wrap64 (x7_1 + 1)), (by first | rfl | (simp; done) | (simp [*]; done)), H', ⟨by have := HK1.out; omega⟩, ⟨by repeat (first | (with_reducible first | exact HB.out | apply below_alloc | apply pw_below_drewN | apply below_drew1 | refine below_set ?_ GE102.out) | exact HB.out)⟩⟩
          · rw [if_neg c6] at H
            have c6b0 : decide (a1 ≤ ((rd_T71 l0 x7_1).f0)) = false := decide_eq_false c6
            clear c6
            have H' := Aside0.mk H
            clear H
            have p101 : 0 ≤ (x7_1 : Int) := of_decide_eq_true (by first | (with_reducible assumption) | assumption)
            have q101 : x7_1 < (l0.length : Int) := of_decide_eq_true (by first | (with_reducible assumption) | assumption)
            obtain ⟨ad101, A101_7, c101_7, A101_8, c101_8, e101, hx101_0, hx101_1, hx101_2, hx101_3, hx101_4, hx101_5, hx101_6, hx101_7, hx101_8, hl101_7, hi101_7, hl101_8, hi101_8⟩ := at_T71 HR0.out x7_1 p101 q101
            cases e101
            replace hx101_0 := (HB.out.cell (World.block_lt_of_cell? w _ hx101_0)).trans hx101_0
            replace hx101_1 := (HB.out.cell (World.block_lt_of_cell? w _ hx101_1)).trans hx101_1
            replace hx101_2 := (HB.out.cell (World.block_lt_of_cell? w _ hx101_2)).trans hx101_2
            replace hx101_3 := (HB.out.cell (World.block_lt_of_cell? w _ hx101_3)).trans hx101_3
            replace hx101_4 := (HB.out.cell (World.block_lt_of_cell? w _ hx101_4)).trans hx101_4
            replace hx101_5 := (HB.out.cell (World.block_lt_of_cell? w _ hx101_5)).trans hx101_5
            replace hx101_6 := (HB.out.cell (World.block_lt_of_cell? w _ hx101_6)).trans hx101_6
            replace hx101_7 := (HB.out.cell (World.block_lt_of_cell? w _ hx101_7)).trans hx101_7
            replace hx101_8 := (HB.out.cell (World.block_lt_of_cell? w _ hx101_8)).trans hx101_8
            have HR101_7 := Aside0.mk hi101_7
            have HC101_7 := Aside0.mk hl101_7
            clear hi101_7 hl101_7
            have HR101_8 := Aside0.mk hi101_8
            have HC101_8 := Aside0.mk hl101_8
            clear hi101_8 hl101_8
            replace p101 := eq_true p101
            replace q101 := eq_true q101
            go_wp2_with (first | ((with_reducible refine gate_dst (N := 8) rfl ?_); refine box_event ?hg (N := 8) ?hd (cs := #[.int .i64 0, .int .i64 0, .int .i64 0, .int .i64 0, .int .i64 0, .int .i64 0, .int .u64 0, .slice none 0 0, .slice none 0 0]) (t := 71) ?hr ?_; (case hd => rfl); (case hg => rfl); (case hr => first | (go_simp; done) | (go_simp; rfl)); intro gb102 hg w18 hbox hb; have n0_ := Aside0.mk (below_step (by repeat (first | (with_reducible first | exact HB.out | apply below_alloc | apply pw_below_drewN | apply below_drew1) | exact HB.out)) hb); have n1_ := Aside0.mk (hbox); have n2_ := Aside0.mk ((by rw [hg]; exact (below_size (by repeat (first | (with_reducible first | exact HB.out | apply below_alloc | apply pw_below_drewN | apply below_drew1) | exact HB.out))) : w.heap.size ≤ gb102)); have n3_ := Aside0.mk ((by rw [hg]; exact (below_size (by repeat (first | (with_reducible first | exact HB.out | apply below_alloc | apply pw_below_drewN | apply below_drew1) | exact HB.out))) : w.heap.size ≤ gb102)); clear HB; have HB := n0_; have BK102 := n1_; have GW102 := n2_; have GE102 := n3_; clear n0_ n1_ n2_ n3_; clear hb hbox hg; have hcz19_0 : w18.cell? ⟨gb102, 0, none⟩ = some (.int .i64 0) := (blk_cell BK102.out 0).trans rfl; have hcz19_1 : w18.cell? ⟨gb102, 1, none⟩ = some (.int .i64 0) := (blk_cell BK102.out 1).trans rfl; have hcz19_2 : w18.cell? ⟨gb102, 2, none⟩ = some (.int .i64 0) := (blk_cell BK102.out 2).trans rfl; have hcz19_3 : w18.cell? ⟨gb102, 3, none⟩ = some (.int .i64 0) := (blk_cell BK102.out 3).trans rfl; have hcz19_4 : w18.cell? ⟨gb102, 4, none⟩ = some (.int .i64 0) := (blk_cell BK102.out 4).trans rfl; have hcz19_5 : w18.cell? ⟨gb102, 5, none⟩ = some (.int .i64 0) := (blk_cell BK102.out 5).trans rfl; have hcz19_6 : w18.cell? ⟨gb102, 6, none⟩ = some (.int .u64 0) := (blk_cell BK102.out 6).trans rfl; have hcz19_7 : w18.cell? ⟨gb102, 7, none⟩ = some (.slice none 0 0) := (blk_cell BK102.out 7).trans rfl; have hcz19_8 : w18.cell? ⟨gb102, 8, none⟩ = some (.slice none 0 0) := (blk_cell BK102.out 8).trans rfl; have hfz19_0 := blk_frozen BK102.out 0; have hfz19_1 := blk_frozen BK102.out 1; have hfz19_2 := blk_frozen BK102.out 2; have hfz19_3 := blk_frozen BK102.out 3; have hfz19_4 := blk_frozen BK102.out 4; have hfz19_5 := blk_frozen BK102.out 5; have hfz19_6 := blk_frozen BK102.out 6; have hfz19_7 := blk_frozen BK102.out 7; have hfz19_8 := blk_frozen BK102.out 8))
            go_roundg k1
            case measure => have := HK1.out; omega
            case rel => exact ⟨(wrap64 (x7_1 + 1)), (by first | rfl | (simp; done) | (simp [*]; done)), H', ⟨by have := HK1.out; omega⟩, ⟨by repeat (first | (with_reducible first | exact HB.out | apply below_alloc | apply pw_below_drewN | apply below_drew1 | refine below_set ?_ GE102.out) | exact HB.out)⟩⟩
        · rw [if_neg c5] at H
          exact absurd H (by simp)
      · rw [if_neg c4] at H
        have c4b0 : decide (x7_1 < (l0.length : Int)) = false := decide_eq_false c4
        clear c4
        obtain rfl := Option.some.inj H
        go_wp2
        go_ret
        exact ⟨by first | rfl | (simp [errW_none, errW_some] <;> rfl) | (simp [*, errW_none, errW_some] <;> rfl), by repeat (first | (with_reducible first | exact HB.out | apply below_alloc | apply pw_below_drewN | apply below_drew1) | exact HB.out)⟩

/-! ### larderlaw1_WordNumbers: function 11 -/
def larderlaw1_WordNumbers.f (k : Nat) (l0 : List (S71)) : Option (Bool) := (larderlaw1_upTo.f k l0 6 10).bind fun t104 => (some t104)
theorem larderlaw1_WordNumbers.mono : ∀ a0 k, LeO (larderlaw1_WordNumbers.f k a0) (larderlaw1_WordNumbers.f (k + 1) a0) := by
  intro a0 k
  unfold larderlaw1_WordNumbers.f
  repeat' first
      | (with_reducible exact larderlaw1_upTo.mono _ _ _ _)
      | (with_reducible exact LeO.refl _)
      | (with_reducible exact LeO.none _)
      | (with_reducible refine LeO.ite ?_ ?_)
      | (with_reducible refine LeO.bind ?_ (fun _ => ?_))
      | exact larderlaw1_upTo.mono _ _ _ _
      | exact LeO.none _
      | refine LeO.ite ?_ ?_
      | refine LeO.bind ?_ (fun _ => ?_)
set_option maxHeartbeats 8000000 in
set_option maxRecDepth 100000 in
theorem larderlaw1_WordNumbers.calls (k : Nat) (A0 : Option Addr) (c0 : Nat) (l0 : List (S71)) (r : Bool) (w : World) (hr0 : Kd.C k71 w A0 l0.length l0) (hc0 : l0.length ≤ c0) (h : larderlaw1_WordNumbers.f k l0 = some r) :
    Calls Try.prog 11 #[.slice A0 l0.length c0] w fun e w' => e = .returned (.bool r) ∧ Below w.heap.size w w' := by
  have HR0 := Aside0.mk hr0
  have HC0 := Aside0.mk hc0
  clear hr0 hc0
  have HB := Aside0.mk (Below.refl w.heap.size w)
  have H : ((larderlaw1_upTo.f k l0 6 10).bind fun t104 => (some t104)) = some r := h
  clear h
  replace H := Option.bind_eq_some_iff.mp H
  obtain ⟨t104, A20, H⟩ := H
  replace H : (some t104) = some r := H
  have A2 := Aside0.mk A20
  clear A20
  obtain rfl := Option.some.inj H
  go_enter Try.func11, Try.ntmps11
  go_wp2_with (first | ((with_reducible refine gate_callee (f := 42) rfl ?_); refine goesL_ (some 4) rfl rfl Try.func42 (by kernel_rfl) rfl #[.slice A0 l0.length c0, .int .i64 6, .int .i64 10] rfl (by (try simp only [List.map_toArray, List.map_cons, List.map_nil]); first | done | rfl | (simp only [List.length_drop, List.length_take]; rfl)) ?_; (with_reducible refine (larderlaw1_upTo.calls k _ _ l0 6 10 t104 _ ?side1 ?side2 A2.out).mono ?_); (case side1 => repeat (first | exact HR0.out | (with_reducible refine Kd.C_alloc ?_ _) | (with_reducible refine Kd.C_drewN ?_ _) | (with_reducible refine Kd.C_drew ?_))); (case side2 => exact HC0.out); rintro e w3 ⟨rfl, hb⟩; refine ⟨_, rfl, ?_⟩; have n0_ := Aside0.mk (below_step (by repeat (first | (with_reducible first | exact HB.out | apply below_alloc | apply pw_below_drewN | apply below_drew1) | exact HB.out)) hb); clear HB; have HB := n0_; clear n0_; (try clear hb); (try clear hb2); (try clear hk); (try clear hi)))
  go_ret
  exact ⟨by first | rfl | (simp [errW_none, errW_some] <;> rfl) | (simp [*, errW_none, errW_some] <;> rfl), by repeat (first | (with_reducible first | exact HB.out | apply below_alloc | apply pw_below_drewN | apply below_drew1) | exact HB.out)⟩

/-! ### larderlaw1_WordAll: function 13 -/
def larderlaw1_WordAll.f (k : Nat) (l0 : List (S71)) : Option (Bool) := (larderlaw1_upTo.f k l0 1 12).bind fun t105 => (some t105)
theorem larderlaw1_WordAll.mono : ∀ a0 k, LeO (larderlaw1_WordAll.f k a0) (larderlaw1_WordAll.f (k + 1) a0) := by
  intro a0 k
  unfold larderlaw1_WordAll.f
  repeat' first
      | (with_reducible exact larderlaw1_upTo.mono _ _ _ _)
      | (with_reducible exact LeO.refl _)
      | (with_reducible exact LeO.none _)
      | (with_reducible refine LeO.ite ?_ ?_)
      | (with_reducible refine LeO.bind ?_ (fun _ => ?_))
      | exact larderlaw1_upTo.mono _ _ _ _
      | exact LeO.none _
      | refine LeO.ite ?_ ?_
      | refine LeO.bind ?_ (fun _ => ?_)
set_option maxHeartbeats 8000000 in
set_option maxRecDepth 100000 in
theorem larderlaw1_WordAll.calls (k : Nat) (A0 : Option Addr) (c0 : Nat) (l0 : List (S71)) (r : Bool) (w : World) (hr0 : Kd.C k71 w A0 l0.length l0) (hc0 : l0.length ≤ c0) (h : larderlaw1_WordAll.f k l0 = some r) :
    Calls Try.prog 13 #[.slice A0 l0.length c0] w fun e w' => e = .returned (.bool r) ∧ Below w.heap.size w w' := by
  have HR0 := Aside0.mk hr0
  have HC0 := Aside0.mk hc0
  clear hr0 hc0
  have HB := Aside0.mk (Below.refl w.heap.size w)
  have H : ((larderlaw1_upTo.f k l0 1 12).bind fun t105 => (some t105)) = some r := h
  clear h
  replace H := Option.bind_eq_some_iff.mp H
  obtain ⟨t105, A20, H⟩ := H
  replace H : (some t105) = some r := H
  have A2 := Aside0.mk A20
  clear A20
  obtain rfl := Option.some.inj H
  go_enter Try.func13, Try.ntmps13
  go_wp2_with (first | ((with_reducible refine gate_callee (f := 42) rfl ?_); refine goesL_ (some 4) rfl rfl Try.func42 (by kernel_rfl) rfl #[.slice A0 l0.length c0, .int .i64 1, .int .i64 12] rfl (by (try simp only [List.map_toArray, List.map_cons, List.map_nil]); first | done | rfl | (simp only [List.length_drop, List.length_take]; rfl)) ?_; (with_reducible refine (larderlaw1_upTo.calls k _ _ l0 1 12 t105 _ ?side1 ?side2 A2.out).mono ?_); (case side1 => repeat (first | exact HR0.out | (with_reducible refine Kd.C_alloc ?_ _) | (with_reducible refine Kd.C_drewN ?_ _) | (with_reducible refine Kd.C_drew ?_))); (case side2 => exact HC0.out); rintro e w3 ⟨rfl, hb⟩; refine ⟨_, rfl, ?_⟩; have n0_ := Aside0.mk (below_step (by repeat (first | (with_reducible first | exact HB.out | apply below_alloc | apply pw_below_drewN | apply below_drew1) | exact HB.out)) hb); clear HB; have HB := n0_; clear n0_; (try clear hb); (try clear hb2); (try clear hk); (try clear hi)))
  go_ret
  exact ⟨by first | rfl | (simp [errW_none, errW_some] <;> rfl) | (simp [*, errW_none, errW_some] <;> rfl), by repeat (first | (with_reducible first | exact HB.out | apply below_alloc | apply pw_below_drewN | apply below_drew1) | exact HB.out)⟩

end Go.Proofs.Ytgngpbcbnfmoiaa.PO
end

section
-- PRINTED by print.py (a twelfth state) out of the translation. Not trusted: Lean checks it.
namespace Go.Proofs.Ytgngpbcbnfmoiaa.PO
open Go.RowKit Go.Proofs.YtgngpbcbnfmoiaaW.PrintWords Go.Proofs.YtgngpbcbnfmoiaaW.PrintLast Go.Proofs.YtgngpbcbnfmoiaaW.PrintMore
attribute [local go_sem] max2_int min2_int max_two min_two max_three min_three max_four min_four   -- for this text's walks alone
open Go.Proofs.Ytgngpbcbnfmoiaa.PA Go.Proofs.Ytgngpbcbnfmoiaa.PB Go.Proofs.Ytgngpbcbnfmoiaa.PD Go.Proofs.Ytgngpbcbnfmoiaa.PN
set_option linter.unusedVariables false
set_option linter.unusedSimpArgs false

end Go.Proofs.Ytgngpbcbnfmoiaa.PO
end

section
/- WordAll: true at every script; the machine's call answers it. -/
namespace Go.Proofs.Ytgngpbcbnfmoiaa.AllP
open Go Go.RowKit Go.Proofs.YtgngpbcbnfmoiaaW.PrintWords Go.Proofs.YtgngpbcbnfmoiaaW.PrintLast Go.Proofs.YtgngpbcbnfmoiaaW.PrintMore Go.Proofs.Ytgngpbcbnfmoiaa.PO Go.Proofs.Ytgngpbcbnfmoiaa.ArgsW Go.Proofs.Ytgngpbcbnfmoiaa.Open

theorem o_op : Opens Try.prog 71 k71 (fun y => PQ.goodOp y.f1 y.f4 y.f5 y.f6 y.f7 y.f8) :=
  fun F => (at_iso (fun x : S71 => (x.f0, x.f1, x.f2, x.f3, x.f4, x.f5, x.f6, x.f7, x.f8)) (fun t => ⟨t.1, t.2.1, t.2.2.1, t.2.2.2.1, t.2.2.2.2.1, t.2.2.2.2.2.1, t.2.2.2.2.2.2.1, t.2.2.2.2.2.2.2.1, t.2.2.2.2.2.2.2.2⟩) (fun _ => rfl)
    ((opens_struct Try.underlying71 rfl (by kernel_rfl) (fields2 rfl o_int (fields2 rfl o_int (fields2 rfl o_int (fields2 rfl o_int (fields2 rfl o_i64 (fields2 rfl o_i64 (fields2 rfl o_u64 (fields2 rfl o_bytes (fields1 rfl o_words))))))))) F))).good_imp
    (fun _ h => ⟨h.2.1, h.2.2.2.2.1, h.2.2.2.2.2.1, h.2.2.2.2.2.2.1, h.2.2.2.2.2.2.2.1, h.2.2.2.2.2.2.2.2⟩)
theorem o_ops : Opens Try.prog 49 (Kd.slice 71 k71) (GoodL 104 (fun y => PQ.goodOp y.f1 y.f4 y.f5 y.f6 y.f7 y.f8)) :=
  opens_slice Try.underlying49 (by kernel_rfl) (by kernel_rfl) o_op

theorem upTo_ev (l : List S71) (lo hi : Int) (hn : l.length < 9223372036854775807) (hp : ∀ y ∈ l, lo ≤ y.f0 → y.f0 ≤ hi → PN.larderlaw1_plays.f y.f0 y.f1 y.f2 y.f3 y.f4 y.f5 y.f6 y.f7 y.f8 = some true) (d : Nat) :
    ∀ i : Nat, i + d = l.length → Ev (fun k => larderlaw1_upTo.l0 k l lo hi i) true := by
  induction d with
  | zero =>
    intro i hi'
    refine Ev.step (f := fun _ => some true) (fun k => ?_) (Ev.now true)
    simp only [larderlaw1_upTo.l0]
    rw [if_neg (by omega)]
  | succ d ih =>
    intro i hi'
    have hlt : i < l.length := by omega
    have hw : wrap64 ((i : Int) + 1) = ((i + 1 : Nat) : Int) := by unfold wrap64; omega
    have hrd : rd_T71 l (i : Int) = l[i] := by unfold rd_T71; rw [Int.toNat_natCast, List.getD_eq_getElem?_getD, List.getElem?_eq_getElem hlt]; rfl
    refine Ev.step (f := fun k => larderlaw1_upTo.l0 k l lo hi ((i + 1 : Nat) : Int)) (fun k => ?_) (ih (i + 1) (by omega))
    simp only [larderlaw1_upTo.l0]
    rw [if_pos (by omega), if_pos (by omega), hrd, hw]
    by_cases c1 : l[i].f0 ≥ lo
    · rw [if_pos c1]
      by_cases c2 : l[i].f0 ≤ hi
      · rw [if_pos c2, hp _ (List.getElem_mem hlt) c1 c2, Option.bind_some, if_pos rfl]
      · rw [if_neg c2]
    · rw [if_neg c1]

theorem walk (y : List S71) (v : Value) (W : World) (hK : (Kd.slice 71 k71).K W y [v]) (hg : GoodL 104 (fun y => PQ.goodOp y.f1 y.f4 y.f5 y.f6 y.f7 y.f8) y) :
    Calls Try.prog 13 #[v] W fun e w' => e = .returned (.bool true) ∧ Below W.heap.size W w' := by
  obtain ⟨A, c, hv, hl, hC⟩ := hK
  obtain rfl : v = .slice A y.length c := by simpa using hv
  have h := upTo_ev y 1 12 (by have := hg.1; omega) (fun o ho h1 h2 => if_pos ⟨by omega, hg.2 o ho⟩) y.length 0 (by omega)
  obtain ⟨k, hk⟩ := Ev.rounds (Ev.congr (g := fun k => larderlaw1_WordAll.f k y) (fun k => by
    unfold larderlaw1_WordAll.f larderlaw1_upTo.f
    cases larderlaw1_upTo.l0 k y 1 12 0 <;> rfl) h)
  exact larderlaw1_WordAll.calls k A c y true W hC hl hk
end Go.Proofs.Ytgngpbcbnfmoiaa.AllP
end

section
/- The law WordAll as its given statement says it: for every argument that can be read as data the call returns true, and what the argument leads to reads as before. No condition. -/
namespace Go.Proofs.Ytgngpbcbnfmoiaa.LawWordAll
open Go.ChangeShapes Go.WideShapes Go.ChangeAt Go.RowKit
open Go.ChangeMaps (open_string shut_string)
theorem own : ownKnob Try.prog.godebug = none := by kernel_rfl
theorem laidOut : laidOutB Try.prog = true := by kernel_rfl
set_option maxRecDepth 100000 in
theorem lifted (os : Os) (started : os.Started) (H : Type) (enc : TypeId × Value → H) :
    ReturnsInHanded {} Try.checked os 13 .any (Rows.wordAllSpec.pre6 enc Try.prog Try.f13 Rows.wordAllRow.domain false) (Rows.wordAllSpec.post enc Try.prog Try.f13 false true false false) := by
  refine returnsInHanded_of_change_sized (C := Try.checked) own started (by kernel_rfl) Try.func13
    (ChangeSpec.witness6 (enc := enc) (C := Try.checked) false ⟨#[], #[.slice none 0 0], []⟩ 8 (by kernel_rfl) (by kernel_rfl) (by kernel_rfl) (by kernel_rfl)) ?_
  intro W base args ds gs before hval0 hW _ hsz0 _
  have hsz : (DataW.weightsEach Try.prog (Try.f13.params.toList ++ Rows.wordAllSpec.plain.varTypes Try.prog) (ds ++ gs)).all (· ≤ reachBytes) = true := hsz0
  have hval : ∀ (j : Nat) t v, Try.f13.params[j]? = some t → args[j]? = some v → Value.okWide Try.prog W .any base t v := hval0
  have hW' := hW
  obtain ⟨p, q, hA0, hV, rfl, _, _⟩ := hW
  have hA : DataW.TrodAll enc Try.prog W 0 (fun _ => true) true Try.f13.params.toList args.toList ds p := hA0
  rw [Try.params13] at hA hval hsz
  obtain ⟨v0, vs0, d0, ds0, p0, q0, hargs, rfl, rfl, h0, r0⟩ := trodAll_cons hA
  obtain ⟨rfl, rfl, rfl⟩ := trodAll_nil r0
  obtain rfl : args = #[v0] := by cases args; simp_all
  obtain ⟨rfl, rfl⟩ := trodVars_none hV
  have k0 := h0
  have lt0 : ∀ x ∈ p0, x.block < W.heap.size := by obtain ⟨m, hm⟩ := k0; exact DataW.trod_lt m _ _ _ hm
  obtain ⟨y, hK, hg⟩ := Open.open_arg AllP.o_ops hsz (j := 0) rfl rfl h0
  obtain ⟨a0, len0, cap0, rfl⟩ := okWide_slice Try.underlying49 (hval 0 _ v0 rfl rfl)
  clear hA0 hval0 hsz0 hsz
  refine (AllP.walk y _ W hK hg).mono fun e W' ⟨he, bel⟩ => ?_
  subst he
  exact ⟨_, rfl, _, _, _, [], _, [], hW', trodAll_mk1 (shut_bool Try.underlying4 _), (trodAll_cons_mk (Below.trod laidOut (by kernel_rfl) (of_decide_eq_true (by kernel_rfl)) k0 bel lt0) trodAll_mk0), rfl, bel.frame _, fun h => by cases h⟩
theorem over : Rows.wordAllRow.holds Try.pinned (OpenSpec.ofChange Rows.wordAllSpec) :=
  OpenClaim.holds_of_wide 13 Try.f13 rfl rfl rfl rfl rfl rfl rfl ⟨rfl, rfl, rfl, rfl, rfl⟩ rfl rfl rfl rfl rfl (by kernel_rfl) Try.func13 (by kernel_rfl)
    (of_decide_eq_true (by kernel_rfl)) (by unfold Func.isWrapper; first | (rw [if_pos (by decide +kernel)]; kernel_rfl) | (rw [if_neg (by decide +kernel)]; exact ⟨rfl, rfl⟩))
    (fun os started H enc _ => lifted os started H enc)
theorem proved : Rows.WordAllSaid := over
#print axioms proved
end Go.Proofs.Ytgngpbcbnfmoiaa.LawWordAll
namespace Go.Proofs.Ytgngpbcbnfmoiaa
/-- The row, under a short name, for the claim. -/
theorem wordAll_holds : Rows.WordAllSaid := LawWordAll.proved
end Go.Proofs.Ytgngpbcbnfmoiaa
end
