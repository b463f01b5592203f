/- match.quoted and the class's has, not, add: the machine's calls say what GlobS says. -/
import Derived.Test.YtdflblegdfpdpaaDoorWMore
import Derived.Test.YtdflblegdfpdpaaDoorProg
import Derived.Test.YtdflblegdfpdpaaDoorNumA
import Derived.Test.YtdflblegdfpdpaaDoorGlobT
import Derived.WalkKit
import Derived.Laws.Shifts
import Derived.Lib.Hide
import Derived.Deep.RegionHeld3
namespace Go.Proofs.YtdflblegdfpdpaaDoor.GlobW
open Go Go.RowKit Go.Proofs.YtdflblegdfpdpaaDoorW.PrintWords Go.Proofs.YtdflblegdfpdpaaDoorW.PrintLast Go.Proofs.YtdflblegdfpdpaaDoorW.PrintMore Go.Proofs.YtdflblegdfpdpaaDoor.GlobS
set_option linter.unusedVariables false
set_option maxRecDepth 100000

theorem rd_drop (l : List Int) (i : Nat) (h : i < l.length) : l.drop i = rd l (i : Int) :: l.drop (i + 1) := by
  rw [List.drop_eq_getElem_cons h]
  congr 1
  unfold rd
  rw [Int.toNat_natCast, List.getD_eq_getElem?_getD, List.getElem?_eq_getElem h]
  rfl
/-- Where quoted goes on. -/
def qTo (l : List Int) (i : Nat) : Nat := if rd l i = 92 ∧ i + 1 < l.length then i + 2 else i + 1
def qAt (l : List Int) (i : Nat) : Int := if rd l i = 92 ∧ i + 1 < l.length then rd l ((i + 1 : Nat) : Int) else rd l i
theorem quotedL_at (l : List Int) (i : Nat) (h : i < l.length) : quotedL (l.drop i) = (qAt l i, l.drop (qTo l i)) := by
  unfold qAt qTo
  rw [rd_drop l i h]
  by_cases h1 : i + 1 < l.length
  · rw [rd_drop l (i + 1) h1]
    by_cases h2 : rd l i = 92
    · rw [if_pos ⟨h2, h1⟩, if_pos ⟨h2, h1⟩, h2]
      rfl
    · rw [if_neg (fun h => h2 h.1), if_neg (fun h => h2 h.1)]
      unfold quotedL
      split
      · rename_i hh
        injection hh with e1 e2
        exact absurd e1 h2
      · rename_i hh
        injection hh with e1 e2
        rw [← e1, ← e2, rd_drop l (i + 1) h1]
      · rename_i hh; cases hh
  · rw [if_neg (fun h => h1 h.2), if_neg (fun h => h1 h.2), List.drop_eq_nil_of_le (show l.length ≤ i + 1 by omega)]
    unfold quotedL
    split
    · rename_i hh; injection hh with e1 e2; cases e2
    · rename_i hh; injection hh with e1 e2; rw [← e1, ← e2]
    · rename_i hh; cases hh
theorem qTo_le (l : List Int) (i : Nat) (h : i < l.length) : i < qTo l i ∧ qTo l i ≤ l.length := by unfold qTo; split <;> omega

set_option maxHeartbeats 800000 in
theorem quoted.calls (A : Option Addr) (c i : Nat) (l : List Int) (w : World) (hr : Kd.C (Kd.int .u8) w A l.length l) (hc : l.length ≤ c) (hi : i < l.length) :
    Calls Tryd.prog 52 #[.slice A l.length c, .int .i64 i] w fun e w' => e = .returned (.tuple #[.int .u8 (qAt l i), .int .i64 (qTo l i : Nat)]) ∧ w' = w := by
  have hlen := hr.2.1
  obtain ⟨ad, rfl, hcA⟩ := Kd.at_int hr (i : Int) (by omega) (by omega)
  simp only [Int.toNat_natCast] at hcA
  unfold qAt qTo
  by_cases h2 : rd l i = 92
  · have h3 : (rd l i == 92) = true := by simp [h2]
    by_cases h1 : i + 1 < l.length
    · obtain ⟨ad', hh, hcB⟩ := Kd.at_int hr ((i + 1 : Nat) : Int) (by omega) (by omega)
      obtain rfl : ad = ad' := Option.some.inj hh
      have hcB' : w.cell? ⟨ad.block, ad.off + (i + 1), none⟩ = some (.int .u8 (rd l ((i + 1 : Nat) : Int))) := hcB
      have hv1 : wrap64 ((i : Int) + 1) = ((i + 1 : Nat) : Int) := by unfold wrap64; omega
      have hv2 : wrap64 ((i : Int) + 2) = ((i + 2 : Nat) : Int) := by unfold wrap64; omega
      have h4 : decide (i + 1 < l.length) = true := decide_eq_true h1
      have h5 : decide ((i : Int) + 1 < l.length) = true := decide_eq_true (by omega)
      rw [if_pos ⟨h2, h1⟩, if_pos ⟨h2, h1⟩]
      clear hh h2 hr hcB
      go_enter Tryd.func52, Tryd.ntmps52
      go_wp2
      go_ret2
      exact ⟨rfl, rfl⟩
    · have hv1 : wrap64 ((i : Int) + 1) = ((i + 1 : Nat) : Int) := by unfold wrap64; omega
      have h4 : decide (i + 1 < l.length) = false := decide_eq_false h1
      have h5 : decide ((i : Int) + 1 < l.length) = false := decide_eq_false (by omega)
      rw [if_neg (fun h => h1 h.2), if_neg (fun h => h1 h.2)]
      clear h2 hr
      go_enter Tryd.func52, Tryd.ntmps52
      go_wp2
      go_ret2
      exact ⟨rfl, rfl⟩
  · have h3 : (rd l i == 92) = false := by simp [h2]
    have hv1 : wrap64 ((i : Int) + 1) = ((i + 1 : Nat) : Int) := by unfold wrap64; omega
    rw [if_neg (fun h => h2 h.1), if_neg (fun h => h2 h.1)]
    clear h2 hr
    go_enter Tryd.func52, Tryd.ntmps52
    go_wp2
    go_ret2
    exact ⟨rfl, rfl⟩

theorem has.calls (g o : Nat) (q : Q) (b : Nat) (w : World) (hq : QIn q) (hb : b < 256) (h : ∀ k, k < 4 → w.cell? ⟨g, o + k, none⟩ = some (.int .u64 (wordOf q k))) :
    Calls Tryd.prog 28 #[.pointer (some ⟨g, o, none⟩), .int .u8 b] w fun e w' => e = .returned (.bool (has q b)) ∧ w' = w := by
  have hcell := h (b / 64) (by omega)
  have hlt := hq.word (b / 64)
  have hv : bits .and .u8 (b : Int) 63 = ((b % 64 : Nat) : Int) := by
    have := bits_mask .u8 8 (by decide) wraps_u8 6 (by decide) (b : Int) (by omega) (by omega)
    rw [show (63 : Int) = 2 ^ 6 - 1 by decide, this]; omega
  have ht : has q b = (wordOf q (b / 64)).testBit (b % 64) := rfl
  rw [ht]
  generalize wordOf q (b / 64) = x at *
  clear h ht
  go_enter Tryd.func28, Tryd.ntmps28
  go_wp2
  go_ret
  refine ⟨congrArg (fun b => Ending.returned (.bool b)) ?_, rfl⟩
  have e1 : (x : Int) / 2 ^ (b % 64) = ((x / 2 ^ (b % 64) : Nat) : Int) := by rw [Int.natCast_ediv]; rw [Int.natCast_pow]; rfl
  have e2 := bits_mask .u64 64 (by decide) (fun n h0 h1 => by rw [IntKind.wrap_u64]; omega) 1 (by decide) ((x / 2 ^ (b % 64) : Nat) : Int) (Int.natCast_nonneg _) (by have : x / 2 ^ (b % 64) ≤ x := Nat.div_le_self _ _; generalize x / 2 ^ (b % 64) = y at this; omega)
  rw [show ((2 : Int) ^ 1 - 1) = 1 by decide] at e2
  show (bits BinOp.and IntKind.u64 ((x : Int) / 2 ^ (b % 64)) 1 == 1) = x.testBit (b % 64)
  rw [e1, e2, Nat.testBit_eq_decide_div_mod_eq, Bool.eq_iff_iff]
  simp
  omega
/-- A set laid over four cells. -/
def put4 (cs : Array Value) (o : Nat) (q : Q) : Array Value := (((cs.setIfInBounds o (.int .u64 (q.1 : Nat))).setIfInBounds (o + 1) (.int .u64 (q.2.1 : Nat))).setIfInBounds (o + 2) (.int .u64 (q.2.2.1 : Nat))).setIfInBounds (o + 3) (.int .u64 (q.2.2.2 : Nat))
def Has4 (cs : Array Value) (o : Nat) (q : Q) : Prop := ∀ k, k < 4 → cs[o + k]? = some (.int .u64 (wordOf q k : Nat))
theorem put4_get (cs : Array Value) (o : Nat) (q : Q) (ho : o + 4 ≤ cs.size) : Has4 (put4 cs o q) o q := by
  intro k hk
  unfold put4
  have : k = 0 ∨ k = 1 ∨ k = 2 ∨ k = 3 := by omega
  rcases this with rfl | rfl | rfl | rfl <;> simp [Array.getElem?_setIfInBounds, wordOf] <;> omega
theorem put4_size (cs : Array Value) (o : Nat) (q : Q) : (put4 cs o q).size = cs.size := by simp [put4]
theorem put4_self (cs : Array Value) (o : Nat) (q : Q) (h : Has4 cs o q) : put4 cs o q = cs := by
  unfold put4
  apply Array.ext_getElem?
  intro i
  have h0 := h 0 (by decide)
  have h1 := h 1 (by decide)
  have h2 := h 2 (by decide)
  have h3 := h 3 (by decide)
  simp only [wordOf] at h0 h1 h2 h3
  simp only [Array.getElem?_setIfInBounds, Array.size_setIfInBounds]
  have l0 := (Array.getElem?_eq_some_iff.1 h0).1
  have l3 := (Array.getElem?_eq_some_iff.1 h3).1
  by_cases e3 : o + 3 = i
  · subst e3; simp at h3 ⊢; rw [if_pos (by omega), h3]
  by_cases e2 : o + 2 = i
  · subst e2; simp at h2 ⊢; rw [if_pos (by omega), h2]
  by_cases e1 : o + 1 = i
  · subst e1; simp at h1 ⊢; rw [if_pos (by omega), h1]
  by_cases e0 : o = i
  · subst e0; simp at h0 ⊢; rw [if_pos (by omega), h0]
  rw [if_neg e3, if_neg e2, if_neg e1, if_neg e0]
theorem put4_set (cs : Array Value) (o : Nat) (q : Q) (k v : Nat) (hk : k < 4) : (put4 cs o q).setIfInBounds (o + k) (.int .u64 (v : Nat)) = put4 cs o (setWord q k v) := by
  unfold put4 setWord
  apply Array.ext_getElem?
  intro i
  have : k = 0 ∨ k = 1 ∨ k = 2 ∨ k = 3 := by omega
  simp only [Array.getElem?_setIfInBounds, Array.size_setIfInBounds]
  by_cases e3 : o + 3 = i
  · subst e3; rcases this with rfl | rfl | rfl | rfl <;> simp
  by_cases e2 : o + 2 = i
  · subst e2; rcases this with rfl | rfl | rfl | rfl <;> simp
  by_cases e1 : o + 1 = i
  · subst e1; rcases this with rfl | rfl | rfl | rfl <;> simp
  by_cases e0 : o = i
  · subst e0; rcases this with rfl | rfl | rfl | rfl <;> simp
  rw [if_neg (by omega), if_neg e3, if_neg e2, if_neg e1, if_neg e0]
  rcases this with rfl | rfl | rfl | rfl <;> simp [e0, e1, e2, e3]

theorem and63 (b : Nat) (hb : b < 256) : bits .and .i64 (b : Int) 63 = ((b % 64 : Nat) : Int) := by
  have := bits_mask .i64 63 (by decide) (fun n h0 h1 => by rw [IntKind.wrap_i64]; omega) 6 (by decide) (b : Int) (by omega) (by omega)
  rw [show (63 : Int) = 2 ^ 6 - 1 by decide, this]; omega
theorem or_bit (x b : Nat) (hx : x < 18446744073709551616) : bits BinOp.or IntKind.u64 (x : Int) (IntKind.u64.wrap (2 ^ ((b : Int) % 64).toNat)) = ((x ||| 2 ^ (b % 64) : Nat) : Int) := by
  have h1 : 2 ^ (b % 64) < 2 ^ 64 := Nat.pow_lt_pow_right (by decide) (by omega)
  have h2 : ((b : Int) % 64).toNat = b % 64 := by omega
  have h3 : IntKind.u64.wrap ((2 : Int) ^ (b % 64)) = ((2 ^ (b % 64) : Nat) : Int) := by
    rw [IntKind.wrap_u64, show (2 : Int) ^ (b % 64) = ((2 ^ (b % 64) : Nat) : Int) by rw [Int.natCast_pow]; rfl]
    generalize 2 ^ (b % 64) = y at h1
    omega
  rw [h2, h3, NumA.or_u64_nat _ _ hx (by simpa using h1)]

/-- Amidst the rounds of add: the bytes below b are in. -/
structure AddInv (w wr : World) (g o : Nat) (cs : Array Value) (t : TypeId) (q q' : Q) (lo hi b : Nat) : Prop where
  qin : QIn q'
  rest : addRun q' b (hi + 1 - b) = addRun q lo (hi + 1 - lo)
  blk : wr.heap[g]? = some (.cells (put4 cs o q') t (0, 0))
  size : o + 4 ≤ cs.size
  below : Below g w wr
  keep : KeepBut w wr g none
  heap : wr.heap.size = w.heap.size
theorem AddInv.start (w : World) (g o : Nat) (cs : Array Value) (t : TypeId) (q : Q) (lo hi : Nat) (hq : QIn q) (hb : w.heap[g]? = some (.cells cs t (0, 0))) (hc : Has4 cs o q) : AddInv w w g o cs t q q lo hi lo :=
  ⟨hq, rfl, by rw [put4_self _ _ _ hc]; exact hb, by have := (Array.getElem?_eq_some_iff.1 (hc 3 (by decide))).1; omega, Below.refl _ _, KeepBut.refl _ _ _, rfl⟩
theorem AddInv.cell {w wr : World} {g o : Nat} {cs : Array Value} {t : TypeId} {q q' : Q} {lo hi b : Nat} (h : AddInv w wr g o cs t q q' lo hi b) (k : Nat) (hk : k < 4) : wr.cell? ⟨g, o + k, none⟩ = some (.int .u64 (wordOf q' k : Nat)) :=
  (blk_cell h.blk (o + k)).trans (put4_get cs o q' h.size k hk)
theorem AddInv.frozen {w wr : World} {g o : Nat} {cs : Array Value} {t : TypeId} {q q' : Q} {lo hi b : Nat} (h : AddInv w wr g o cs t q q' lo hi b) (k : Nat) : wr.frozen? ⟨g, k, none⟩ = false := blk_frozen h.blk k

theorem AddInv.step {w wr : World} {g o : Nat} {cs : Array Value} {t : TypeId} {q q' : Q} {lo hi b x : Nat} (h : AddInv w wr g o cs t q q' lo hi b) (hb : b ≤ hi) (hb2 : b < 256) (hx : wordOf q' (b / 64) = x) :
    AddInv w (wr.setCell ⟨g, o + ((b : Int) / 64).toNat, none⟩ (.int .u64 (bits BinOp.or IntKind.u64 (x : Int) (IntKind.u64.wrap (2 ^ ((b : Int) % 64).toNat))))).drew g o cs t q (addOne q' b) lo hi (b + 1) := by
  have hxl : x < 18446744073709551616 := hx ▸ h.qin.word _
  rw [or_bit x b hxl]
  refine ⟨h.qin.addOne b, ?_, ?_, h.size, ?_, ?_, ?_⟩
  · rw [← h.rest, show hi + 1 - b = (hi + 1 - (b + 1)) + 1 by omega]
    rfl
  · rw [show o + ((b : Int) / 64).toNat = o + b / 64 by omega]
    refine (blk_drew (blk_set h.blk (o + b / 64) _)).trans ?_
    rw [put4_set _ _ _ _ _ (by omega), ← hx]
    rfl
  · have := h.below
    refine ⟨?_, ?_, ?_, ?_, fun k hk => ?_⟩
    · exact this.os
    · exact this.tape
    · exact this.output
    · have h2 := h.keep.1; simpa [World.setCell, World.drew] using h2
    · exact (Below.heap_setCell wr _ _ k (by show k ≠ g; omega)).trans (this.block k hk)
  · exact keep_drew (h.keep.set_ _ _)
  · have h2 := h.heap; simpa [World.setCell, World.drew] using h2
theorem AddInv.done {w wr : World} {g o : Nat} {cs : Array Value} {t : TypeId} {q q' : Q} {lo hi b : Nat} (h : AddInv w wr g o cs t q q' lo hi b) (hb : hi + 1 ≤ b) : q' = addRun q lo (hi + 1 - lo) := by
  have := h.rest
  rw [show hi + 1 - b = 0 by omega] at this
  exact this

set_option maxHeartbeats 1600000 in
theorem add.calls (g o : Nat) (cs : Array Value) (t : TypeId) (q : Q) (lo hi : Nat) (w : World) (hq : QIn q) (hlo : lo < 256) (hhi : hi < 256) (hbl : w.heap[g]? = some (.cells cs t (0, 0))) (hcs : Has4 cs o q) :
    Calls Tryd.prog 39 #[.pointer (some ⟨g, o, none⟩), .int .u8 lo, .int .u8 hi] w fun e w' => e = .returned (.tuple #[]) ∧ w'.heap[g]? = some (.cells (put4 cs o (addQ q lo hi)) t (0, 0)) ∧ Below g w w' ∧ KeepBut w w' g none ∧ w'.heap.size = w.heap.size := by
  by_cases hsw : hi < lo
  · have c0 : decide ((hi : Int) < lo) = true := decide_eq_true (by omega)
    have c0' : decide (hi < lo) = true := decide_eq_true hsw
    go_enter Tryd.func39, Tryd.ntmps39
    go_wp2
    go_loopw [6] (fun v6 wr => ∃ (b : Nat) (q' : Q), v6 = .int .i64 b ∧ hi ≤ b ∧ b ≤ lo + 1 ∧ Aside0 (AddInv w wr g o cs t q q' hi lo b)) (fun v6 wr => lo + 1 - (intOf v6).toNat)
    case atStart => exact ⟨hi, q, rfl, Nat.le_refl _, by omega, ⟨AddInv.start w g o cs t q hi lo hq hbl hcs⟩⟩
    case round =>
      obtain ⟨b, q', rfl, hb1, hb2, HI⟩ := hrel
      by_cases hle : b ≤ lo
      · have c1 : decide ((b : Int) ≤ lo) = true := decide_eq_true (by omega)
        have c1' : decide (b ≤ lo) = true := decide_eq_true hle
        have hb256 : b < 256 := by omega
        have hcell : wr.cell? ⟨g, o + ((b : Int) / 64).toNat, none⟩ = _ := HI.out.cell (b / 64) (by omega)
        have hfz := HI.out.frozen (o + ((b : Int) / 64).toNat)
        have hi0 : (0 : Int) ≤ (b : Int) / 64 := by omega
        have hi1 : (b : Int) / 64 < 4 := by omega
        have hand : bits .and .i64 (b : Int) 63 = ((b % 64 : Nat) : Int) := and63 b hb256
        generalize hx : wordOf q' (b / 64) = x at hcell
        have hxl : x < 18446744073709551616 := by rw [← hx]; exact HI.out.qin.word _
        go_wp2
        go_region
        go_wp2
        go_roundw
        case rel => exact ⟨b + 1, addOne q' b, by go_num, by omega, by omega, ⟨HI.out.step hle hb256 hx⟩⟩
        case measure => simp [intOf]; omega
      · have c1 : decide ((b : Int) ≤ lo) = false := decide_eq_false (by omega)
        have c1' : decide (b ≤ lo) = false := decide_eq_false hle
        go_wp2
        go_end0
        obtain rfl := HI.out.done (by omega)
        refine ⟨rfl, ?_, HI.out.below, HI.out.keep, HI.out.heap⟩
        unfold addQ
        rw [if_pos hsw]
        exact HI.out.blk
  · have c0 : decide ((hi : Int) < lo) = false := decide_eq_false (by omega)
    have c0' : decide (hi < lo) = false := decide_eq_false hsw
    go_enter Tryd.func39, Tryd.ntmps39
    go_wp2
    go_loopw [6] (fun v6 wr => ∃ (b : Nat) (q' : Q), v6 = .int .i64 b ∧ lo ≤ b ∧ b ≤ hi + 1 ∧ Aside0 (AddInv w wr g o cs t q q' lo hi b)) (fun v6 wr => hi + 1 - (intOf v6).toNat)
    case atStart => exact ⟨lo, q, rfl, Nat.le_refl _, by omega, ⟨AddInv.start w g o cs t q lo hi hq hbl hcs⟩⟩
    case round =>
      obtain ⟨b, q', rfl, hb1, hb2, HI⟩ := hrel
      by_cases hle : b ≤ hi
      · have c1 : decide ((b : Int) ≤ hi) = true := decide_eq_true (by omega)
        have c1' : decide (b ≤ hi) = true := decide_eq_true hle
        have hb256 : b < 256 := by omega
        have hcell : wr.cell? ⟨g, o + ((b : Int) / 64).toNat, none⟩ = _ := HI.out.cell (b / 64) (by omega)
        have hfz := HI.out.frozen (o + ((b : Int) / 64).toNat)
        have hi0 : (0 : Int) ≤ (b : Int) / 64 := by omega
        have hi1 : (b : Int) / 64 < 4 := by omega
        have hand : bits .and .i64 (b : Int) 63 = ((b % 64 : Nat) : Int) := and63 b hb256
        generalize hx : wordOf q' (b / 64) = x at hcell
        have hxl : x < 18446744073709551616 := by rw [← hx]; exact HI.out.qin.word _
        go_wp2
        go_region
        go_wp2
        go_roundw
        case rel => exact ⟨b + 1, addOne q' b, by go_num, by omega, by omega, ⟨HI.out.step hle hb256 hx⟩⟩
        case measure => simp [intOf]; omega
      · have c1 : decide ((b : Int) ≤ hi) = false := decide_eq_false (by omega)
        have c1' : decide (b ≤ hi) = false := decide_eq_false hle
        go_wp2
        go_end0
        obtain rfl := HI.out.done (by omega)
        refine ⟨rfl, ?_, HI.out.below, HI.out.keep, HI.out.heap⟩
        unfold addQ
        rw [if_neg (by omega)]
        exact HI.out.blk
end Go.Proofs.YtdflblegdfpdpaaDoor.GlobW
