-- JOINED by tailmerge2.py: FreQ Open ArgsW FreO LatA SetB DigW NumS NumT TextW TextU PBx0 PBx1 PBx SpellW IntW
import Derived.Test.YtgngpbcbnfmoiaaLatS
import Derived.Test.YtgngpbcbnfmoiaaSetW
import Derived.Test.YtgngpbcbnfmoiaaWWords
import Derived.OpenShut
import Derived.SizedLaws
import Derived.ChangeSlices
import Derived.DataElems
import Derived.Test.YtgngpbcbnfmoiaaProg
import Derived.KernelRfl
import Derived.Laws.Tables
import Derived.Laws.CopyOwn
import Derived.Laws.Rows
import Derived.Lib.ConvBytes
import Derived.Lib.SliceRun
import Derived.StillTailTactics
import Derived.Deep.DeepMust
import Derived.Test.YtgngpbcbnfmoiaaWMore
import Derived.WalkKit
import Derived.Laws.Shifts
import Derived.Laws.Bits64
import Derived.Lib.Hide
import Derived.Lib.SlBytesConst
import Derived.Below
import Derived.Deep.Draws
import Derived.Deep.AppendLies
import Derived.Maps.AppendAt
import Derived.OwnWalk
import Derived.Laws.BytesArg
import Derived.Laws.MakeOwn
import Derived.Laws.OwnMore
import Derived.Deep.OwnRows
import Derived.Tactics
import Derived.Laws.Slices
import Derived.RowKit3
import Derived.Deep.LoopGhost
import Derived.Deep.QuietTactic
import Derived.BigQuiet
import Derived.WideLaws
import Derived.Deep.DeepCutAuto
import Derived.Deep.CutBlock
import Derived.Deep.RegionHeld3
import Derived.Lib.AppendStr
import Derived.ArgAppend
import Derived.Laws.IdiomCopy
import Derived.OrdersHeld
import Derived.Laws.BitsLemmas
import Derived.RowKit
import Derived.Test.YtgngpbcbnfmoiaaHeadW
import Derived.Test.YtgngpbcbnfmoiaaWLast
import Derived.Test.YtgngpbcbnfmoiaaWTab
import Derived.Test.YtgngpbcbnfmoiaaWFour
import Derived.Test.YtgngpbcbnfmoiaaWQPut
import Derived.Test.YtgngpbcbnfmoiaaWApart
import Derived.Test.YtgngpbcbnfmoiaaWArr
import Derived.Test.YtgngpbcbnfmoiaaWZeros
import Derived.Test.YtgngpbcbnfmoiaaWFoot
import Derived.Test.YtgngpbcbnfmoiaaWKept
import Derived.Test.YtgngpbcbnfmoiaaWShare
import Derived.Test.YtgngpbcbnfmoiaaWN
import Derived.Test.YtgngpbcbnfmoiaaWFootNe
import Derived.Test.YtgngpbcbnfmoiaaWAt
import Derived.Test.YtgngpbcbnfmoiaaWEqStruct
import Derived.Test.YtgngpbcbnfmoiaaWRepsOne
import Derived.Test.YtgngpbcbnfmoiaaWInv
import Derived.Test.YtgngpbcbnfmoiaaWInvWords
import Derived.Test.YtgngpbcbnfmoiaaWGuard
import Derived.Test.YtgngpbcbnfmoiaaWNEv
import Derived.Test.YtgngpbcbnfmoiaaPAx1
import Derived.Laws.Externs
import Derived.Test.YtgngpbcbnfmoiaaNumA

section
/- WordFresh's memory: the book, what waits in the two holders, a step's box, all apart. No function of the program. -/
namespace Go.Proofs.Ytgngpbcbnfmoiaa.FreQ
open Go Go.RowKit Go.Proofs.YtgngpbcbnfmoiaaW.PrintWords Go.Proofs.YtgngpbcbnfmoiaaW.PrintLast Go.Proofs.YtgngpbcbnfmoiaaW.PrintMore Go.Proofs.Ytgngpbcbnfmoiaa.RowU Go.Proofs.Ytgngpbcbnfmoiaa.ArM Go.Proofs.Ytgngpbcbnfmoiaa.GenM Go.Proofs.Ytgngpbcbnfmoiaa.GenN Go.Proofs.Ytgngpbcbnfmoiaa.BokA Go.Proofs.Ytgngpbcbnfmoiaa.BokB Go.Proofs.Ytgngpbcbnfmoiaa.BokG Go.Proofs.Ytgngpbcbnfmoiaa.BokS Go.Proofs.Ytgngpbcbnfmoiaa.FreM Go.Proofs.Ytgngpbcbnfmoiaa.LatS Go.Proofs.Ytgngpbcbnfmoiaa.SetW
set_option linter.unusedVariables false
set_option maxRecDepth 100000

theorem Bk.new {W : World} {g : Nat} {cs : Array Value} {T : TypeId} (hb : W.heap[g]? = some (.cells cs T (0, 0))) (hc : ∀ j, j < 33 → cs[j]? = some (bkC (.slice none 0 0) (.slice none 0 0) 0 (.slice none 0 0) (.slice none 0 0) 0 0 0 0 j)) : Bk W g 0 Own.none_ (.slice none 0 0) (.slice none 0 0) [] 0 (.slice none 0 0) (.slice none 0 0) [] 0 0 0 0 := by
  refine ⟨⟨⟨cs, T, hb⟩, fun j hj => by rw [Nat.zero_add, blk_cell hb]; exact hc j hj⟩, ?_, ?_, fun b h => absurd rfl h, rfl, by omega⟩
  · exact ⟨GV.nil _ _, GV.nil _ _, fun b hb => (by cases hb), fun b hb => (by cases hb), fun e he => (by cases he), fun i e b hi => (by simp at hi), (by simp), (by simp), fun j e hj => (by simp at hj)⟩
  · exact ⟨GV.nil _ _, GV.nil _ _, fun b hb => (by cases hb), fun b hb => (by cases hb), fun e he => (by cases he), fun i e b hi => (by simp at hi), (by simp), (by simp), fun j e hj => (by simp at hj)⟩
/-- What the book and the holders hold. -/
structure Q where
  ow : Own
  lo1 : Own
  lo2 : Own
  vB : Value
  vBo : Value
  eB : List Ent
  aB : Nat
  vW : Value
  vWo : Value
  eW : List Ent
  aW : Nat
  turn : Nat
  done : Nat
  used : Nat
  vg : Value
  vw : Value
  it : List It
  vg2 : Value
  vw2 : Value
  it2 : List It
def Q.mine (q : Q) (gb gl gw b : Nat) : Prop := b = gb ∨ b = gl ∨ b = gw ∨ q.ow b ≠ none ∨ q.lo1 b ≠ none ∨ q.lo2 b ≠ none
structure FrC (W wr : World) (gb gl gw : Nat) (X : Option (Nat × Obj)) (q : Q) (n : Nat) : Prop where
  bk : Bk wr gb 0 q.ow q.vB q.vBo q.eB q.aB q.vW q.vWo q.eW q.aW q.turn q.done q.used
  pB : Pn 10 22 5 wr q.lo1 q.vg q.vw q.it
  hl : wr.heap[gl]? = some (.cells #[q.vg, q.vw] 66 (0, 0))
  pW : Pn 11 43 23 wr q.lo2 q.vg2 q.vw2 q.it2
  hw : wr.heap[gw]? = some (.cells #[q.vg2, q.vw2] 69 (0, 0))
  d1 : ∀ b, q.lo1 b ≠ none → q.ow b = none ∧ q.lo2 b = none ∧ b ≠ gb ∧ b ≠ gl ∧ b ≠ gw
  d2 : ∀ b, q.lo2 b ≠ none → q.ow b = none ∧ b ≠ gb ∧ b ≠ gl ∧ b ≠ gw
  d3 : ∀ b, q.ow b ≠ none → b ≠ gl ∧ b ≠ gw
  ne : gl ≠ gb ∧ gw ≠ gb ∧ gl ≠ gw
  old : ∀ b, q.mine gb gl gw b → W.heap.size ≤ b ∧ b < wr.heap.size
  uB : ∀ x, x ∈ q.it → ∃ ls : List Int, x.l = ls.map (Value.int .u8)
  uW : ∀ x, x ∈ q.it2 → ∃ ls : List Int, x.l = ls.map (Value.int .u64)
  bel : Below W.heap.size W wr
  cnt : q.turn + q.it.length + q.it2.length ≤ n
  bx : ∀ g o, X = some (g, o) → wr.heap[g]? = some o ∧ ¬ q.mine gb gl gw g ∧ W.heap.size ≤ g
variable {W wr w' : World} {gb gl gw : Nat} {X : Option (Nat × Obj)} {q : Q} {n : Nat}
theorem not_mine {b : Nat} (h : ¬ q.mine gb gl gw b) : b ≠ gb ∧ b ≠ gl ∧ b ≠ gw ∧ q.ow b = none ∧ q.lo1 b = none ∧ q.lo2 b = none := by
  refine ⟨fun e => h (.inl e), fun e => h (.inr (.inl e)), fun e => h (.inr (.inr (.inl e))), ?_, ?_, ?_⟩ <;> apply Classical.byContradiction <;> intro e
  · exact h (.inr (.inr (.inr (.inl e))))
  · exact h (.inr (.inr (.inr (.inr (.inl e)))))
  · exact h (.inr (.inr (.inr (.inr (.inr e)))))
theorem FrC.moveU (h : FrC W wr gb gl gw X q n) {S : Nat → Prop} (hu : Upd S wr w') (hS : ∀ b, q.mine gb gl gw b → ¬ S b) (hX : ∀ g o, X = some (g, o) → ¬ S g) (hs : ∀ b, S b → W.heap.size ≤ b) : FrC W w' gb gl gw X q n :=
  ⟨h.bk.move hu (hS gb (.inl rfl)) (fun b hb => hS b (.inr (.inr (.inr (.inl hb))))),
   h.pB.move hu (fun b t hb => hS b (.inr (.inr (.inr (.inr (.inl (by rw [hb]; simp))))))) (fun _ _ hb => hb),
   blk_upd h.hl hu (hS gl (.inr (.inl rfl))),
   h.pW.move hu (fun b t hb => hS b (.inr (.inr (.inr (.inr (.inr (by rw [hb]; simp))))))) (fun _ _ hb => hb),
   blk_upd h.hw hu (hS gw (.inr (.inr (.inl rfl)))), h.d1, h.d2, h.d3, h.ne, fun b hb => ⟨(h.old b hb).1, Nat.lt_of_lt_of_le (h.old b hb).2 hu.size⟩, h.uB, h.uW,
   hu.to_below h.bel h.bel.size hs, h.cnt, fun g o hg => ⟨blk_upd (h.bx g o hg).1 hu (hX g o hg), (h.bx g o hg).2⟩⟩
theorem FrC.below (h : FrC W wr gb gl gw X q n) (hb : Below wr.heap.size wr w') : FrC W w' gb gl gw X q n :=
  h.moveU (S := none_) (Upd.of_below hb) (fun _ _ h => h) (fun _ _ _ h => h) (fun _ h => h.elim)
theorem FrC.noBox (h : FrC W wr gb gl gw X q n) : FrC W wr gb gl gw none q n :=
  ⟨h.bk, h.pB, h.hl, h.pW, h.hw, h.d1, h.d2, h.d3, h.ne, h.old, h.uB, h.uW, h.bel, h.cnt, fun g o hg => by cases hg⟩
theorem FrC.box (h : FrC W wr gb gl gw X q n) {g : Nat} {o : Obj} (hb : Below wr.heap.size wr w') (hg : wr.heap.size ≤ g) (ho : w'.heap[g]? = some o) : FrC W w' gb gl gw (some (g, o)) q n := by
  have h' := h.below hb
  refine ⟨h'.bk, h'.pB, h'.hl, h'.pW, h'.hw, h'.d1, h'.d2, h'.d3, h'.ne, h'.old, h'.uB, h'.uW, h'.bel, h'.cnt, fun g' o' hg' => ?_⟩
  simp only [Option.some.injEq, Prod.mk.injEq] at hg'
  obtain ⟨rfl, rfl⟩ := hg'
  exact ⟨ho, fun hm => by have := (h.old _ hm).2; omega, Nat.le_trans h.bel.size hg⟩
theorem FrC.more (h : FrC W wr gb gl gw X q n) {m : Nat} (hm : n ≤ m) : FrC W wr gb gl gw X q m :=
  ⟨h.bk, h.pB, h.hl, h.pW, h.hw, h.d1, h.d2, h.d3, h.ne, h.old, h.uB, h.uW, h.bel, Nat.le_trans h.cnt hm, h.bx⟩
/-- What a call has made since is nobody's. -/
theorem FrC.fresh (h : FrC W wr gb gl gw X q n) {b : Nat} (hb : wr.heap.size ≤ b) : ¬ q.mine gb gl gw b ∧ W.heap.size ≤ b ∧ ∀ o, X ≠ some (b, o) :=
  ⟨fun hm => by have := (h.old b hm).2; omega, Nat.le_trans h.bel.size hb, fun o e => by have := cell_lt (h.bx b o e).1; omega⟩
theorem FrC.lo1_lt (h : FrC W wr gb gl gw X q n) (b : Nat) (hb : q.lo1 b ≠ none) : b < wr.heap.size := (h.old b (.inr (.inr (.inr (.inr (.inl hb)))))).2
theorem FrC.lo2_lt (h : FrC W wr gb gl gw X q n) (b : Nat) (hb : q.lo2 b ≠ none) : b < wr.heap.size := (h.old b (.inr (.inr (.inr (.inr (.inr hb)))))).2
theorem FrC.lo1_n (h : FrC W wr gb gl gw X q n) : q.lo1 gb = none ∧ q.lo1 gl = none ∧ q.lo1 gw = none := by
  refine ⟨?_, ?_, ?_⟩ <;> apply Classical.byContradiction <;> intro e
  · exact (h.d1 gb e).2.2.1 rfl
  · exact (h.d1 gl e).2.2.2.1 rfl
  · exact (h.d1 gw e).2.2.2.2 rfl
theorem FrC.lo2_n (h : FrC W wr gb gl gw X q n) : q.lo2 gb = none ∧ q.lo2 gl = none ∧ q.lo2 gw = none := by
  refine ⟨?_, ?_, ?_⟩ <;> apply Classical.byContradiction <;> intro e
  · exact (h.d2 gb e).2.1 rfl
  · exact (h.d2 gl e).2.2.1 rfl
  · exact (h.d2 gw e).2.2.2 rfl
theorem FrC.ow_n (h : FrC W wr gb gl gw X q n) : q.ow gl = none ∧ q.ow gw = none := by
  refine ⟨?_, ?_⟩ <;> apply Classical.byContradiction <;> intro e
  · exact (h.d3 gl e).1 rfl
  · exact (h.d3 gw e).2 rfl
theorem FrC.addB (h : FrC W wr gb gl gw X q n) {v : Value} {ls : List Int} (ha : Ad 10 22 5 66 wr w' gl q.lo1 v (ls.map (Value.int .u8)) q.it (fun _ => False))
    (hv : ∀ b, v.ownBlock = some b → ¬ q.mine gb gl gw b ∧ W.heap.size ≤ b ∧ ∀ o, X ≠ some (b, o)) : ∃ q', FrC W w' gb gl gw X q' (n + 1) := by
  obtain ⟨⟨lo', vg', vw', u, hP, hd, hgh, hown, hlt⟩, hu⟩ := ha
  have cls : ∀ b, lo' b ≠ none → q.lo1 b ≠ none ∨ (¬ q.mine gb gl gw b ∧ W.heap.size ≤ b ∧ ∀ o, X ≠ some (b, o)) := fun b hb => by
    rcases hown b hb with h1 | h1 | h1 | h1
    · exact .inl h1
    · exact .inr (hv b h1)
    · exact h1.elim
    · exact .inr (h.fresh h1)
  refine ⟨{ q with lo1 := lo', vg := vg', vw := vw', it := q.it ++ [⟨v, u, ls.map (Value.int .u8)⟩] }, ?_⟩
  refine ⟨h.bk.move hu ?_ ?_, hP, hd, h.pW.move hu ?_ (fun _ _ hb => hb), blk_upd h.hw hu ?_, fun b hb => ?_, h.d2, h.d3, h.ne, fun b hb => ?_, fun x hx => ?_, h.uW, hu.to_below h.bel h.bel.size ?_, ?_, fun g o hg => ⟨blk_upd (h.bx g o hg).1 hu ?_, ?_, (h.bx g o hg).2.2⟩⟩
  · rintro (e | e)
    · exact h.ne.1 e.symm
    · exact e h.lo1_n.1
  · rintro b hb (rfl | e)
    · exact (h.d3 _ hb).1 rfl
    · exact hb (h.d1 b e).1
  · rintro b t hb (rfl | e)
    · rw [h.lo2_n.2.1] at hb; cases hb
    · rw [(h.d1 b e).2.1] at hb; cases hb
  · rintro (e | e)
    · exact h.ne.2.2 e.symm
    · exact e h.lo1_n.2.2
  · rcases cls b hb with h1 | ⟨h1, _, _⟩
    · exact h.d1 b h1
    · obtain ⟨a, b', c, d, e, f⟩ := not_mine h1
      exact ⟨d, f, a, b', c⟩
  · rcases hb with h1 | h1 | h1 | h1 | h1 | h1
    · have := h.old b (.inl h1); exact ⟨this.1, Nat.lt_of_lt_of_le this.2 hu.size⟩
    · have := h.old b (.inr (.inl h1)); exact ⟨this.1, Nat.lt_of_lt_of_le this.2 hu.size⟩
    · have := h.old b (.inr (.inr (.inl h1))); exact ⟨this.1, Nat.lt_of_lt_of_le this.2 hu.size⟩
    · have := h.old b (.inr (.inr (.inr (.inl h1)))); exact ⟨this.1, Nat.lt_of_lt_of_le this.2 hu.size⟩
    · refine ⟨?_, hlt b h1⟩
      rcases cls b h1 with h2 | h2
      · exact (h.old b (.inr (.inr (.inr (.inr (.inl h2)))))).1
      · exact h2.2.1
    · have := h.old b (.inr (.inr (.inr (.inr (.inr h1))))); exact ⟨this.1, Nat.lt_of_lt_of_le this.2 hu.size⟩
  · rcases List.mem_append.1 hx with h1 | h1
    · exact h.uB x h1
    · rw [List.mem_singleton] at h1; subst h1; exact ⟨ls, rfl⟩
  · rintro b (rfl | e)
    · exact (h.old _ (.inr (.inl rfl))).1
    · exact (h.old b (.inr (.inr (.inr (.inr (.inl e)))))).1
  · have := h.cnt
    simp only [List.length_append, List.length_singleton]
    omega
  · rintro (e | e)
    · exact (h.bx g o hg).2.1 (.inr (.inl e))
    · exact (h.bx g o hg).2.1 (.inr (.inr (.inr (.inr (.inl e)))))
  · obtain ⟨a, b', c, d, e, f⟩ := not_mine (h.bx g o hg).2.1
    rintro (h1 | h1 | h1 | h1 | h1 | h1)
    · exact a h1
    · exact b' h1
    · exact c h1
    · exact h1 d
    · rcases cls g h1 with h2 | h2
      · exact h2 e
      · exact h2.2.2 o hg
    · exact h1 f
theorem FrC.addW (h : FrC W wr gb gl gw X q n) {v : Value} {ls : List Int} {uT : Nat → Prop} (ha : Ad 11 43 23 69 wr w' gw q.lo2 v (ls.map (Value.int .u64)) q.it2 uT)
    (hv : ∀ b, v.ownBlock = some b → ¬ q.mine gb gl gw b ∧ W.heap.size ≤ b ∧ ∀ o, X ≠ some (b, o)) (huT : ∀ b, uT b → ¬ q.mine gb gl gw b ∧ W.heap.size ≤ b ∧ ∀ o, X ≠ some (b, o)) : ∃ q', FrC W w' gb gl gw X q' (n + 1) := by
  obtain ⟨⟨lo', vg', vw', u, hP, hd, hgh, hown, hlt⟩, hu⟩ := ha
  have cls : ∀ b, lo' b ≠ none → q.lo2 b ≠ none ∨ (¬ q.mine gb gl gw b ∧ W.heap.size ≤ b ∧ ∀ o, X ≠ some (b, o)) := fun b hb => by
    rcases hown b hb with h1 | h1 | h1 | h1
    · exact .inl h1
    · exact .inr (hv b h1)
    · exact .inr (huT b h1)
    · exact .inr (h.fresh h1)
  refine ⟨{ q with lo2 := lo', vg2 := vg', vw2 := vw', it2 := q.it2 ++ [⟨v, u, ls.map (Value.int .u64)⟩] }, ?_⟩
  refine ⟨h.bk.move hu ?_ ?_, h.pB.move hu ?_ (fun _ _ hb => hb), blk_upd h.hl hu ?_, hP, hd, fun b hb => ?_, fun b hb => ?_, h.d3, h.ne, fun b hb => ?_, h.uB, fun x hx => ?_, hu.to_below h.bel h.bel.size ?_, ?_, fun g o hg => ⟨blk_upd (h.bx g o hg).1 hu ?_, ?_, (h.bx g o hg).2.2⟩⟩
  · rintro (e | e)
    · exact h.ne.2.1 e.symm
    · exact e h.lo2_n.1
  · rintro b hb (rfl | e)
    · exact (h.d3 _ hb).2 rfl
    · exact hb (h.d2 b e).1
  · rintro b t hb (rfl | e)
    · rw [h.lo1_n.2.2] at hb; cases hb
    · have := (h.d1 b (by rw [hb]; simp)).2.1; exact e this
  · rintro (e | e)
    · exact h.ne.2.2 e
    · exact e h.lo2_n.2.1
  · have h0 := h.d1 b hb
    refine ⟨h0.1, ?_, h0.2.2⟩
    apply Classical.byContradiction
    intro e
    rcases cls b e with h1 | h1
    · exact h1 h0.2.1
    · exact hb (not_mine h1.1).2.2.2.2.1
  · rcases cls b hb with h1 | ⟨h1, _, _⟩
    · exact h.d2 b h1
    · obtain ⟨a, b', c, d, e, f⟩ := not_mine h1
      exact ⟨d, a, b', c⟩
  · rcases hb with h1 | h1 | h1 | h1 | h1 | h1
    · have := h.old b (.inl h1); exact ⟨this.1, Nat.lt_of_lt_of_le this.2 hu.size⟩
    · have := h.old b (.inr (.inl h1)); exact ⟨this.1, Nat.lt_of_lt_of_le this.2 hu.size⟩
    · have := h.old b (.inr (.inr (.inl h1))); exact ⟨this.1, Nat.lt_of_lt_of_le this.2 hu.size⟩
    · have := h.old b (.inr (.inr (.inr (.inl h1)))); exact ⟨this.1, Nat.lt_of_lt_of_le this.2 hu.size⟩
    · have := h.old b (.inr (.inr (.inr (.inr (.inl h1))))); exact ⟨this.1, Nat.lt_of_lt_of_le this.2 hu.size⟩
    · refine ⟨?_, hlt b h1⟩
      rcases cls b h1 with h2 | h2
      · exact (h.old b (.inr (.inr (.inr (.inr (.inr h2)))))).1
      · exact h2.2.1
  · rcases List.mem_append.1 hx with h1 | h1
    · exact h.uW x h1
    · rw [List.mem_singleton] at h1; subst h1; exact ⟨ls, rfl⟩
  · rintro b (rfl | e)
    · exact (h.old _ (.inr (.inr (.inl rfl)))).1
    · exact (h.old b (.inr (.inr (.inr (.inr (.inr e)))))).1
  · have := h.cnt
    simp only [List.length_append, List.length_singleton]
    omega
  · rintro (e | e)
    · exact (h.bx g o hg).2.1 (.inr (.inr (.inl e)))
    · exact (h.bx g o hg).2.1 (.inr (.inr (.inr (.inr (.inr e)))))
  · obtain ⟨a, b', c, d, e, f⟩ := not_mine (h.bx g o hg).2.1
    rintro (h1 | h1 | h1 | h1 | h1 | h1)
    · exact a h1
    · exact b' h1
    · exact c h1
    · exact h1 d
    · exact h1 e
    · rcases cls g h1 with h2 | h2
      · exact h2 f
      · exact h2.2.2 o hg
theorem FrC.xofB (h : FrC W wr gb gl gw X q n) (b : Nat) (hb : Xof q.it b) : q.lo1 b ≠ none := by
  obtain ⟨x, hx, e⟩ := hb
  obtain ⟨i, hi⟩ := List.getElem?_of_mem hx
  rw [(h.pB.el i x hi).2.2.1 b e]; simp
theorem FrC.xofW (h : FrC W wr gb gl gw X q n) (b : Nat) (hb : Xof q.it2 b) : q.lo2 b ≠ none := by
  obtain ⟨x, hx, e⟩ := hb
  obtain ⟨i, hi⟩ := List.getElem?_of_mem hx
  rw [(h.pW.el i x hi).2.2.1 b e]; simp
theorem FrC.setB (h : FrC W wr gb gl gw X q n) (ha : ∃ ow' vB' vBo' eB' aB' vW' vWo' eW' aW' done' used', Bk w' gb 0 ow' vB' vBo' eB' aB' vW' vWo' eW' aW' (q.turn + q.it.length) done' used' ∧
      w'.heap[gl]? = some (.cells #[.slice none 0 0, .slice none 0 0] 66 (0, 0)) ∧ (∀ b, ow' b ≠ none → q.ow b ≠ none ∨ Xof q.it b ∨ wr.heap.size ≤ b) ∧ Upd (fun b => b = gb ∨ b = gl ∨ q.ow b ≠ none ∨ Xof q.it b) wr w') : ∃ q', FrC W w' gb gl gw X q' n := by
  obtain ⟨ow', vB', vBo', eB', aB', vW', vWo', eW', aW', done', used', hb, hd, hown, hu⟩ := ha
  have cls : ∀ b, ow' b ≠ none → q.ow b ≠ none ∨ q.lo1 b ≠ none ∨ wr.heap.size ≤ b := fun b h1 => by
    rcases hown b h1 with h2 | h2 | h2
    · exact .inl h2
    · exact .inr (.inl (h.xofB b h2))
    · exact .inr (.inr h2)
  have mn : ∀ b, (b = gb ∨ b = gl ∨ q.ow b ≠ none ∨ Xof q.it b) → q.mine gb gl gw b ∧ q.lo2 b = none ∧ b ≠ gw := fun b h1 => by
    rcases h1 with rfl | rfl | h1 | h1
    · exact ⟨.inl rfl, h.lo2_n.1, fun e => h.ne.2.1 e.symm⟩
    · exact ⟨.inr (.inl rfl), h.lo2_n.2.1, h.ne.2.2⟩
    · exact ⟨.inr (.inr (.inr (.inl h1))), Classical.byContradiction fun e => h1 (h.d2 b e).1, (h.d3 b h1).2⟩
    · have h2 := h.xofB b h1; exact ⟨.inr (.inr (.inr (.inr (.inl h2)))), (h.d1 b h2).2.1, (h.d1 b h2).2.2.2.2⟩
  refine ⟨{ q with ow := ow', vB := vB', vBo := vBo', eB := eB', aB := aB', vW := vW', vWo := vWo', eW := eW', aW := aW', turn := q.turn + q.it.length, done := done', used := used', lo1 := Own.none_, vg := (.slice none 0 0), vw := (.slice none 0 0), it := [] }, ?_⟩
  refine ⟨hb, Pn.nil _ _ _ _ _, hd, h.pW.move hu ?_ (fun _ _ hb => hb), blk_upd h.hw hu ?_, fun b e => absurd rfl e, fun b e => ⟨?_, (h.d2 b e).2⟩, fun b e => ?_, h.ne, fun b e => ?_, fun x hx => (by cases hx), h.uW, hu.to_below h.bel h.bel.size ?_, ?_, fun g o hg => ⟨blk_upd (h.bx g o hg).1 hu ?_, ?_, (h.bx g o hg).2.2⟩⟩
  · intro b t h1 h2
    rw [(mn b h2).2.1] at h1; cases h1
  · exact fun h1 => (mn gw h1).2.2 rfl
  · apply Classical.byContradiction
    intro h1
    rcases cls b h1 with h2 | h2 | h2
    · exact h2 (h.d2 b e).1
    · exact e (h.d1 b h2).2.1
    · have := h.lo2_lt b e; omega
  · rcases cls b e with h2 | h2 | h2
    · exact h.d3 b h2
    · exact ⟨(h.d1 b h2).2.2.2.1, (h.d1 b h2).2.2.2.2⟩
    · have l1 := cell_lt h.hl
      have l2 := cell_lt h.hw
      exact ⟨by omega, by omega⟩
  · rcases e with h1 | h1 | h1 | h1 | h1 | h1
    · have := h.old b (.inl h1); exact ⟨this.1, Nat.lt_of_lt_of_le this.2 hu.size⟩
    · have := h.old b (.inr (.inl h1)); exact ⟨this.1, Nat.lt_of_lt_of_le this.2 hu.size⟩
    · have := h.old b (.inr (.inr (.inl h1))); exact ⟨this.1, Nat.lt_of_lt_of_le this.2 hu.size⟩
    · refine ⟨?_, hb.lt b h1⟩
      rcases cls b h1 with h2 | h2 | h2
      · exact (h.old b (.inr (.inr (.inr (.inl h2))))).1
      · exact (h.old b (.inr (.inr (.inr (.inr (.inl h2)))))).1
      · exact Nat.le_trans h.bel.size h2
    · exact absurd rfl h1
    · have := h.old b (.inr (.inr (.inr (.inr (.inr h1))))); exact ⟨this.1, Nat.lt_of_lt_of_le this.2 hu.size⟩
  · exact fun b h1 => (h.old b (mn b h1).1).1
  · have := h.cnt
    simp only [List.length_nil]
    omega
  · exact fun h1 => (h.bx g o hg).2.1 (mn g h1).1
  · obtain ⟨a, b', c, d, e, f⟩ := not_mine (h.bx g o hg).2.1
    rintro (h1 | h1 | h1 | h1 | h1 | h1)
    · exact a h1
    · exact b' h1
    · exact c h1
    · rcases cls g h1 with h2 | h2 | h2
      · exact h2 d
      · exact h2 e
      · have := cell_lt (h.bx g o hg).1; omega
    · exact h1 rfl
    · exact h1 f
theorem FrC.setW (h : FrC W wr gb gl gw X q n) (ha : ∃ ow' vB' vBo' eB' aB' vW' vWo' eW' aW' done' used', Bk w' gb 0 ow' vB' vBo' eB' aB' vW' vWo' eW' aW' (q.turn + q.it2.length) done' used' ∧
      w'.heap[gw]? = some (.cells #[.slice none 0 0, .slice none 0 0] 69 (0, 0)) ∧ (∀ b, ow' b ≠ none → q.ow b ≠ none ∨ Xof q.it2 b ∨ wr.heap.size ≤ b) ∧ Upd (fun b => b = gb ∨ b = gw ∨ q.ow b ≠ none ∨ Xof q.it2 b) wr w') : ∃ q', FrC W w' gb gl gw X q' n := by
  obtain ⟨ow', vB', vBo', eB', aB', vW', vWo', eW', aW', done', used', hb, hd, hown, hu⟩ := ha
  have cls : ∀ b, ow' b ≠ none → q.ow b ≠ none ∨ q.lo2 b ≠ none ∨ wr.heap.size ≤ b := fun b h1 => by
    rcases hown b h1 with h2 | h2 | h2
    · exact .inl h2
    · exact .inr (.inl (h.xofW b h2))
    · exact .inr (.inr h2)
  have mn : ∀ b, (b = gb ∨ b = gw ∨ q.ow b ≠ none ∨ Xof q.it2 b) → q.mine gb gl gw b ∧ q.lo1 b = none ∧ b ≠ gl := fun b h1 => by
    rcases h1 with rfl | rfl | h1 | h1
    · exact ⟨.inl rfl, h.lo1_n.1, fun e => h.ne.1 e.symm⟩
    · exact ⟨.inr (.inr (.inl rfl)), h.lo1_n.2.2, fun e => h.ne.2.2 e.symm⟩
    · exact ⟨.inr (.inr (.inr (.inl h1))), Classical.byContradiction fun e => h1 (h.d1 b e).1, (h.d3 b h1).1⟩
    · have h2 := h.xofW b h1; exact ⟨.inr (.inr (.inr (.inr (.inr h2)))), Classical.byContradiction fun e => h2 (h.d1 b e).2.1, (h.d2 b h2).2.2.1⟩
  refine ⟨{ q with ow := ow', vB := vB', vBo := vBo', eB := eB', aB := aB', vW := vW', vWo := vWo', eW := eW', aW := aW', turn := q.turn + q.it2.length, done := done', used := used', lo2 := Own.none_, vg2 := (.slice none 0 0), vw2 := (.slice none 0 0), it2 := [] }, ?_⟩
  refine ⟨hb, h.pB.move hu ?_ (fun _ _ hb => hb), blk_upd h.hl hu ?_, Pn.nil _ _ _ _ _, hd, fun b e => ⟨?_, rfl, (h.d1 b e).2.2⟩, fun b e => absurd rfl e, fun b e => ?_, h.ne, fun b e => ?_, h.uB, fun x hx => (by cases hx), hu.to_below h.bel h.bel.size ?_, ?_, fun g o hg => ⟨blk_upd (h.bx g o hg).1 hu ?_, ?_, (h.bx g o hg).2.2⟩⟩
  · intro b t h1 h2
    rw [(mn b h2).2.1] at h1; cases h1
  · exact fun h1 => (mn gl h1).2.2 rfl
  · apply Classical.byContradiction
    intro h1
    rcases cls b h1 with h2 | h2 | h2
    · exact h2 (h.d1 b e).1
    · exact h2 (h.d1 b e).2.1
    · have := h.lo1_lt b e; omega
  · rcases cls b e with h2 | h2 | h2
    · exact h.d3 b h2
    · exact ⟨(h.d2 b h2).2.2.1, (h.d2 b h2).2.2.2⟩
    · have l1 := cell_lt h.hl
      have l2 := cell_lt h.hw
      exact ⟨by omega, by omega⟩
  · rcases e with h1 | h1 | h1 | h1 | h1 | h1
    · have := h.old b (.inl h1); exact ⟨this.1, Nat.lt_of_lt_of_le this.2 hu.size⟩
    · have := h.old b (.inr (.inl h1)); exact ⟨this.1, Nat.lt_of_lt_of_le this.2 hu.size⟩
    · have := h.old b (.inr (.inr (.inl h1))); exact ⟨this.1, Nat.lt_of_lt_of_le this.2 hu.size⟩
    · refine ⟨?_, hb.lt b h1⟩
      rcases cls b h1 with h2 | h2 | h2
      · exact (h.old b (.inr (.inr (.inr (.inl h2))))).1
      · exact (h.old b (.inr (.inr (.inr (.inr (.inr h2)))))).1
      · exact Nat.le_trans h.bel.size h2
    · have := h.old b (.inr (.inr (.inr (.inr (.inl h1))))); exact ⟨this.1, Nat.lt_of_lt_of_le this.2 hu.size⟩
    · exact absurd rfl h1
  · exact fun b h1 => (h.old b (mn b h1).1).1
  · have := h.cnt
    simp only [List.length_nil]
    omega
  · exact fun h1 => (h.bx g o hg).2.1 (mn g h1).1
  · obtain ⟨a, b', c, d, e, f⟩ := not_mine (h.bx g o hg).2.1
    rintro (h1 | h1 | h1 | h1 | h1 | h1)
    · exact a h1
    · exact b' h1
    · exact c h1
    · rcases cls g h1 with h2 | h2 | h2
      · exact h2 d
      · exact h2 f
      · have := cell_lt (h.bx g o hg).1; omega
    · exact h1 e
    · exact h1 rfl
/-- At the start: three new blocks. -/
theorem FrC.start {cs : Array Value} {Tb : TypeId} (hb : Below W.heap.size W wr) (h1 : wr.heap[gb]? = some (.cells cs Tb (0, 0))) (hc : ∀ j, j < 33 → cs[j]? = some (bkC (.slice none 0 0) (.slice none 0 0) 0 (.slice none 0 0) (.slice none 0 0) 0 0 0 0 j))
    (h2 : wr.heap[gl]? = some (.cells #[(.slice none 0 0), (.slice none 0 0)] 66 (0, 0))) (h3 : wr.heap[gw]? = some (.cells #[(.slice none 0 0), (.slice none 0 0)] 69 (0, 0))) (g1 : W.heap.size ≤ gb) (g2 : W.heap.size ≤ gl) (g3 : W.heap.size ≤ gw) (ne : gl ≠ gb ∧ gw ≠ gb ∧ gl ≠ gw) : ∃ q, FrC W wr gb gl gw none q 0 := by
  refine ⟨⟨Own.none_, Own.none_, Own.none_, (.slice none 0 0), (.slice none 0 0), [], 0, (.slice none 0 0), (.slice none 0 0), [], 0, 0, 0, 0, (.slice none 0 0), (.slice none 0 0), [], (.slice none 0 0), (.slice none 0 0), []⟩, Bk.new h1 hc, Pn.nil _ _ _ _ _, h2, Pn.nil _ _ _ _ _, h3, fun b e => absurd rfl e, fun b e => absurd rfl e, fun b e => absurd rfl e, ne, fun b hm => ?_, fun x hx => (by cases hx), fun x hx => (by cases hx), hb, by simp, fun g o hg => by cases hg⟩
  rcases hm with rfl | rfl | rfl | e | e | e
  · exact ⟨g1, cell_lt h1⟩
  · exact ⟨g2, cell_lt h2⟩
  · exact ⟨g3, cell_lt h3⟩
  · exact absurd rfl e
  · exact absurd rfl e
  · exact absurd rfl e
end Go.Proofs.Ytgngpbcbnfmoiaa.FreQ
end

section
/- Opening an argument: whatever can be read as data of a type has that type's kind (Kd); one combinator for each shape of type. No function of the program. -/
namespace Go.Proofs.Ytgngpbcbnfmoiaa.Open
open Go Go.RowKit Go.ChangeShapes Go.Proofs.YtgngpbcbnfmoiaaW.PrintWords

/-- What is read as data of type t, with at most F steps inwards, is of kind kd. -/
structure OpensAt {α : Type} (F : Nat) (P : Program) (t : TypeId) (kd : Kd α) (good : α → Prop) : Prop where
  sz : kd.sz = P.cellsOf t
  op : ∀ {H : Type} {enc : TypeId × Value → H} {W : World} {base : Nat} {spare : Nat → Bool} {held : Bool} {fuel : Nat} {cs : List Value} {x : DataW H × List MemPlace},
    fuel ≤ F → DataW.trod enc P W base spare held fuel t cs = some x → (∀ m ∈ x.1.weights P t, m ≤ reachBytes) → ∃ y : α, kd.K W y cs ∧ good y

def Opens {α : Type} (P : Program) (t : TypeId) (kd : Kd α) (good : α → Prop) : Prop := ∀ F, OpensAt F P t kd good

variable {P : Program} {t e : TypeId} {F : Nat}

theorem at_int {k : IntKind} (hu : P.underlying t = some (.int k)) (hc : P.cellsOf t = 1) : OpensAt F P t (Kd.int k) (fun x => (Lit.int k x).wf = true) where
  sz := hc.symm
  op := fun _ h _ => by
    obtain ⟨n, rfl, _, hw⟩ := DataW.trod_int hu h
    exact ⟨n, rfl, hw⟩

theorem at_bool (hu : P.underlying t = some .bool) (hc : P.cellsOf t = 1) : OpensAt F P t Kd.bool (fun _ => True) where
  sz := hc.symm
  op := fun _ h _ => by
    obtain ⟨n, rfl, _⟩ := DataW.trod_bool hu h
    exact ⟨n, rfl, trivial⟩

theorem at_string (hu : P.underlying t = some .string) (hc : P.cellsOf t = 1) : OpensAt F P t Kd.string (fun s => s.size ≤ 140737488351232) where
  sz := hc.symm
  op := fun _ h hw => by
    obtain ⟨s, rfl, hx, _⟩ := DataW.trod_string hu h
    refine ⟨s, rfl, ?_⟩
    have := hw s.data.toList.length (by rw [hx]; simp [DataW.weights])
    simpa [reachBytes] using this

theorem choose_list {β : Type} (n : Nat) (p : Nat → β → Prop) (h : ∀ i, i < n → ∃ y, p i y) : ∃ ys : List β, ys.length = n ∧ ∀ i y, ys[i]? = some y → p i y := by
  induction n with
  | zero => exact ⟨[], rfl, fun i y hy => by simp at hy⟩
  | succ n ih =>
    obtain ⟨ys, hl, hp⟩ := ih (fun i hi => h i (by omega))
    obtain ⟨y, hy⟩ := h n (by omega)
    refine ⟨ys ++ [y], by simp [hl], fun i z hz => ?_⟩
    rcases Nat.lt_or_ge i ys.length with hi | hi
    · rw [List.getElem?_append_left hi] at hz
      exact hp i z hz
    · rw [List.getElem?_append_right hi] at hz
      have : i - ys.length = 0 := by
        rcases Nat.eq_zero_or_pos (i - ys.length) with h0 | h0
        · exact h0
        · rw [List.getElem?_eq_none (by simp; omega)] at hz
          cases hz
      rw [this] at hz
      simp at hz
      subst hz
      have : i = n := by omega
      subst this
      exact hy

theorem weightsAll_mem {H : Type} {e : TypeId} : ∀ {l : List (DataW H)} {d : DataW H}, d ∈ l → ∀ m ∈ d.weights P e, m ∈ DataW.weightsAll P e l
  | [], _, h, _, _ => by simp at h
  | a :: r, d, h, m, hm => by
    simp only [DataW.weightsAll]
    rcases List.mem_cons.1 h with rfl | h
    · exact List.mem_append_left _ hm
    · exact List.mem_append_right _ (weightsAll_mem h m hm)

/-- The bound on a slice's length, and its elements. -/
def GoodL {α : Type} (B : Nat) (g : α → Prop) (ys : List α) : Prop := ys.length * B ≤ 140737488351232 ∧ ∀ y ∈ ys, g y

theorem at_slice {α : Type} {kd : Kd α} {g : α → Prop} {B : Nat} (hu : P.underlying t = some (.slice e)) (hc : P.cellsOf t = 1) (hB : P.bytesOf e = B) (he : OpensAt F P e kd g) :
    OpensAt (F + 1) P t (Kd.slice e kd) (GoodL B g) where
  sz := hc.symm
  op := by
    intro H enc W base spare held fuel cs x hf h hw
    rcases DataW.trod_slice hu h with ⟨rfl, rfl⟩ | ⟨a, len, cap, elems, rest, n, rfl, rfl, rfl, hb, hl, hm, hlen, hel, _⟩
    · exact ⟨[], ⟨none, 0, rfl, Nat.le_refl _, Kd.C_nil kd W⟩, by simp [GoodL]⟩
    · have hwt : ∀ m ∈ (elems.length + rest.length) * P.bytesOf e :: (DataW.weightsAll P e (elems.map (·.1)) ++ DataW.weightsAll P e (rest.map (·.1))), m ≤ reachBytes := by
        intro m hm'
        refine hw m ?_
        show m ∈ DataW.weights P t (DataW.slice (elems.map (·.1)) (rest.map (·.1)))
        simp only [DataW.weights, hu, List.length_map]
        exact hm'
      have each : ∀ i, i < len → ∃ y, g y ∧ ∃ c, c.length = kd.sz ∧ kd.K W y c ∧ ∀ j u, c[j]? = some u → W.cell? (a.add (i * kd.sz + j)) = some u := by
        intro i hi
        have h1 := hel i hi
        obtain ⟨x1, hx1⟩ : ∃ x1, elems[i]? = some x1 := ⟨elems[i]'(by omega), List.getElem?_eq_getElem (by omega)⟩
        rw [hx1, Option.bind_eq_some_iff] at h1
        obtain ⟨c, hcs, htr⟩ := h1
        obtain ⟨y, hy, hg⟩ := he.op (by omega) htr (fun m hm' => hwt m (List.mem_cons_of_mem _ (List.mem_append_left _
          (weightsAll_mem (List.mem_map.2 ⟨x1, List.mem_of_getElem? hx1, rfl⟩) m hm'))))
        refine ⟨y, hg, c, kd.K_len hy, hy, fun j u hj => ?_⟩
        unfold World.cells? at hcs
        split at hcs
        · have hjl : j < c.length := (List.getElem?_eq_some_iff.1 hj).1
          have hcl := kd.K_len hy
          have := mapM_some_get hcs j j (List.getElem?_range (by rw [← he.sz]; omega))
          rw [hj, Addr.add_add, ← he.sz] at this
          exact this
        · cases hcs
      obtain ⟨ys, hyl, hys⟩ := choose_list len _ each
      refine ⟨ys, ⟨some a, cap, by rw [hyl], by omega, ?_⟩, ?_, ?_⟩
      · refine ⟨rfl, by simp only [maxLen] at hm; omega, fun _ => ⟨a, rfl, fun j p hp => ?_⟩⟩
        obtain ⟨_, c, h1, h2, h3⟩ := hys j p hp
        exact ⟨c, h1, h2, h3⟩
      · have := hwt _ (List.mem_cons_self ..)
        rw [hB] at this
        rw [hyl, ← hlen]
        have h2 : elems.length * B ≤ (elems.length + rest.length) * B := Nat.mul_le_mul_right _ (by omega)
        simp only [reachBytes] at this
        omega
      · intro y hy
        obtain ⟨i, hi⟩ := List.getElem?_of_mem hy
        exact (hys i y hi).1

/-- The fields of a struct, from the cell o on. -/
def FieldsAt {α : Type} (F : Nat) (P : Program) (fs : List Field) (o : Nat) (kd : Kd α) (good : α → Prop) : Prop :=
  ∀ {H : Type} {enc : TypeId × Value → H} {W : World} {base : Nat} {spare : Nat → Bool} {held : Bool} {n : Nat} {cs : List Value} {xs : List (DataW H × List MemPlace)},
    n ≤ F → cs.length = o + kd.sz → xs.length = fs.length →
    (∀ (i : Nat) (f : Field), fs[i]? = some f → DataW.trod enc P W base spare held n f.type ((cs.drop f.offset).take (P.cellsOf f.type)) = xs[i]?) →
    (∀ m ∈ DataW.weightsEach P (fs.map (·.type)) (xs.map (·.1)), m ≤ reachBytes) → ∃ y : α, kd.K W y (cs.drop o) ∧ good y

theorem fields_one {α : Type} {f : Field} {o : Nat} {kd : Kd α} {g : α → Prop} (ho : f.offset = o) (h : OpensAt F P f.type kd g) : FieldsAt F P [f] o kd g := by
  intro H enc W base spare held n cs xs hn hl hx hf hw
  have h1 := hf 0 f rfl
  match xs, hx with
  | [x], _ =>
    rw [ho, List.take_of_length_le (by rw [List.length_drop, ← h.sz]; omega)] at h1
    exact h.op hn h1 (fun m hm => hw m (by simp only [List.map, DataW.weightsEach]; exact List.mem_append_left _ hm))

theorem fields_cons {α β : Type} {f : Field} {fs : List Field} {o : Nat} {kd : Kd α} {kd' : Kd β} {g : α → Prop} {g' : β → Prop} (ho : f.offset = o) (h : OpensAt F P f.type kd g)
    (h' : FieldsAt F P fs (o + kd.sz) kd' g') : FieldsAt F P (f :: fs) o (Kd.pair kd kd') (fun y => g y.1 ∧ g' y.2) := by
  intro H enc W base spare held n cs xs hn hl hx hf hw
  match xs, hx with
  | x :: xs, hx =>
    have h1 := hf 0 f rfl
    rw [ho] at h1
    obtain ⟨y, hy, hg⟩ := h.op hn h1 (fun m hm => hw m (by simp only [List.map, DataW.weightsEach]; exact List.mem_append_left _ hm))
    have hsz : (Kd.pair kd kd').sz = kd.sz + kd'.sz := rfl
    obtain ⟨z, hz, hg'⟩ := h' (xs := xs) hn (by rw [hl, hsz]; omega) (by simpa using hx) (fun i f' hf' => by simpa using hf (i + 1) f' (by simpa using hf'))
      (fun m hm => hw m (by simp only [List.map, DataW.weightsEach]; exact List.mem_append_right _ hm))
    refine ⟨(y, z), ⟨_, _, ?_, hy, hz⟩, hg, hg'⟩
    rw [← h.sz, ← List.drop_drop, List.take_append_drop]

theorem at_struct {α : Type} {fs : Array Field} {fl : List Field} {kd : Kd α} {g : α → Prop} (hu : P.underlying t = some (.struct fs)) (hl : fs.toList = fl) (hc : P.cellsOf t = kd.sz) (h : FieldsAt F P fl 0 kd g) : OpensAt (F + 1) P t kd g where
  sz := hc.symm
  op := by
    intro H enc W base spare held fuel cs x hf h0 hw
    obtain ⟨xs, n, rfl, rfl, hcl, hxl, hx⟩ := DataW.trod_struct hu h0
    have := h (xs := xs) (n := n) (by omega) (by rw [hcl, hc]; omega) (by rw [hxl, ← hl]; simp) (fun i f hf => hx i f (by rw [← hl] at hf; simpa using hf)) (fun m hm => hw m (by
      simp only [DataW.weights, hu]
      rw [hl]
      exact hm))
    simpa using this

theorem at_iso {α β : Type} {kd : Kd α} {g : α → Prop} (f : β → α) (inv : α → β) (hi : ∀ x, f (inv x) = x) (h : OpensAt F P t kd g) : OpensAt F P t (Kd.iso kd f) (fun b => g (f b)) where
  sz := h.sz
  op := by
    intro H enc W base spare held fuel cs x hf h0 hw
    obtain ⟨y, hy, hg⟩ := h.op hf h0 hw
    refine ⟨inv y, ?_, ?_⟩
    · show kd.K W (f (inv y)) cs
      rw [hi]
      exact hy
    · show g (f (inv y))
      rw [hi]
      exact hg

theorem OpensAt.good_imp {α : Type} {kd : Kd α} {g g' : α → Prop} (h : OpensAt F P t kd g) (hg : ∀ x, g x → g' x) : OpensAt F P t kd g' where
  sz := h.sz
  op := fun hf h0 hw => by
    obtain ⟨y, hy, hgy⟩ := h.op hf h0 hw
    exact ⟨y, hy, hg y hgy⟩

theorem OpensAt.weaken {α : Type} {kd : Kd α} {g : α → Prop} (h : OpensAt (F + 1) P t kd g) : OpensAt F P t kd g where
  sz := h.sz
  op := fun hf h0 hw => h.op (Nat.le_succ_of_le hf) h0 hw

theorem opens_int {k : IntKind} (hu : P.underlying t = some (.int k)) (hc : P.cellsOf t = 1) : Opens P t (Kd.int k) (fun x => (Lit.int k x).wf = true) := fun _ => at_int hu hc
theorem opens_bool (hu : P.underlying t = some .bool) (hc : P.cellsOf t = 1) : Opens P t Kd.bool (fun _ => True) := fun _ => at_bool hu hc
theorem opens_string (hu : P.underlying t = some .string) (hc : P.cellsOf t = 1) : Opens P t Kd.string (fun s => s.size ≤ 140737488351232) := fun _ => at_string hu hc
theorem opens_slice {α : Type} {kd : Kd α} {g : α → Prop} {B : Nat} (hu : P.underlying t = some (.slice e)) (hc : P.cellsOf t = 1) (hB : P.bytesOf e = B) (he : Opens P e kd g) :
    Opens P t (Kd.slice e kd) (GoodL B g) := fun F => (at_slice hu hc hB (he F)).weaken
def Fields {α : Type} (P : Program) (fs : List Field) (o : Nat) (kd : Kd α) (good : α → Prop) : Prop := ∀ F, FieldsAt F P fs o kd good
theorem fields1 {α : Type} {f : Field} {o : Nat} {kd : Kd α} {g : α → Prop} (ho : f.offset = o) (h : Opens P f.type kd g) : Fields P [f] o kd g := fun F => fields_one ho (h F)
theorem fields2 {α β : Type} {f : Field} {fs : List Field} {o : Nat} {kd : Kd α} {kd' : Kd β} {g : α → Prop} {g' : β → Prop} (ho : f.offset = o) (h : Opens P f.type kd g)
    (h' : Fields P fs (o + kd.sz) kd' g') : Fields P (f :: fs) o (Kd.pair kd kd') (fun y => g y.1 ∧ g' y.2) := fun F => fields_cons ho (h F) (h' F)
theorem opens_struct {α : Type} {fs : Array Field} {fl : List Field} {kd : Kd α} {g : α → Prop} (hu : P.underlying t = some (.struct fs)) (hl : fs.toList = fl) (hc : P.cellsOf t = kd.sz) (h : Fields P fl 0 kd g) : Opens P t kd g :=
  fun F => (at_struct hu hl hc (h F)).weaken

/-- An argument, opened. -/
theorem open_arg {α : Type} {kd : Kd α} {g : α → Prop} (h : ∀ F, OpensAt F P t kd g) {H : Type} {enc : TypeId × Value → H} {W : World} {base : Nat} {spare : Nat → Bool} {held : Bool} {v : Value} {d : DataW H} {ps : List MemPlace}
    {ts : List TypeId} {ds : List (DataW H)} {j : Nat} (hsz : (DataW.weightsEach P ts ds).all (· ≤ reachBytes) = true) (ht : ts[j]? = some t) (hd : ds[j]? = some d)
    (hr : DataW.Trod enc P W base spare held t v d ps) : ∃ y : α, kd.K W y v.cells.toList ∧ g y := by
  obtain ⟨fuel, hf⟩ := hr
  exact (h fuel).op (Nat.le_refl _) hf (fun m hm => by
    have := List.all_eq_true.1 hsz m (DataW.weights_mem_each ht hd m hm)
    simpa using this)

end Go.Proofs.Ytgngpbcbnfmoiaa.Open
end

section
/- The laws' parameters of layer 1, opened. -/
namespace Go.Proofs.Ytgngpbcbnfmoiaa.ArgsW
open Go Go.RowKit Go.Proofs.YtgngpbcbnfmoiaaW.PrintWords Go.Proofs.Ytgngpbcbnfmoiaa.Open

def kBytes : Kd (List Int) := Kd.slice 5 (Kd.int .u8)
def kWords : Kd (List Int) := Kd.slice 23 (Kd.int .u64)
def gBytes (l : List Int) : Prop := GoodL 1 (fun x => (Lit.int .u8 x).wf = true) l
def gWords (l : List Int) : Prop := GoodL 8 (fun x => (Lit.int .u64 x).wf = true) l
def gI (x : Int) : Prop := (Lit.int .i64 x).wf = true
def gU (x : Int) : Prop := (Lit.int .u64 x).wf = true

theorem o_u8 : Opens Try.prog 5 (Kd.int .u8) (fun x => (Lit.int .u8 x).wf = true) := opens_int Try.underlying5 (by kernel_rfl)
theorem o_int : Opens Try.prog 3 (Kd.int .i64) gI := opens_int Try.underlying3 (by kernel_rfl)
theorem o_i64 : Opens Try.prog 2 (Kd.int .i64) gI := opens_int Try.underlying2 (by kernel_rfl)
theorem o_u64 : Opens Try.prog 23 (Kd.int .u64) gU := opens_int Try.underlying23 (by kernel_rfl)
theorem o_bytes : Opens Try.prog 22 kBytes gBytes := opens_slice Try.underlying22 (by kernel_rfl) (by kernel_rfl) o_u8
theorem o_words : Opens Try.prog 43 kWords gWords := opens_slice Try.underlying43 (by kernel_rfl) (by kernel_rfl) o_u64

/-- T, At, X -/
def kRun : Kd (List Int × Int × Int) := Kd.pair kBytes (Kd.pair (Kd.int .i64) (Kd.int .u64))
theorem o_run : Opens Try.prog 25 kRun (fun y => gBytes y.1 ∧ gI y.2.1 ∧ gU y.2.2) :=
  opens_struct Try.underlying25 rfl (by kernel_rfl) (fields2 rfl o_bytes (fields2 rfl o_int (fields1 rfl o_u64)))
/-- Seed, Other, T, At, X -/
def kChange : Kd (Int × Int × List Int × Int × Int) := Kd.pair (Kd.int .u64) (Kd.pair (Kd.int .u64) (Kd.pair kBytes (Kd.pair (Kd.int .i64) (Kd.int .u64))))
theorem o_change : Opens Try.prog 32 kChange (fun y => gU y.1 ∧ gU y.2.1 ∧ gBytes y.2.2.1 ∧ gI y.2.2.2.1 ∧ gU y.2.2.2.2) :=
  opens_struct Try.underlying32 rfl (by kernel_rfl) (fields2 rfl o_u64 (fields2 rfl o_u64 (fields2 rfl o_bytes (fields2 rfl o_int (fields1 rfl o_u64)))))
/-- Kind, Refs, Raws, X, T, N -/
def kTurn : Kd (Int × Int × Int × Int × List Int × Int) := Kd.pair (Kd.int .i64) (Kd.pair (Kd.int .i64) (Kd.pair (Kd.int .i64) (Kd.pair (Kd.int .u64) (Kd.pair kBytes (Kd.int .i64)))))
theorem o_turn : Opens Try.prog 36 kTurn (fun y => gI y.1 ∧ gI y.2.1 ∧ gI y.2.2.1 ∧ gU y.2.2.2.1 ∧ gBytes y.2.2.2.2.1 ∧ gI y.2.2.2.2.2) :=
  opens_struct Try.underlying36 rfl (by kernel_rfl) (fields2 rfl o_int (fields2 rfl o_int (fields2 rfl o_int (fields2 rfl o_u64 (fields2 rfl o_bytes (fields1 rfl o_int))))))
/-- N, M, X, T -/
def kSpell : Kd (Int × Int × Int × List Int) := Kd.pair (Kd.int .i64) (Kd.pair (Kd.int .i64) (Kd.pair (Kd.int .u64) kBytes))
theorem o_spell : Opens Try.prog 80 kSpell (fun y => gI y.1 ∧ gI y.2.1 ∧ gU y.2.2.1 ∧ gBytes y.2.2.2) :=
  opens_struct Try.underlying80 rfl (by kernel_rfl) (fields2 rfl o_i64 (fields2 rfl o_i64 (fields2 rfl o_u64 (fields1 rfl o_bytes))))

theorem bytes_cell {W : World} {l : List Int} {cs : List Value} (h : kBytes.K W l cs) : ∃ A c, cs = [.slice A l.length c] ∧ l.length ≤ c ∧ (Kd.int .u8).C W A l.length l := h
theorem wf_u8 {x : Int} (h : (Lit.int .u8 x).wf = true) : 0 ≤ x ∧ x < 256 := by
  simp [Lit.wf, IntKind.min, IntKind.max, IntKind.signed, IntKind.bits] at h; omega
theorem wf_u64 {x : Int} (h : (Lit.int .u64 x).wf = true) : 0 ≤ x ∧ x < 18446744073709551616 := by
  simp [Lit.wf, IntKind.min, IntKind.max, IntKind.signed, IntKind.bits] at h; omega
theorem wf_i64 {x : Int} (h : (Lit.int .i64 x).wf = true) : -9223372036854775808 ≤ x ∧ x < 9223372036854775808 := by
  simp [Lit.wf, IntKind.min, IntKind.max, IntKind.signed, IntKind.bits] at h; omega
theorem gBytes_in {l : List Int} (h : gBytes l) : ∀ c ∈ l, 0 ≤ c ∧ c < 256 := fun c hc => wf_u8 (h.2 c hc)
theorem gBytes_len {l : List Int} (h : gBytes l) : l.length ≤ 140737488351232 := by have := h.1; omega
end Go.Proofs.Ytgngpbcbnfmoiaa.ArgsW
end

section
/- A script of word.Words' steps, opened. No function of the program. -/
namespace Go.Proofs.Ytgngpbcbnfmoiaa.FreO
open Go Go.RowKit Go.Proofs.YtgngpbcbnfmoiaaW.PrintWords Go.Proofs.Ytgngpbcbnfmoiaa.Open Go.Proofs.Ytgngpbcbnfmoiaa.ArgsW
set_option linter.unusedVariables false
set_option maxRecDepth 100000

theorem add_add (a : Addr) (m j : Nat) : (a.add m).add j = a.add (m + j) := by
  by_cases hm : m = 0
  · subst hm; simp [Addr.add]
  · by_cases hj : j = 0
    · subst hj; simp [Addr.add, hm]
    · simp [Addr.add, hm, hj, Nat.add_assoc]
theorem run_loadVar_at {P : Program} (w : World) (A : Addr) (ty : TypeId) (cs : List Value) (d : TypeDesc) (hc : ∀ j v, cs[j]? = some v → w.cell? (A.add j) = some v)
    (hu : P.underlying ty = some d) (hd : (match d with | .struct _ | .array _ _ => true | _ => false) = true) (hi : (P.info? ty).map (·.size) = some cs.length) :
    (loadVar ty A).run P w = .ok (.agg cs.toArray) w := by
  have hl : (loadCells A cs.length).run P w = .ok cs.toArray w := run_loadCells_list (P := P) w A cs hc
  cases hq : P.info? ty with
  | none => simp [hq] at hi
  | some i =>
    have hs : i.size = cs.length := by simpa [hq] using hi
    have hagg : (isAgg ty).run P w = .ok true w := by
      unfold isAgg
      rw [Sem.run_bind, run_underlying hu w]
      cases d <;> simp_all
    simp [loadVar, Sem.run_bind, hagg, sizeOf, typeInfo, hq, hs, hl]
theorem wpList_load_at {P : Program} {ops : Array Oper} {rest : List Oper} {o : Oper} {a : Act} {w : World} {Q : Exit → Act → World → Prop} (hgd : o.guard = none) (ty : TypeId) (x : Operand) (ho : o.op = .load ty x)
    (A : Addr) (hx : a.eval x = .pointer (some A)) (cs : List Value) (d : TypeDesc) (hc : ∀ j v, cs[j]? = some v → w.cell? (A.add j) = some v)
    (hu : P.underlying ty = some d) (hd : (match d with | .struct _ | .array _ _ => true | _ => false) = true) (hi : (P.info? ty).map (·.size) = some cs.length)
    (h : wpList P ops Q rest (a.put o.dst (.agg cs.toArray)) w) : wpList P ops Q (o :: rest) a w :=
  wpList_plain hgd fun K hK => by
    unfold Oper.wp execOp
    simp only [ho, hx, Instr.loadAt, Instr.sureAddr, Sem.run_bind, Sem.run_pure, Result.andThen_ok, run_loadVar_at w A ty cs d hc hu hd hi]
    exact hK _ _ h
/-- Kind, Kind's three numbers, two whole numbers, a word, bytes, words. -/
abbrev WOp : Type := Int × Int × Int × Int × Int × Int × Int × List Int × List Int
def kOp : Kd WOp := Kd.pair (Kd.int .i64) (Kd.pair (Kd.int .i64) (Kd.pair (Kd.int .i64) (Kd.pair (Kd.int .i64) (Kd.pair (Kd.int .i64) (Kd.pair (Kd.int .i64) (Kd.pair (Kd.int .u64) (Kd.pair kBytes kWords)))))))
def gOp (y : WOp) : Prop := gI y.1 ∧ gI y.2.1 ∧ gI y.2.2.1 ∧ gI y.2.2.2.1 ∧ gI y.2.2.2.2.1 ∧ gI y.2.2.2.2.2.1 ∧ gU y.2.2.2.2.2.2.1 ∧ gBytes y.2.2.2.2.2.2.2.1 ∧ gWords y.2.2.2.2.2.2.2.2
theorem o_op : Opens Try.prog 71 kOp gOp :=
  opens_struct Try.underlying71 rfl (by kernel_rfl) (fields2 rfl o_int (fields2 rfl o_int (fields2 rfl o_int (fields2 rfl o_int (fields2 rfl o_i64 (fields2 rfl o_i64 (fields2 rfl o_u64 (fields2 rfl o_bytes (fields1 rfl o_words)))))))))
theorem o_ops : Opens Try.prog 49 (Kd.slice 71 kOp) (GoodL 104 gOp) := opens_slice Try.underlying49 (by kernel_rfl) (by kernel_rfl) o_op
def opCells (a0 a1 a2 a3 a4 a5 a6 : Int) (A7 : Option Addr) (n7 c7 : Nat) (A8 : Option Addr) (n8 c8 : Nat) : List Value :=
  [.int .i64 a0, .int .i64 a1, .int .i64 a2, .int .i64 a3, .int .i64 a4, .int .i64 a5, .int .u64 a6, .slice A7 n7 c7, .slice A8 n8 c8]
theorem op_cells {w : World} {A : Option Addr} {n : Nat} {ls : List WOp} (h : kOp.C w A n ls) (hg : ∀ y ∈ ls, gOp y) (i : Nat) (hi : i < ls.length) :
    ∃ (ad : Addr) (a0 a1 a2 a3 a4 a5 a6 : Int) (l7 l8 : List Int) (A7 : Option Addr) (c7 : Nat) (A8 : Option Addr) (c8 : Nat), A = some ad ∧ l7.length ≤ c7 ∧ (Kd.int .u8).C w A7 l7.length l7 ∧ l8.length ≤ c8 ∧ (Kd.int .u64).C w A8 l8.length l8 ∧
      (gI a0 ∧ gI a1 ∧ gI a4 ∧ gU a6 ∧ gBytes l7 ∧ gWords l8) ∧ ∀ j u, (opCells a0 a1 a2 a3 a4 a5 a6 A7 l7.length c7 A8 l8.length c8)[j]? = some u → w.cell? ((ad.add (i * 9)).add j) = some u := by
  have hn : ls.length = n := h.1
  obtain ⟨⟨a0, a1, a2, a3, a4, a5, a6, l7, l8⟩, hy⟩ : ∃ t, ls[i]? = some t := ⟨_, List.getElem?_eq_getElem hi⟩
  obtain ⟨ad, c, hh, hc, hK, hcells⟩ := Kd.C_get h (a0, a1, a2, a3, a4, a5, a6, l7, l8) (i : Int) (by omega) (by omega)
  rw [Int.toNat_natCast] at hK hcells
  have he : ls.getD i (a0, a1, a2, a3, a4, a5, a6, l7, l8) = (a0, a1, a2, a3, a4, a5, a6, l7, l8) := by rw [List.getD_eq_getElem?_getD, hy]; rfl
  rw [he] at hK
  obtain ⟨b0, b1, rfl, h0, c0, c1, rfl, h1, d0, d1, rfl, h2, e0, e1, rfl, h3, f0, f1, rfl, h4, g0, g1, rfl, h5, i0, i1, rfl, h6, j0, j1, rfl, h7, h8⟩ := hK
  have a0' : b0 = [_] := h0
  have a1' : c0 = [_] := h1
  have a2' : d0 = [_] := h2
  have a3' : e0 = [_] := h3
  have a4' : f0 = [_] := h4
  have a5' : g0 = [_] := h5
  have a6' : i0 = [_] := h6
  obtain ⟨A7, c7, hv7, q7, r7⟩ := bytes_cell h7
  obtain ⟨A8, c8, hv8, q8, r8⟩ : ∃ A c, j1 = [.slice A l8.length c] ∧ l8.length ≤ c ∧ (Kd.int .u64).C w A l8.length l8 := h8
  subst a0' a1' a2' a3' a4' a5' a6' hv7 hv8
  have g := hg _ (List.mem_of_getElem? hy)
  refine ⟨ad, a0, a1, a2, a3, a4, a5, a6, l7, l8, A7, c7, A8, c8, hh, q7, r7, q8, r8, ⟨g.1, g.2.1, g.2.2.2.2.1, g.2.2.2.2.2.2.1, g.2.2.2.2.2.2.2.1, g.2.2.2.2.2.2.2.2⟩, fun j u hj => ?_⟩
  rw [add_add]
  exact hcells j u hj
end Go.Proofs.Ytgngpbcbnfmoiaa.FreO
end

section
/- larderlaw1.Late.Add walked. -/
namespace Go.Proofs.Ytgngpbcbnfmoiaa.LatA
open Go Go.RowKit Go.Proofs.YtgngpbcbnfmoiaaW.PrintWords Go.Proofs.YtgngpbcbnfmoiaaW.PrintLast Go.Proofs.YtgngpbcbnfmoiaaW.PrintMore Go.Proofs.Ytgngpbcbnfmoiaa.RowU Go.Proofs.Ytgngpbcbnfmoiaa.ArM Go.Proofs.Ytgngpbcbnfmoiaa.GenM Go.Proofs.Ytgngpbcbnfmoiaa.GenN Go.Proofs.Ytgngpbcbnfmoiaa.BokA Go.Proofs.Ytgngpbcbnfmoiaa.BokB Go.Proofs.Ytgngpbcbnfmoiaa.BokG Go.Proofs.Ytgngpbcbnfmoiaa.BokS Go.Proofs.Ytgngpbcbnfmoiaa.FreM Go.Proofs.Ytgngpbcbnfmoiaa.LatS
set_option linter.unusedVariables false
set_option maxRecDepth 100000

set_option maxHeartbeats 8000000 in
theorem add.calls {W : World} {gh : Nat} {lo : Own} {vg vw : Value} {it : List It} (hP : Pn 10 22 5 W lo vg vw it) (hd : W.heap[gh]? = some (.cells #[vg, vw] 66 (0, 0))) (hgh : lo gh = none) (hlo : ∀ b, lo b ≠ none → b < W.heap.size) (hlen : it.length ≤ 100000)
    (Av : Option Addr) (n cv : Nat) (ls : List Int) (hv : GV 5 W (.slice Av n cv) (ls.map (Value.int .u8))) (hvn : ∀ b, (Value.slice Av n cv).ownBlock = some b → lo b = none ∧ b ≠ gh)
    (Au : Option Addr) (nu cu : Nat) (hu : GU W (.slice Au nu cu) (ls.map (Value.int .u8))) (hun : ∀ b, (Value.slice Au nu cu).ownBlock = some b → lo b = none ∧ b ≠ gh) (hb : ∀ x ∈ ls, 0 ≤ x ∧ x < 256) (hl : ls.length ≤ 200000000000000) :
    Calls Try.prog 29 #[.pointer (some ⟨gh, 0, none⟩), .slice Av n cv, .slice Au nu cu] W fun e w' => e = .returned (.tuple #[]) ∧ Ad 10 22 5 66 W w' gh lo (.slice Av n cv) (ls.map (Value.int .u8)) it (fun _ => False) := by
  have HP := Aside0.mk hP
  have HD := Aside0.mk hd
  have HL := Aside0.mk (And.intro hgh (And.intro hlo (And.intro hvn hl)))
  have HV := Aside0.mk hv
  have HU := Aside0.mk hu
  have HB := Aside0.mk hb
  have hx0 : W.cell? ⟨gh, 0, none⟩ = some vg := (blk_cell hd 0).trans rfl
  have HUN := Aside0.mk hun
  obtain ⟨rfl, _, _⟩ := gu_reads hu
  clear hP hd hgh hlo hv hvn hu hb hun
  go_enter Try.func29, Try.ntmps29
  go_upto_region 1 with ((with_reducible refine gate_builtin (b := .append) (xs := #[.tmp 10, .tmp 12]) rfl ?_); at_builtin; refine wpList_gen2 _ rfl (.tmp 10) (.tmp 12) 51 22 rfl Try.underlying51 (.slice none 0 0) 24 (by kernel_rfl) rfl (by decide) vg (gs it) rfl ?hv ⟨W.heap.size, 0, none⟩ (.slice Av n cv) rfl ?hc rfl ?hb ?_; (case hv => exact HP.out.tg.upd (S := none_) (Upd.of_below (below_alloc (Below.refl _ _) _)) (fun _ _ h => h)); (case hc => exact cell_one_new _ _ _ 0 _ rfl); (case hb => rw [gs_len]; omega); intro v2 w2 hr; obtain ⟨g2, c2, rfl⟩ := hr.form; have R2 := Aside0.mk hr; clear hr hx0; have HD2 := Aside0.mk (blk_upd (blk_below HD.out (below_alloc (Below.refl _ _) _)) R2.out.upd (fun e => by have := HP.out.gT _ e; rw [HL.out.1] at this; cases this)); have hfz := blk_frozen HD2.out 0; have hx0 : w2.cell? ⟨gh, 0, none⟩ = some vg := (blk_cell HD2.out 0).trans rfl)
  clear hfz hx0
  obtain ⟨w3, hw3⟩ : ∃ w3, w3 = w2.setCell ⟨gh, 0, none⟩ (.slice (some ⟨g2, 0, none⟩) ((gs it).length + 1) c2) := ⟨_, rfl⟩
  rw [← hw3]
  have HW3 := Aside0.mk hw3
  have HD3 := Aside0.mk (show w3.heap[gh]? = some (.cells #[.slice (some ⟨g2, 0, none⟩) ((gs it).length + 1) c2, vw] 66 (0, 0)) by rw [hw3]; exact blk_set HD2.out 0 _)
  have hx1 : w3.cell? ⟨gh, 1, none⟩ = some vw := (blk_cell HD3.out 1).trans rfl
  have U03 : Upd (fun b => b = gh ∨ vg.ownBlock = some b) W w3 := by
    rw [hw3]
    exact ((Upd.of_below (below_alloc (Below.refl _ _) _)).trans (R2.out.upd.mono (fun b h => .inr h))).put (.inl (.inl rfl)) _ _
  have HU3 : Aside0 ((Kd.int .u8).C w3 Au ls.length ls) := ⟨(gu_reads (HU.out.upd U03 (fun b hb => by
    rintro (rfl | h1)
    · exact (HUN.out b hb).2 rfl
    · have h2 := HP.out.gT b h1
      rw [(HUN.out b hb).1] at h2; cases h2))).2.2⟩
  have hs0 := Kd.C_string (P := Try.prog) (c := cu) Try.underlying22 Try.underlying5 Try.underlying9 (Kd.C_below HU3.out (Below.refl w3.heap.size w3).drew)
  have kb := fun (W : World) => Lib.run_convert_string_bytes (P := Try.prog) W 9 22 5 (strOfNums ls) Try.underlying9 Try.underlying22 Try.underlying5
  have HTW : Aside0 (GV 22 w3 vw (us it)) := ⟨HP.out.tw.upd U03 (fun b hb => by
    have h2 := HP.out.wT b hb
    rintro (rfl | h1)
    · rw [HL.out.1] at h2; cases h2
    · have h3 := HP.out.gT b h1
      rw [h2] at h3; simp at h3)⟩
  clear hw3 U03
  have hB4 : Below w3.heap.size w3 (Lib.bytesWorld w3.drew 5 (strOfNums ls)) := bytes_below (Below.refl w3.heap.size w3).drew (Nat.le_refl _) _ _
  have hxb : (Lib.bytesWorld w3.drew 5 (strOfNums ls)).cell? ⟨gh, 1, none⟩ = some vw := (hB4.cell (World.block_lt_of_cell? _ _ hx1)).trans hx1
  have HB4 := Aside0.mk hB4
  clear hB4
  go_wp2_with fail
  have HUW : Aside0 (∀ b, (Value.slice (some ⟨w3.drew.heap.size, 0, none⟩) (strOfNums ls).size (grownCap w3.drew (strOfNums ls).size 0 5)).ownBlock = some b → (w2.heap.size ≤ b ∨ (b < W.heap.size ∧ lo b = none ∧ False)) ∧ b ≠ gh ∧ (Value.slice Av n cv).ownBlock ≠ some b) := ⟨fun b hb => by
    obtain rfl := Option.some.inj hb
    have s3 : w3.heap.size = w2.heap.size := by rw [HW3.out]; simp [World.setCell]
    have s2 := R2.out.upd.size
    have s1 := (below_alloc (Below.refl W.heap.size W) (.cells #[.slice Av n cv] 0)).size
    have s0 : W.heap.size ≤ w3.heap.size := by
      have : W.heap.size ≤ w2.heap.size := Nat.le_trans (below_alloc (Below.refl W.heap.size W) _).size s2
      omega
    refine ⟨.inl (by show w2.heap.size ≤ w3.heap.size; omega), ?_, fun h => ?_⟩
    · have h2 := cell_lt HD.out
      intro e
      have : w3.heap.size = gh := e
      omega
    · have h2 := HV.out.lt _ h
      have : w3.heap.size < W.heap.size := h2
      omega⟩
  have hxc := fun (o : Obj) => (Lib.cell?_alloc_some o hxb)
  -- the orders, by drive2.py (f29, region 1)
  refine wp_region_held_drew (S := fun _ => True) (by kernel_rfl) (by trivial) (fun hHeld => ?_)
  refine wpAnyH_take (i := 0) (oi := ({ dst := some 16, op := Go.Op.move (Go.Operand.tmp 0), type := 64, pos := "book.go:697", after := #[], guard := none } : Oper)) (v := ?vq1) rfl (by kernel_rfl) (by kernel_rfl) (by kernel_rfl) (fun _ _ _ h => h) (Or.inl ⟨by rfl, ?hyq1⟩) (by first | trivial | assumption) ?restq1
  case hyq1 => (intro w hSw; (try dsimp only at hSw); go_simp; (try with_reducible rfl))
  (try simp only [Act.put, List.setIfInBounds_toArray, List.set_cons_zero, List.set_cons_succ])
  refine wpAnyH_take (i := 1) (oi := ({ dst := some 17, op := Go.Op.move (Go.Operand.tmp 0), type := 64, pos := "book.go:697", after := #[], guard := none } : Oper)) (v := ?vq2) rfl (by kernel_rfl) (by kernel_rfl) (by kernel_rfl) (fun _ _ _ h => h) (Or.inl ⟨by rfl, ?hyq2⟩) (by first | trivial | assumption) ?restq2
  case hyq2 => (intro w hSw; (try dsimp only at hSw); go_simp; (try with_reducible rfl))
  (try simp only [Act.put, List.setIfInBounds_toArray, List.set_cons_zero, List.set_cons_succ])
  refine wpAnyH_take (i := 2) (oi := ({ dst := some 18, op := Go.Op.nilCheck (Go.Operand.tmp 17), type := 0, pos := "book.go:697", after := #[{ on := 1, ground := Go.Ground.data }], guard := none } : Oper)) (v := ?vq3) rfl (by kernel_rfl) (by kernel_rfl) (by kernel_rfl) (fun _ _ _ h => h) (Or.inl ⟨by rfl, ?hyq3⟩) (by first | trivial | assumption) ?restq3
  case hyq3 => (intro w hSw; (try dsimp only at hSw); go_simp; (try with_reducible rfl))
  (try simp only [Act.put, List.setIfInBounds_toArray, List.set_cons_zero, List.set_cons_succ])
  refine wpAnyH_take (i := 3) (oi := ({ dst := some 19, op := Go.Op.fieldAddr 66 (Go.Operand.tmp 18) 1, type := 0, pos := "book.go:697", after := #[{ on := 2, ground := Go.Ground.data }], guard := none } : Oper)) (v := ?vq4) rfl (by kernel_rfl) (by kernel_rfl) (by kernel_rfl) (fun _ _ _ h => h) (Or.inl ⟨by rfl, ?hyq4⟩) (by first | trivial | assumption) ?restq4
  case hyq4 => (intro w hSw; (try dsimp only at hSw); go_simp; (try with_reducible rfl))
  (try simp only [Act.put, List.setIfInBounds_toArray, List.set_cons_zero, List.set_cons_succ])
  refine wpAnyH_take (i := 5) (oi := ({ dst := some 21, op := Go.Op.move (Go.Operand.tmp 2), type := 22, pos := "book.go:697", after := #[], guard := none } : Oper)) (v := ?vq5) rfl (by kernel_rfl) (by kernel_rfl) (by kernel_rfl) (fun _ _ _ h => h) (Or.inl ⟨by rfl, ?hyq5⟩) (by first | trivial | assumption) ?restq5
  case hyq5 => (intro w hSw; (try dsimp only at hSw); go_simp; (try with_reducible rfl))
  (try simp only [Act.put, List.setIfInBounds_toArray, List.set_cons_zero, List.set_cons_succ])
  refine wpAnyH_ready (rs := [4, 6]) (by kernel_rfl) (by simp) ?_
  refine AllReadyH.cons (o := ({ dst := some 20, op := Go.Op.load 51 (Go.Operand.tmp 19), type := 51, pos := "book.go:697", after := #[{ on := 3, ground := Go.Ground.data }], guard := none } : Oper)) rfl (fun K hK => ?_) ?_
  · go_simp
    refine hK.out _ _ (by trivial) (fun hHeld => ?_)
    clear hK K
    (try simp only [Act.put, List.setIfInBounds_toArray, List.set_cons_zero, List.set_cons_succ])
    refine wpAnyH_ready (rs := [6]) (by kernel_rfl) (by simp) ?_
    refine AllReadyH.cons (o := ({ dst := some 22, op := Go.Op.convert 22 9 (Go.Operand.tmp 21), type := 9, pos := "book.go:697", after := #[{ on := 5, ground := Go.Ground.data }], guard := none } : Oper)) rfl (fun K hK => ?_) ?_
    · go_simp
      refine hK.out _ _ (by trivial) (fun hHeld => ?_)
      clear hK K
      (try simp only [Act.put, List.setIfInBounds_toArray, List.set_cons_zero, List.set_cons_succ])
      refine wpAnyH_ready (rs := [7]) (by kernel_rfl) (by simp) ?_
      refine AllReadyH.cons (o := ({ dst := some 23, op := Go.Op.convert 9 22 (Go.Operand.tmp 22), type := 22, pos := "book.go:697", after := #[{ on := 6, ground := Go.Ground.data }], guard := none } : Oper)) rfl (fun K hK => ?_) ?_
      · go_simp
        refine hK.out _ _ (by trivial) (fun hHeld => ?_)
        clear hK K
        (try simp only [Act.put, List.setIfInBounds_toArray, List.set_cons_zero, List.set_cons_succ])
        refine wpAnyH_ready (rs := [8]) (by kernel_rfl) (by simp) ?_
        refine AllReadyH.cons (o := ({ dst := some 24, op := Go.Op.buildSlice 51 1 #[(0, Go.Operand.tmp 23)], type := 51, pos := "book.go:697", after := #[{ on := 7, ground := Go.Ground.data }], guard := none } : Oper)) rfl (fun K hK => ?_) ?_
        · go_simp
          refine hK.out _ _ (by trivial) (fun hHeld => ?_)
          clear hK K
          (try simp only [Act.put, List.setIfInBounds_toArray, List.set_cons_zero, List.set_cons_succ])
          refine wpAnyH_ready (rs := [9]) (by kernel_rfl) (by simp) ?_
          refine AllReadyH.cons (o := ({ dst := some 25, op := Go.Op.call { callee := Go.Callee.builtin Go.Builtin.append, args := #[Go.Operand.tmp 20, Go.Operand.tmp 24], argTypes := #[51, 51] }, type := 51, pos := "book.go:697", after := #[{ on := 4, ground := Go.Ground.data }, { on := 8, ground := Go.Ground.data }], guard := none } : Oper)) rfl (fun K hK => ?_) ?_
          · (refine step_gen2 _ rfl (.tmp 20) (.tmp 24) 51 22 rfl Try.underlying51 (.slice none 0 0) 24 (by kernel_rfl) rfl (by decide) vw (us it) rfl ?hv ⟨_, 0, none⟩ (.slice (some ⟨w3.drew.heap.size, 0, none⟩) (strOfNums ls).size (grownCap w3.drew (strOfNums ls).size 0 5)) rfl ?hc rfl ?hb ?_; go_must ((case hv => exact HTW.out.upd (S := none_) (Upd.of_below (below_alloc HB4.out _)) (fun _ _ h => h))); go_must ((case hc => exact cell_one_new _ _ _ 0 _ rfl)); go_must ((case hb => rw [us_len]; omega)); intro v5 w5 hr; obtain ⟨g5, c5, rfl⟩ := hr.form; have R5 := Aside0.mk hr; clear hr hxb; have HD5 := Aside0.mk (blk_upd (blk_below HD3.out (below_alloc HB4.out _)) R5.out.upd (fun e => by have := HP.out.wT _ e; rw [HL.out.1] at this; cases this)); have hfz := blk_frozen HD5.out 1; have hx5 : w5.cell? ⟨gh, 1, none⟩ = some vw := (blk_cell HD5.out 1).trans rfl)
            refine hK.out _ _ (by trivial) (fun hHeld => ?_)
            clear hK K
            (try simp only [Act.put, List.setIfInBounds_toArray, List.set_cons_zero, List.set_cons_succ])
            refine wpAnyH_take (i := 10) (oi := ({ dst := some 26, op := Go.Op.nilCheck (Go.Operand.tmp 16), type := 0, pos := "book.go:697", after := #[{ on := 0, ground := Go.Ground.data }, { on := 0, ground := Go.Ground.phase }, { on := 1, ground := Go.Ground.phase }, { on := 2, ground := Go.Ground.phase }, { on := 3, ground := Go.Ground.phase }, { on := 4, ground := Go.Ground.phase }, { on := 5, ground := Go.Ground.phase }, { on := 6, ground := Go.Ground.phase }, { on := 7, ground := Go.Ground.phase }, { on := 8, ground := Go.Ground.phase }, { on := 9, ground := Go.Ground.phase }], guard := none } : Oper)) (v := ?vq6) rfl (by kernel_rfl) (by kernel_rfl) (by kernel_rfl) (fun _ _ _ h => h) (Or.inl ⟨by rfl, ?hyq6⟩) (by first | trivial | assumption) ?restq6
            case hyq6 => (intro w hSw; (try dsimp only at hSw); go_simp; (try with_reducible rfl))
            (try simp only [Act.put, List.setIfInBounds_toArray, List.set_cons_zero, List.set_cons_succ])
            refine wpAnyH_take (i := 11) (oi := ({ dst := some 27, op := Go.Op.fieldAddr 66 (Go.Operand.tmp 26) 1, type := 0, pos := "book.go:697", after := #[{ on := 10, ground := Go.Ground.data }, { on := 0, ground := Go.Ground.phase }, { on := 1, ground := Go.Ground.phase }, { on := 2, ground := Go.Ground.phase }, { on := 3, ground := Go.Ground.phase }, { on := 4, ground := Go.Ground.phase }, { on := 5, ground := Go.Ground.phase }, { on := 6, ground := Go.Ground.phase }, { on := 7, ground := Go.Ground.phase }, { on := 8, ground := Go.Ground.phase }, { on := 9, ground := Go.Ground.phase }], guard := none } : Oper)) (v := ?vq7) rfl (by kernel_rfl) (by kernel_rfl) (by kernel_rfl) (fun _ _ _ h => h) (Or.inl ⟨by rfl, ?hyq7⟩) (by first | trivial | assumption) ?restq7
            case hyq7 => (intro w hSw; (try dsimp only at hSw); go_simp; (try with_reducible rfl))
            (try simp only [Act.put, List.setIfInBounds_toArray, List.set_cons_zero, List.set_cons_succ])
            refine wpAnyH_ready (rs := [12]) (by kernel_rfl) (by simp) ?_
            refine AllReadyH.cons (o := ({ dst := none, op := Go.Op.store 51 (Go.Operand.tmp 27) (Go.Operand.tmp 25), type := 0, pos := "book.go:697", after := #[{ on := 11, ground := Go.Ground.data }, { on := 9, ground := Go.Ground.data }, { on := 9, ground := Go.Ground.chain }, { on := 0, ground := Go.Ground.phase }, { on := 1, ground := Go.Ground.phase }, { on := 2, ground := Go.Ground.phase }, { on := 3, ground := Go.Ground.phase }, { on := 4, ground := Go.Ground.phase }, { on := 5, ground := Go.Ground.phase }, { on := 6, ground := Go.Ground.phase }, { on := 7, ground := Go.Ground.phase }, { on := 8, ground := Go.Ground.phase }, { on := 9, ground := Go.Ground.phase }], guard := none } : Oper)) rfl (fun K hK => ?_) ?_
            · go_simp
              refine hK.out _ _ (by trivial) (fun hHeld => ?_)
              clear hK K
              (try simp only [Act.put, List.setIfInBounds_toArray, List.set_cons_zero, List.set_cons_succ])
              refine wpAnyH_done (by kernel_rfl) ?_ _
              clear hfz hx5
              go_end0
              exact ⟨rfl, Pn.added HP.out HD.out HL.out.1 HL.out.2.1 (below_alloc (Below.refl _ _) _) R2.out.gv R2.out.block R2.out.upd HW3.out (below_alloc HB4.out _) R5.out.gv R5.out.block R5.out.upd rfl HV.out HL.out.2.2.1 (gu_bytes _ _ ls HB.out hl _) (HUW.out) (by rw [List.length_map]; exact hl)⟩
            exact AllReadyH.nil
          exact AllReadyH.nil
        exact AllReadyH.nil
      exact AllReadyH.nil
    exact AllReadyH.nil
  refine AllReadyH.cons (o := ({ dst := some 22, op := Go.Op.convert 22 9 (Go.Operand.tmp 21), type := 9, pos := "book.go:697", after := #[{ on := 5, ground := Go.Ground.data }], guard := none } : Oper)) rfl (fun K hK => ?_) ?_
  · go_simp
    refine hK.out _ _ (by trivial) (fun hHeld => ?_)
    clear hK K
    (try simp only [Act.put, List.setIfInBounds_toArray, List.set_cons_zero, List.set_cons_succ])
    refine wpAnyH_ready (rs := [4, 7]) (by kernel_rfl) (by simp) ?_
    refine AllReadyH.cons (o := ({ dst := some 20, op := Go.Op.load 51 (Go.Operand.tmp 19), type := 51, pos := "book.go:697", after := #[{ on := 3, ground := Go.Ground.data }], guard := none } : Oper)) rfl (fun K hK => ?_) ?_
    · go_simp
      refine hK.out _ _ (by trivial) (fun hHeld => ?_)
      clear hK K
      (try simp only [Act.put, List.setIfInBounds_toArray, List.set_cons_zero, List.set_cons_succ])
      refine wpAnyH_ready (rs := [7]) (by kernel_rfl) (by simp) ?_
      refine AllReadyH.cons (o := ({ dst := some 23, op := Go.Op.convert 9 22 (Go.Operand.tmp 22), type := 22, pos := "book.go:697", after := #[{ on := 6, ground := Go.Ground.data }], guard := none } : Oper)) rfl (fun K hK => ?_) ?_
      · go_simp
        refine hK.out _ _ (by trivial) (fun hHeld => ?_)
        clear hK K
        (try simp only [Act.put, List.setIfInBounds_toArray, List.set_cons_zero, List.set_cons_succ])
        refine wpAnyH_ready (rs := [8]) (by kernel_rfl) (by simp) ?_
        refine AllReadyH.cons (o := ({ dst := some 24, op := Go.Op.buildSlice 51 1 #[(0, Go.Operand.tmp 23)], type := 51, pos := "book.go:697", after := #[{ on := 7, ground := Go.Ground.data }], guard := none } : Oper)) rfl (fun K hK => ?_) ?_
        · go_simp
          refine hK.out _ _ (by trivial) (fun hHeld => ?_)
          clear hK K
          (try simp only [Act.put, List.setIfInBounds_toArray, List.set_cons_zero, List.set_cons_succ])
          refine wpAnyH_ready (rs := [9]) (by kernel_rfl) (by simp) ?_
          refine AllReadyH.cons (o := ({ dst := some 25, op := Go.Op.call { callee := Go.Callee.builtin Go.Builtin.append, args := #[Go.Operand.tmp 20, Go.Operand.tmp 24], argTypes := #[51, 51] }, type := 51, pos := "book.go:697", after := #[{ on := 4, ground := Go.Ground.data }, { on := 8, ground := Go.Ground.data }], guard := none } : Oper)) rfl (fun K hK => ?_) ?_
          · (refine step_gen2 _ rfl (.tmp 20) (.tmp 24) 51 22 rfl Try.underlying51 (.slice none 0 0) 24 (by kernel_rfl) rfl (by decide) vw (us it) rfl ?hv ⟨_, 0, none⟩ (.slice (some ⟨w3.drew.heap.size, 0, none⟩) (strOfNums ls).size (grownCap w3.drew (strOfNums ls).size 0 5)) rfl ?hc rfl ?hb ?_; go_must ((case hv => exact HTW.out.upd (S := none_) (Upd.of_below (below_alloc HB4.out _)) (fun _ _ h => h))); go_must ((case hc => exact cell_one_new _ _ _ 0 _ rfl)); go_must ((case hb => rw [us_len]; omega)); intro v5 w5 hr; obtain ⟨g5, c5, rfl⟩ := hr.form; have R5 := Aside0.mk hr; clear hr hxb; have HD5 := Aside0.mk (blk_upd (blk_below HD3.out (below_alloc HB4.out _)) R5.out.upd (fun e => by have := HP.out.wT _ e; rw [HL.out.1] at this; cases this)); have hfz := blk_frozen HD5.out 1; have hx5 : w5.cell? ⟨gh, 1, none⟩ = some vw := (blk_cell HD5.out 1).trans rfl)
            refine hK.out _ _ (by trivial) (fun hHeld => ?_)
            clear hK K
            (try simp only [Act.put, List.setIfInBounds_toArray, List.set_cons_zero, List.set_cons_succ])
            refine wpAnyH_take (i := 10) (oi := ({ dst := some 26, op := Go.Op.nilCheck (Go.Operand.tmp 16), type := 0, pos := "book.go:697", after := #[{ on := 0, ground := Go.Ground.data }, { on := 0, ground := Go.Ground.phase }, { on := 1, ground := Go.Ground.phase }, { on := 2, ground := Go.Ground.phase }, { on := 3, ground := Go.Ground.phase }, { on := 4, ground := Go.Ground.phase }, { on := 5, ground := Go.Ground.phase }, { on := 6, ground := Go.Ground.phase }, { on := 7, ground := Go.Ground.phase }, { on := 8, ground := Go.Ground.phase }, { on := 9, ground := Go.Ground.phase }], guard := none } : Oper)) (v := ?vq8) rfl (by kernel_rfl) (by kernel_rfl) (by kernel_rfl) (fun _ _ _ h => h) (Or.inl ⟨by rfl, ?hyq8⟩) (by first | trivial | assumption) ?restq8
            case hyq8 => (intro w hSw; (try dsimp only at hSw); go_simp; (try with_reducible rfl))
            (try simp only [Act.put, List.setIfInBounds_toArray, List.set_cons_zero, List.set_cons_succ])
            refine wpAnyH_take (i := 11) (oi := ({ dst := some 27, op := Go.Op.fieldAddr 66 (Go.Operand.tmp 26) 1, type := 0, pos := "book.go:697", after := #[{ on := 10, ground := Go.Ground.data }, { on := 0, ground := Go.Ground.phase }, { on := 1, ground := Go.Ground.phase }, { on := 2, ground := Go.Ground.phase }, { on := 3, ground := Go.Ground.phase }, { on := 4, ground := Go.Ground.phase }, { on := 5, ground := Go.Ground.phase }, { on := 6, ground := Go.Ground.phase }, { on := 7, ground := Go.Ground.phase }, { on := 8, ground := Go.Ground.phase }, { on := 9, ground := Go.Ground.phase }], guard := none } : Oper)) (v := ?vq9) rfl (by kernel_rfl) (by kernel_rfl) (by kernel_rfl) (fun _ _ _ h => h) (Or.inl ⟨by rfl, ?hyq9⟩) (by first | trivial | assumption) ?restq9
            case hyq9 => (intro w hSw; (try dsimp only at hSw); go_simp; (try with_reducible rfl))
            (try simp only [Act.put, List.setIfInBounds_toArray, List.set_cons_zero, List.set_cons_succ])
            refine wpAnyH_ready (rs := [12]) (by kernel_rfl) (by simp) ?_
            refine AllReadyH.cons (o := ({ dst := none, op := Go.Op.store 51 (Go.Operand.tmp 27) (Go.Operand.tmp 25), type := 0, pos := "book.go:697", after := #[{ on := 11, ground := Go.Ground.data }, { on := 9, ground := Go.Ground.data }, { on := 9, ground := Go.Ground.chain }, { on := 0, ground := Go.Ground.phase }, { on := 1, ground := Go.Ground.phase }, { on := 2, ground := Go.Ground.phase }, { on := 3, ground := Go.Ground.phase }, { on := 4, ground := Go.Ground.phase }, { on := 5, ground := Go.Ground.phase }, { on := 6, ground := Go.Ground.phase }, { on := 7, ground := Go.Ground.phase }, { on := 8, ground := Go.Ground.phase }, { on := 9, ground := Go.Ground.phase }], guard := none } : Oper)) rfl (fun K hK => ?_) ?_
            · go_simp
              refine hK.out _ _ (by trivial) (fun hHeld => ?_)
              clear hK K
              (try simp only [Act.put, List.setIfInBounds_toArray, List.set_cons_zero, List.set_cons_succ])
              refine wpAnyH_done (by kernel_rfl) ?_ _
              clear hfz hx5
              go_end0
              exact ⟨rfl, Pn.added HP.out HD.out HL.out.1 HL.out.2.1 (below_alloc (Below.refl _ _) _) R2.out.gv R2.out.block R2.out.upd HW3.out (below_alloc HB4.out _) R5.out.gv R5.out.block R5.out.upd rfl HV.out HL.out.2.2.1 (gu_bytes _ _ ls HB.out hl _) (HUW.out) (by rw [List.length_map]; exact hl)⟩
            exact AllReadyH.nil
          exact AllReadyH.nil
        exact AllReadyH.nil
      exact AllReadyH.nil
    refine AllReadyH.cons (o := ({ dst := some 23, op := Go.Op.convert 9 22 (Go.Operand.tmp 22), type := 22, pos := "book.go:697", after := #[{ on := 6, ground := Go.Ground.data }], guard := none } : Oper)) rfl (fun K hK => ?_) ?_
    · go_simp
      refine hK.out _ _ (by trivial) (fun hHeld => ?_)
      clear hK K
      (try simp only [Act.put, List.setIfInBounds_toArray, List.set_cons_zero, List.set_cons_succ])
      refine wpAnyH_ready (rs := [4, 8]) (by kernel_rfl) (by simp) ?_
      refine AllReadyH.cons (o := ({ dst := some 20, op := Go.Op.load 51 (Go.Operand.tmp 19), type := 51, pos := "book.go:697", after := #[{ on := 3, ground := Go.Ground.data }], guard := none } : Oper)) rfl (fun K hK => ?_) ?_
      · go_simp
        refine hK.out _ _ (by trivial) (fun hHeld => ?_)
        clear hK K
        (try simp only [Act.put, List.setIfInBounds_toArray, List.set_cons_zero, List.set_cons_succ])
        refine wpAnyH_ready (rs := [8]) (by kernel_rfl) (by simp) ?_
        refine AllReadyH.cons (o := ({ dst := some 24, op := Go.Op.buildSlice 51 1 #[(0, Go.Operand.tmp 23)], type := 51, pos := "book.go:697", after := #[{ on := 7, ground := Go.Ground.data }], guard := none } : Oper)) rfl (fun K hK => ?_) ?_
        · go_simp
          refine hK.out _ _ (by trivial) (fun hHeld => ?_)
          clear hK K
          (try simp only [Act.put, List.setIfInBounds_toArray, List.set_cons_zero, List.set_cons_succ])
          refine wpAnyH_ready (rs := [9]) (by kernel_rfl) (by simp) ?_
          refine AllReadyH.cons (o := ({ dst := some 25, op := Go.Op.call { callee := Go.Callee.builtin Go.Builtin.append, args := #[Go.Operand.tmp 20, Go.Operand.tmp 24], argTypes := #[51, 51] }, type := 51, pos := "book.go:697", after := #[{ on := 4, ground := Go.Ground.data }, { on := 8, ground := Go.Ground.data }], guard := none } : Oper)) rfl (fun K hK => ?_) ?_
          · (refine step_gen2 _ rfl (.tmp 20) (.tmp 24) 51 22 rfl Try.underlying51 (.slice none 0 0) 24 (by kernel_rfl) rfl (by decide) vw (us it) rfl ?hv ⟨_, 0, none⟩ (.slice (some ⟨w3.drew.heap.size, 0, none⟩) (strOfNums ls).size (grownCap w3.drew (strOfNums ls).size 0 5)) rfl ?hc rfl ?hb ?_; go_must ((case hv => exact HTW.out.upd (S := none_) (Upd.of_below (below_alloc HB4.out _)) (fun _ _ h => h))); go_must ((case hc => exact cell_one_new _ _ _ 0 _ rfl)); go_must ((case hb => rw [us_len]; omega)); intro v5 w5 hr; obtain ⟨g5, c5, rfl⟩ := hr.form; have R5 := Aside0.mk hr; clear hr hxb; have HD5 := Aside0.mk (blk_upd (blk_below HD3.out (below_alloc HB4.out _)) R5.out.upd (fun e => by have := HP.out.wT _ e; rw [HL.out.1] at this; cases this)); have hfz := blk_frozen HD5.out 1; have hx5 : w5.cell? ⟨gh, 1, none⟩ = some vw := (blk_cell HD5.out 1).trans rfl)
            refine hK.out _ _ (by trivial) (fun hHeld => ?_)
            clear hK K
            (try simp only [Act.put, List.setIfInBounds_toArray, List.set_cons_zero, List.set_cons_succ])
            refine wpAnyH_take (i := 10) (oi := ({ dst := some 26, op := Go.Op.nilCheck (Go.Operand.tmp 16), type := 0, pos := "book.go:697", after := #[{ on := 0, ground := Go.Ground.data }, { on := 0, ground := Go.Ground.phase }, { on := 1, ground := Go.Ground.phase }, { on := 2, ground := Go.Ground.phase }, { on := 3, ground := Go.Ground.phase }, { on := 4, ground := Go.Ground.phase }, { on := 5, ground := Go.Ground.phase }, { on := 6, ground := Go.Ground.phase }, { on := 7, ground := Go.Ground.phase }, { on := 8, ground := Go.Ground.phase }, { on := 9, ground := Go.Ground.phase }], guard := none } : Oper)) (v := ?vq10) rfl (by kernel_rfl) (by kernel_rfl) (by kernel_rfl) (fun _ _ _ h => h) (Or.inl ⟨by rfl, ?hyq10⟩) (by first | trivial | assumption) ?restq10
            case hyq10 => (intro w hSw; (try dsimp only at hSw); go_simp; (try with_reducible rfl))
            (try simp only [Act.put, List.setIfInBounds_toArray, List.set_cons_zero, List.set_cons_succ])
            refine wpAnyH_take (i := 11) (oi := ({ dst := some 27, op := Go.Op.fieldAddr 66 (Go.Operand.tmp 26) 1, type := 0, pos := "book.go:697", after := #[{ on := 10, ground := Go.Ground.data }, { on := 0, ground := Go.Ground.phase }, { on := 1, ground := Go.Ground.phase }, { on := 2, ground := Go.Ground.phase }, { on := 3, ground := Go.Ground.phase }, { on := 4, ground := Go.Ground.phase }, { on := 5, ground := Go.Ground.phase }, { on := 6, ground := Go.Ground.phase }, { on := 7, ground := Go.Ground.phase }, { on := 8, ground := Go.Ground.phase }, { on := 9, ground := Go.Ground.phase }], guard := none } : Oper)) (v := ?vq11) rfl (by kernel_rfl) (by kernel_rfl) (by kernel_rfl) (fun _ _ _ h => h) (Or.inl ⟨by rfl, ?hyq11⟩) (by first | trivial | assumption) ?restq11
            case hyq11 => (intro w hSw; (try dsimp only at hSw); go_simp; (try with_reducible rfl))
            (try simp only [Act.put, List.setIfInBounds_toArray, List.set_cons_zero, List.set_cons_succ])
            refine wpAnyH_ready (rs := [12]) (by kernel_rfl) (by simp) ?_
            refine AllReadyH.cons (o := ({ dst := none, op := Go.Op.store 51 (Go.Operand.tmp 27) (Go.Operand.tmp 25), type := 0, pos := "book.go:697", after := #[{ on := 11, ground := Go.Ground.data }, { on := 9, ground := Go.Ground.data }, { on := 9, ground := Go.Ground.chain }, { on := 0, ground := Go.Ground.phase }, { on := 1, ground := Go.Ground.phase }, { on := 2, ground := Go.Ground.phase }, { on := 3, ground := Go.Ground.phase }, { on := 4, ground := Go.Ground.phase }, { on := 5, ground := Go.Ground.phase }, { on := 6, ground := Go.Ground.phase }, { on := 7, ground := Go.Ground.phase }, { on := 8, ground := Go.Ground.phase }, { on := 9, ground := Go.Ground.phase }], guard := none } : Oper)) rfl (fun K hK => ?_) ?_
            · go_simp
              refine hK.out _ _ (by trivial) (fun hHeld => ?_)
              clear hK K
              (try simp only [Act.put, List.setIfInBounds_toArray, List.set_cons_zero, List.set_cons_succ])
              refine wpAnyH_done (by kernel_rfl) ?_ _
              clear hfz hx5
              go_end0
              exact ⟨rfl, Pn.added HP.out HD.out HL.out.1 HL.out.2.1 (below_alloc (Below.refl _ _) _) R2.out.gv R2.out.block R2.out.upd HW3.out (below_alloc HB4.out _) R5.out.gv R5.out.block R5.out.upd rfl HV.out HL.out.2.2.1 (gu_bytes _ _ ls HB.out hl _) (HUW.out) (by rw [List.length_map]; exact hl)⟩
            exact AllReadyH.nil
          exact AllReadyH.nil
        exact AllReadyH.nil
      refine AllReadyH.cons (o := ({ dst := some 24, op := Go.Op.buildSlice 51 1 #[(0, Go.Operand.tmp 23)], type := 51, pos := "book.go:697", after := #[{ on := 7, ground := Go.Ground.data }], guard := none } : Oper)) rfl (fun K hK => ?_) ?_
      · go_simp
        refine hK.out _ _ (by trivial) (fun hHeld => ?_)
        clear hK K
        (try simp only [Act.put, List.setIfInBounds_toArray, List.set_cons_zero, List.set_cons_succ])
        refine wpAnyH_ready (rs := [4]) (by kernel_rfl) (by simp) ?_
        refine AllReadyH.cons (o := ({ dst := some 20, op := Go.Op.load 51 (Go.Operand.tmp 19), type := 51, pos := "book.go:697", after := #[{ on := 3, ground := Go.Ground.data }], guard := none } : Oper)) rfl (fun K hK => ?_) ?_
        · go_simp
          refine hK.out _ _ (by trivial) (fun hHeld => ?_)
          clear hK K
          (try simp only [Act.put, List.setIfInBounds_toArray, List.set_cons_zero, List.set_cons_succ])
          refine wpAnyH_ready (rs := [9]) (by kernel_rfl) (by simp) ?_
          refine AllReadyH.cons (o := ({ dst := some 25, op := Go.Op.call { callee := Go.Callee.builtin Go.Builtin.append, args := #[Go.Operand.tmp 20, Go.Operand.tmp 24], argTypes := #[51, 51] }, type := 51, pos := "book.go:697", after := #[{ on := 4, ground := Go.Ground.data }, { on := 8, ground := Go.Ground.data }], guard := none } : Oper)) rfl (fun K hK => ?_) ?_
          · (refine step_gen2 _ rfl (.tmp 20) (.tmp 24) 51 22 rfl Try.underlying51 (.slice none 0 0) 24 (by kernel_rfl) rfl (by decide) vw (us it) rfl ?hv ⟨_, 0, none⟩ (.slice (some ⟨w3.drew.heap.size, 0, none⟩) (strOfNums ls).size (grownCap w3.drew (strOfNums ls).size 0 5)) rfl ?hc rfl ?hb ?_; go_must ((case hv => exact HTW.out.upd (S := none_) (Upd.of_below (below_alloc HB4.out _)) (fun _ _ h => h))); go_must ((case hc => exact cell_one_new _ _ _ 0 _ rfl)); go_must ((case hb => rw [us_len]; omega)); intro v5 w5 hr; obtain ⟨g5, c5, rfl⟩ := hr.form; have R5 := Aside0.mk hr; clear hr hxb; have HD5 := Aside0.mk (blk_upd (blk_below HD3.out (below_alloc HB4.out _)) R5.out.upd (fun e => by have := HP.out.wT _ e; rw [HL.out.1] at this; cases this)); have hfz := blk_frozen HD5.out 1; have hx5 : w5.cell? ⟨gh, 1, none⟩ = some vw := (blk_cell HD5.out 1).trans rfl)
            refine hK.out _ _ (by trivial) (fun hHeld => ?_)
            clear hK K
            (try simp only [Act.put, List.setIfInBounds_toArray, List.set_cons_zero, List.set_cons_succ])
            refine wpAnyH_take (i := 10) (oi := ({ dst := some 26, op := Go.Op.nilCheck (Go.Operand.tmp 16), type := 0, pos := "book.go:697", after := #[{ on := 0, ground := Go.Ground.data }, { on := 0, ground := Go.Ground.phase }, { on := 1, ground := Go.Ground.phase }, { on := 2, ground := Go.Ground.phase }, { on := 3, ground := Go.Ground.phase }, { on := 4, ground := Go.Ground.phase }, { on := 5, ground := Go.Ground.phase }, { on := 6, ground := Go.Ground.phase }, { on := 7, ground := Go.Ground.phase }, { on := 8, ground := Go.Ground.phase }, { on := 9, ground := Go.Ground.phase }], guard := none } : Oper)) (v := ?vq12) rfl (by kernel_rfl) (by kernel_rfl) (by kernel_rfl) (fun _ _ _ h => h) (Or.inl ⟨by rfl, ?hyq12⟩) (by first | trivial | assumption) ?restq12
            case hyq12 => (intro w hSw; (try dsimp only at hSw); go_simp; (try with_reducible rfl))
            (try simp only [Act.put, List.setIfInBounds_toArray, List.set_cons_zero, List.set_cons_succ])
            refine wpAnyH_take (i := 11) (oi := ({ dst := some 27, op := Go.Op.fieldAddr 66 (Go.Operand.tmp 26) 1, type := 0, pos := "book.go:697", after := #[{ on := 10, ground := Go.Ground.data }, { on := 0, ground := Go.Ground.phase }, { on := 1, ground := Go.Ground.phase }, { on := 2, ground := Go.Ground.phase }, { on := 3, ground := Go.Ground.phase }, { on := 4, ground := Go.Ground.phase }, { on := 5, ground := Go.Ground.phase }, { on := 6, ground := Go.Ground.phase }, { on := 7, ground := Go.Ground.phase }, { on := 8, ground := Go.Ground.phase }, { on := 9, ground := Go.Ground.phase }], guard := none } : Oper)) (v := ?vq13) rfl (by kernel_rfl) (by kernel_rfl) (by kernel_rfl) (fun _ _ _ h => h) (Or.inl ⟨by rfl, ?hyq13⟩) (by first | trivial | assumption) ?restq13
            case hyq13 => (intro w hSw; (try dsimp only at hSw); go_simp; (try with_reducible rfl))
            (try simp only [Act.put, List.setIfInBounds_toArray, List.set_cons_zero, List.set_cons_succ])
            refine wpAnyH_ready (rs := [12]) (by kernel_rfl) (by simp) ?_
            refine AllReadyH.cons (o := ({ dst := none, op := Go.Op.store 51 (Go.Operand.tmp 27) (Go.Operand.tmp 25), type := 0, pos := "book.go:697", after := #[{ on := 11, ground := Go.Ground.data }, { on := 9, ground := Go.Ground.data }, { on := 9, ground := Go.Ground.chain }, { on := 0, ground := Go.Ground.phase }, { on := 1, ground := Go.Ground.phase }, { on := 2, ground := Go.Ground.phase }, { on := 3, ground := Go.Ground.phase }, { on := 4, ground := Go.Ground.phase }, { on := 5, ground := Go.Ground.phase }, { on := 6, ground := Go.Ground.phase }, { on := 7, ground := Go.Ground.phase }, { on := 8, ground := Go.Ground.phase }, { on := 9, ground := Go.Ground.phase }], guard := none } : Oper)) rfl (fun K hK => ?_) ?_
            · go_simp
              refine hK.out _ _ (by trivial) (fun hHeld => ?_)
              clear hK K
              (try simp only [Act.put, List.setIfInBounds_toArray, List.set_cons_zero, List.set_cons_succ])
              refine wpAnyH_done (by kernel_rfl) ?_ _
              clear hfz hx5
              go_end0
              exact ⟨rfl, Pn.added HP.out HD.out HL.out.1 HL.out.2.1 (below_alloc (Below.refl _ _) _) R2.out.gv R2.out.block R2.out.upd HW3.out (below_alloc HB4.out _) R5.out.gv R5.out.block R5.out.upd rfl HV.out HL.out.2.2.1 (gu_bytes _ _ ls HB.out hl _) (HUW.out) (by rw [List.length_map]; exact hl)⟩
            exact AllReadyH.nil
          exact AllReadyH.nil
        exact AllReadyH.nil
      exact AllReadyH.nil
    exact AllReadyH.nil
  exact AllReadyH.nil
end Go.Proofs.Ytgngpbcbnfmoiaa.LatA
end

section
/- larderlaw1.Late.Settle walked: the bytes that wait are as they were, and go into the book. -/
namespace Go.Proofs.Ytgngpbcbnfmoiaa.SetB
open Go Go.RowKit Go.Proofs.YtgngpbcbnfmoiaaW.PrintWords Go.Proofs.YtgngpbcbnfmoiaaW.PrintLast Go.Proofs.YtgngpbcbnfmoiaaW.PrintMore Go.Proofs.Ytgngpbcbnfmoiaa.RowU Go.Proofs.Ytgngpbcbnfmoiaa.ArM Go.Proofs.Ytgngpbcbnfmoiaa.GenM Go.Proofs.Ytgngpbcbnfmoiaa.GenN Go.Proofs.Ytgngpbcbnfmoiaa.BokA Go.Proofs.Ytgngpbcbnfmoiaa.BokB Go.Proofs.Ytgngpbcbnfmoiaa.BokE Go.Proofs.Ytgngpbcbnfmoiaa.BokG Go.Proofs.Ytgngpbcbnfmoiaa.BokS Go.Proofs.Ytgngpbcbnfmoiaa.FreM Go.Proofs.Ytgngpbcbnfmoiaa.SetW
set_option linter.unusedVariables false
set_option maxRecDepth 100000

set_option maxHeartbeats 8000000 in
theorem settle.calls {W : World} {gb gh : Nat} {ow lo : Own} {vB vBo : Value} {eB : List Ent} {aB : Nat} {vW vWo : Value} {eW : List Ent} {aW turn done used : Nat} (h : Bk W gb 0 ow vB vBo eB aB vW vWo eW aW turn done used) {vg vw : Value} {it : List It}
    (hP : Pn 10 22 5 W lo vg vw it) (hd : W.heap[gh]? = some (.cells #[vg, vw] 66 (0, 0))) (hng : ow gh = none) (dis : ∀ b, lo b ≠ none → ow b = none) (hgb : lo gb = none) (hgh : lo gh = none) (hne : gh ≠ gb)
    (hU : ∀ x, x ∈ it → ∃ ls : List Int, x.l = ls.map (Value.int .u8)) (hlen : it.length ≤ 100000) (ht : turn + it.length ≤ 1000000000000000) (n : Int) :
    Calls Try.prog 30 #[.pointer (some ⟨gh, 0, none⟩), .pointer (some ⟨gb, 0, none⟩), .int .i64 n] W fun e w' => e = .returned (.bool true) ∧ (((it.length : Int) < n ∧ Below W.heap.size W w') ∨ ∃ ow' vB' vBo' eB' aB' vW' vWo' eW' aW' done' used', Bk w' gb 0 ow' vB' vBo' eB' aB' vW' vWo' eW' aW' (turn + it.length) done' used' ∧
      w'.heap[gh]? = some (.cells #[.slice none 0 0, .slice none 0 0] 66 (0, 0)) ∧ (∀ b, ow' b ≠ none → ow b ≠ none ∨ Xof it b ∨ W.heap.size ≤ b) ∧ Upd (fun b => b = gb ∨ b = gh ∨ ow b ≠ none ∨ Xof it b) W w') := by
  have HB := Aside0.mk h
  have HP := Aside0.mk hP
  have HD := Aside0.mk hd
  have HX := Aside0.mk (And.intro hng (And.intro dis (And.intro hgb (And.intro hgh hne))))
  have HU := Aside0.mk hU
  obtain ⟨A0, c0, e0⟩ := hP.tg.slice
  obtain ⟨A1, c1, e1⟩ := hP.tw.slice
  rw [gs_len] at e0
  rw [us_len] at e1
  subst e0 e1
  clear h hP hd hng dis hgb hgh hne hU
  go_enter Try.func30, Try.ntmps30
  have hh0 : W.cell? ⟨gh, 0, none⟩ = some (.slice A0 it.length c0) := (blk_cell HD.out 0).trans rfl
  by_cases hn : (it.length : Int) < n
  · have hn' : decide ((it.length : Int) < n) = true := decide_eq_true hn
    clear HB HP HD HX HU
    go_wp2_with fail
    go_ret
    exact ⟨rfl, .inl ⟨hn, Below.refl _ _⟩⟩
  have hn' : decide ((it.length : Int) < n) = false := decide_eq_false hn
  go_wp2_with fail
  clear hn hn' hh0
  go_loopw [7] (fun i wr => ∃ k : Nat, k ≤ it.length ∧ i = .int .i64 k ∧ Aside0 (Below W.heap.size W wr)) (fun i _ => it.length - (intOf i).toNat)
  case atStart => exact ⟨0, by omega, rfl, ⟨Below.refl _ _⟩⟩
  case round =>
    obtain ⟨i, hi, rfl, H0⟩ := hrel
    rename World => wr
    have hx0 : wr.cell? ⟨gh, 0, none⟩ = some (.slice A0 it.length c0) := (blk_cell (blk_below HD.out H0.out) 0).trans rfl
    by_cases hlt : i < it.length
    · have hlt' : (i : Int) < it.length := by omega
      have hi0 : (0 : Int) ≤ (i : Int) := by omega
      obtain ⟨x, hx⟩ : ∃ x, it[i]? = some x := ⟨_, List.getElem?_eq_getElem hlt⟩
      obtain ⟨ls, hls⟩ := HU.out x (List.mem_of_getElem? hx)
      obtain ⟨q1, q2, _, _, q5⟩ := HP.out.el i x hx
      rw [hls] at q1 q2 q5
      rw [List.length_map] at q5
      obtain ⟨Ag, cg, eg⟩ := q1.slice
      obtain ⟨Au, cu, eu⟩ := q2.slice
      rw [List.length_map] at eg eu
      rw [eg] at q1
      rw [eu] at q2
      obtain ⟨gt, ct, e1, d1⟩ := HP.out.tg.get i _ (gs_get hx)
      obtain ⟨gy, cy, e2, d2⟩ := HP.out.tw.get i _ (us_get hx)
      rw [gs_len] at e1
      rw [us_len] at e2
      simp only [Value.slice.injEq, true_and] at e1 e2
      obtain ⟨rfl, rfl⟩ := e1
      obtain ⟨rfl, rfl⟩ := e2
      rw [eg] at d1
      rw [eu] at d2
      have hq0 : wr.cell? ⟨gh, 1, none⟩ = some (.slice (some ⟨gy, 0, none⟩) it.length c1) := (blk_cell (blk_below HD.out H0.out) 1).trans rfl
      have hq1 := (H0.out.cell (World.block_lt_of_cell? _ _ d1)).trans d1
      have hq2 := (H0.out.cell (World.block_lt_of_cell? _ _ d2)).trans d2
      have hs0 := Kd.C_string (P := Try.prog) (c := cg) Try.underlying22 Try.underlying5 Try.underlying9 (gv_reads (q1.upd (S := none_) (Upd.of_below H0.out.drew) (fun _ _ h => h))).2.2
      have hs1 := Kd.C_string (P := Try.prog) (c := cu) Try.underlying22 Try.underlying5 Try.underlying9 (gu_reads (q2.upd (S := none_) (Upd.of_below H0.out.drew) (fun _ _ h => h))).2.2
      clear hx hls q1 q2 q5 eg eu d1 d2
      go_wp2_with fail
      go_still (by kernel_rfl)
      have H2 := Aside0.mk H0.out.drew
      clear hx0 hq0 hq1 hq2 hs0 hs1
      go_wp2_with fail
      exact ⟨⟨i + 1, by omega, by rw [Int.natCast_succ], H2⟩, by simp only [intOf]; omega⟩
    · obtain rfl : i = it.length := by omega
      clear hlt
      go_wp2_with fail
      go_wp2_with fail
      go_loopw [8] (fun i wr => ∃ k : Nat, k ≤ it.length ∧ i = .int .i64 k ∧ Aside0 (∃ ow' vB' vBo' eB' aB' vW' vWo' eW' aW' done' used', Bk wr gb 0 ow' vB' vBo' eB' aB' vW' vWo' eW' aW' (turn + k) done' used' ∧ Tk 10 22 5 W wr gb gh 66 ow ow' (.slice A0 it.length c0) (.slice A1 it.length c1) it k)) (fun i _ => it.length - (intOf i).toNat)
      case atStart => exact ⟨0, by omega, rfl, ⟨ow, vB, vBo, eB, aB, vW, vWo, eW, aW, done, used, by rw [Nat.add_zero]; exact HB.out.below H0.out, Tk.start HP.out HD.out HX.out.1 HX.out.2.1 HX.out.2.2.1 H0.out⟩⟩
      case round =>
        obtain ⟨i, hi, rfl, H1⟩ := hrel
        rename_i wr0 wr
        have hx0 : wr.cell? ⟨gh, 0, none⟩ = some (.slice A0 it.length c0) := by
          obtain ⟨ow', _, _, _, _, _, _, _, _, _, _, h1, h2⟩ := H1.out
          exact (blk_cell h2.hd 0).trans rfl
        by_cases hlt : i < it.length
        · have hlt' : (i : Int) < it.length := by omega
          have hi0 : (0 : Int) ≤ (i : Int) := by omega
          obtain ⟨x, hx⟩ : ∃ x, it[i]? = some x := ⟨_, List.getElem?_eq_getElem hlt⟩
          obtain ⟨ow', vB', vBo', eB', aB', vW', vWo', eW', aW', done', used', h1, h2⟩ := H1.out
          have HB1 := Aside0.mk h1
          have HT1 := Aside0.mk h2
          obtain ⟨q1, q2⟩ := h2.rest i x hx (Nat.le_refl _)
          obtain ⟨Ag, cg, eg⟩ := q1.slice
          have q5 := (HP.out.el i x hx).2.2.2.2
          obtain ⟨gt, ct, e1, d1⟩ := h2.tg.get i _ (gs_get hx)
          rw [gs_len] at e1
          simp only [Value.slice.injEq, true_and] at e1
          obtain ⟨rfl, rfl⟩ := e1
          rw [eg] at d1
          have HX1 := Aside0.mk hx
          have HC := Aside0.mk (BokC.bytes.calls h1 Ag x.l.length cg x.l (by rw [← eg]; exact q1) (by omega) (by rw [← eg]; exact q2) (by omega))
          rw [← eg] at HC
          have HE := Aside0.mk eg
          clear hx q1 q2 q5 h1 h2
          go_wp2_with fail
          rw [← HE.out]
          refine HC.out.mono ?_
          rintro e w2 ⟨rfl, ow2, vB2, vBo2, eB2, used2, b1, b2⟩
          have H2 := Aside0.mk (Tk.step HT1.out HP.out HX.out.2.1 HX.out.2.2.1 HX.out.2.2.2.1 HX.out.2.2.2.2 HX1.out b2)
          have HB2 := Aside0.mk b1
          clear b1 b2
          go_wp2_with fail
          exact ⟨⟨i + 1, by omega, by rw [Int.natCast_succ], ⟨ow2, vB2, vBo2, eB2, aB', vW', vWo', eW', aW', done', used2, by have := HB2.out; rw [Nat.add_assoc] at this; exact this, H2.out⟩⟩, by simp only [intOf]; omega⟩
        · obtain rfl : i = it.length := by omega
          clear hlt
          obtain ⟨ow', vB', vBo', eB', aB', vW', vWo', eW', aW', done', used', h1, h2⟩ := H1.out
          have HB1 := Aside0.mk h1
          have HT1 := Aside0.mk h2
          have hfz := blk_frozen h2.hd 0
          have hd2 := blk_set h2.hd 0 (.slice none 0 0)
          have hfz2 := blk_frozen hd2 1
          have hx2 : (wr.setCell ⟨gh, 0, none⟩ (.slice none 0 0)).cell? ⟨gh, 1, none⟩ = some (.slice A1 it.length c1) := (blk_cell hd2 1).trans rfl
          have HD2 := Aside0.mk (blk_set hd2 1 (.slice none 0 0))
          have HU2 := Aside0.mk (Upd.put (S := fun b => b = gh) (Upd.put (S := fun b => b = gh) (Upd.refl _ wr) (.inl rfl) 0 (.slice none 0 0)) (.inl rfl) 1 (.slice none 0 0))
          have HB2 := Aside0.mk (h1.move HU2.out (fun e => HX.out.2.2.2.2 e.symm) (fun b hb => by rintro rfl; exact hb h2.ng))
          clear h1 h2 hd2
          go_wp2_with fail
          clear hfz hfz2 hx0 hx2
          refine (BokJ.look.calls HB2.out).mono ?_
          rintro e w3 ⟨rfl, ow3, vB3, vBo3, eB3, aB3, vW3, vWo3, eW3, aW3, done3, b1, b2⟩
          have H3 := Aside0.mk b1
          have H4 := Aside0.mk b2
          clear b1 b2
          go_wp2_with fail
          go_ret
          have hsz := HT1.out.upd.size
          have hsz2 := HU2.out.size
          have ho : ∀ b, ow' b ≠ none → ow b ≠ none ∨ Xof it b ∨ W.heap.size ≤ b := HT1.out.own
          refine ⟨rfl, .inr ⟨ow3, vB3, vBo3, eB3, aB3, vW3, vWo3, eW3, aW3, done3, used', H3.out, ?_, fun b hb => ?_, ?_⟩⟩
          · refine (blk_upd HD2.out H4.out.upd ?_).trans rfl
            rintro (h1 | h1 | h1)
            · exact HX.out.2.2.2.2 h1
            · exact h1 HT1.out.ng
            · exact h1
          · rcases H4.out.own b hb with h1 | h1 | h1
            · exact ho b h1
            · exact h1.elim
            · exact .inr (.inr (by omega))
          · refine ((HT1.out.upd.mono ?_).trans (HU2.out.mono ?_)).trans2 H4.out.upd ?_
            · exact fun b => fun h1 => h1.elim .inl (fun h1 => .inr (.inr h1))
            · exact fun b h1 => .inr (.inl h1)
            · rintro b (h1 | h1 | h1)
              · exact .inl (.inl h1)
              · rcases ho b h1 with h2 | h2 | h2
                · exact .inl (.inr (.inr (.inl h2)))
                · exact .inl (.inr (.inr (.inr h2)))
                · exact .inr h2
              · exact h1.elim
end Go.Proofs.Ytgngpbcbnfmoiaa.SetB
end

section
/- word.Digits and math/bits.Add64: the machine's calls give digitsL and the sum with its carry. -/
namespace Go.Proofs.Ytgngpbcbnfmoiaa.PA
open Go Go.RowKit Go.Proofs.YtgngpbcbnfmoiaaW.PrintWords Go.Proofs.YtgngpbcbnfmoiaaW.PrintLast Go.Proofs.YtgngpbcbnfmoiaaW.PrintMore
set_option linter.unusedVariables false

/-- The spelling of a number. -/
def digitsL (n : Nat) : List Int := if n < 10 then [((48 + n : Nat) : Int)] else digitsL (n / 10) ++ [((48 + n % 10 : Nat) : Int)]
termination_by n
decreasing_by omega

theorem digitsL_small {n : Nat} (h : n < 10) : digitsL n = [((48 + n : Nat) : Int)] := by rw [digitsL, if_pos h]
theorem digitsL_great {n : Nat} (h : ¬ n < 10) : digitsL n = digitsL (n / 10) ++ [((48 + n % 10 : Nat) : Int)] := by rw [digitsL, if_neg h]
theorem digitsL_pos (n : Nat) : 1 ≤ (digitsL n).length := by
  by_cases h : n < 10
  · simp [digitsL_small h]
  · simp [digitsL_great h]
theorem digitsL_len (k n : Nat) (h : n < 10 ^ k) (hk : 0 < k) : (digitsL n).length ≤ k := by
  induction k generalizing n with
  | zero => omega
  | succ k ih =>
    by_cases h10 : n < 10
    · simp [digitsL_small h10]
    · have hk0 : 0 < k := by
        rcases Nat.eq_zero_or_pos k with rfl | hk0
        · simp at h; omega
        · exact hk0
      have := ih (n / 10) (by rw [Nat.pow_succ] at h; omega) hk0
      simp [digitsL_great h10]; omega

def word_Digits.f (a0 : Int) : Option (List Int) := if 0 ≤ a0 ∧ a0 < 18446744073709551616 then some (digitsL a0.toNat) else none

/-- The block of twenty cells behind some rounds. -/
structure DigBlk (w0 w : World) (n0 m i : Nat) : Prop where
  ex : ∃ (cells : Array Value) (S : List Int), w.heap[w0.heap.size]? = some (.cells cells 103 (0, 0)) ∧ cells.size = 20 ∧ i + S.length = 20 ∧ digitsL n0 = digitsL m ++ S ∧ ∀ j, j < S.length → cells[i + j]? = some (.int .u8 (S.getD j 0))
  below : Below w0.heap.size w0 w

theorem dinfo5 : (Try.prog.info? 5).map (fun i => (i.zero, i.size, i.bytes)) = some (some (.int .u8 0), 1, 1) := by kernel_rfl
theorem add_off (g i j : Nat) : (⟨g, i, none⟩ : Addr).add j = ⟨g, i + j, none⟩ := by unfold Addr.add; split <;> simp_all
/-- The block in the middle of a round. -/
structure DigBlk2 (w0 w : World) (n0 q i : Nat) : Prop where
  ex : ∃ (cells : Array Value) (S : List Int), w.heap[w0.heap.size]? = some (.cells cells 103 (0, 0)) ∧ cells.size = 20 ∧ i + S.length = 20 ∧ digitsL n0 = (if q = 0 then [] else digitsL q) ++ S ∧ ∀ j, j < S.length → cells[i + j]? = some (.int .u8 (S.getD j 0))
  below : Below w0.heap.size w0 w

theorem dig_step {w0 wr : World} {n0 : Nat} {cells : Array Value} {S : List Int} (m j : Nat) (hb : wr.heap[w0.heap.size]? = some (.cells cells 103 (0, 0))) (hz : cells.size = 20) (hs : (j + 1) + S.length = 20) (hd : digitsL n0 = digitsL m ++ S)
    (hc : ∀ i, i < S.length → cells[j + 1 + i]? = some (.int .u8 (S.getD i 0))) (hbel : Below w0.heap.size w0 wr) :
    DigBlk2 w0 (wr.setCell ⟨w0.heap.size, j, none⟩ (.int .u8 (48 + (m : Int) % 10))) n0 (m / 10) j := by
  refine ⟨⟨cells.set j (.int .u8 (48 + (m : Int) % 10)) (by omega), (48 + (m : Int) % 10) :: S, ?_, by simpa using hz, by simp; omega, ?_, ?_⟩, hbel.setCell (Nat.le_refl _) _⟩
  · have : w0.heap.size < wr.heap.size := (Array.getElem?_eq_some_iff.1 hb).1
    simp only [World.setCell, Array.getElem?_modify, if_true, hb, Option.map_some]
    simp [Array.setIfInBounds, show j < cells.size from by omega]
  · rw [hd]
    by_cases h : m < 10
    · rw [digitsL_small h, if_pos (by omega)]
      simp; omega
    · rw [digitsL_great h, if_neg (by omega)]
      simp
  · intro i hi
    cases i with
    | zero => simp
    | succ i =>
      rw [Array.getElem?_set, if_neg (by omega), show j + (i + 1) = j + 1 + i from by omega, hc i (by simpa using hi)]
      simp

set_option maxHeartbeats 800000 in
theorem word_Digits.calls (a0 : Int) (r : List Int) (w : World) (h : word_Digits.f a0 = some r) :
    Calls Try.prog 35 #[.int .u64 a0] w fun e w' => ∃ v0_ : Value, e = .returned (v0_) ∧ Kd.R (Kd.int .u8) 5 w' w.heap.size (fun _ => True) v0_ r ∧ Below w.heap.size w w' := by
  unfold word_Digits.f at h
  split at h
  case isFalse => cases h
  rename_i hin
  obtain ⟨h0, h1⟩ := hin
  injection h with h
  have HE := Lib.hid h
  clear h
  obtain ⟨n0, rfl⟩ := Int.eq_ofNat_of_zero_le h0
  go_enter Try.func35, Try.ntmps35
  go_wp2
  have hst : DigBlk w (w.alloc (.cells #[.int .u8 0, .int .u8 0, .int .u8 0, .int .u8 0, .int .u8 0, .int .u8 0, .int .u8 0, .int .u8 0, .int .u8 0, .int .u8 0, .int .u8 0, .int .u8 0, .int .u8 0, .int .u8 0, .int .u8 0, .int .u8 0, .int .u8 0, .int .u8 0, .int .u8 0, .int .u8 0] 103)) n0 n0 20 :=
    ⟨⟨_, [], heap_alloc_new w _, rfl, rfl, by simp, fun j hj => by simp at hj⟩, (Below.refl _ _).alloc (Nat.le_refl _) _⟩
  go_loopw [0, 4] (fun v0 v4 wr => ∃ m i : Nat, v0 = .int .u64 m ∧ v4 = .int .i64 i ∧ m ≤ n0 ∧ Aside0 (DigBlk w wr n0 m i)) (fun v0 v4 wr => (intOf v4).toNat)
  case atStart => exact ⟨n0, 20, rfl, rfl, Nat.le_refl _, ⟨hst⟩⟩
  case round =>
    clear hst
    obtain ⟨m, i, rfl, rfl, hm, HD⟩ := hrel
    obtain ⟨⟨cells, S, hb, hsz, hS, hdig, hcells⟩, hbel⟩ := HD.out
    have hl1 := digitsL_len 20 n0 (by omega) (by decide)
    have hl2 := digitsL_pos m
    have hl3 : (digitsL n0).length = (digitsL m).length + S.length := by rw [hdig, List.length_append]
    obtain ⟨j, rfl⟩ : ∃ j, i = j + 1 := ⟨i - 1, by omega⟩
    have hj : j < 20 := by omega
    obtain ⟨old, hcell⟩ : ∃ old, wr.cell? ⟨w.heap.size, j, none⟩ = some old := ⟨cells[j]'(by omega), by simp [World.cell?, hb, hsz, hj]⟩
    have hfz : wr.frozen? ⟨w.heap.size, j, none⟩ = false := by simp [World.frozen?, hb]
    have Hd := Lib.hid hdig
    have Hb := Lib.hid hb
    have Hl := Lib.hid hl3
    have Hs := Lib.hid hS
    have Hz := Lib.hid hsz
    have Hc := Lib.hid hcells
    clear hdig hb hl3 hcells hS hsz HD
    go_upto_region 5 with (fail)
    go_upto_region 6 with (fail)
    have h2 : DigBlk2 w (wr.setCell ⟨w.heap.size, j, none⟩ (.int .u8 (48 + (m : Int) % 10))) n0 (m / 10) j := dig_step m j Hb.out Hz.out Hs.out Hd.out Hc.out hbel
    have HW2 := Aside0.mk h2
    clear h2 hcell hfz Hb Hd Hl Hs Hz Hc hbel
    generalize wr.setCell ⟨w.heap.size, j, none⟩ (.int .u8 (48 + (m : Int) % 10)) = w2 at *
    obtain ⟨Q, hQ⟩ : ∃ Q : Int, (m : Int) / 10 = Q := ⟨_, rfl⟩
    have hQm : ((m / 10 : Nat) : Int) = Q := by omega
    rw [hQ]
    have HQ := Lib.hid hQm
    clear hQ hQm
    by_cases c : Q = 0
    · have c1 : (Q == 0) = true := by simp [c]
      have C := Lib.hid c
      clear c
      obtain ⟨⟨cells, S, hb, hz, hS, hd, hc⟩, hbel⟩ := HW2.out
      have hq0 : m / 10 = 0 := by have := HQ.out; have := C.out; omega
      rw [if_pos hq0, List.nil_append] at hd
      have hS1 : S.length = 20 - j := by omega
      have HS1 := Lib.hid hS1
      have HR1 : ReadsRow ((Kd.int .u8).K w2) (Kd.int .u8).sz w2 (some ⟨w.heap.size, j, none⟩) (20 - j) S := by
        refine ⟨hS1, by omega, fun _ => ⟨_, rfl, fun i p hp => ⟨[.int .u8 p], rfl, rfl, fun u x hx => ?_⟩⟩⟩
        obtain ⟨hi, hp'⟩ := List.getElem?_eq_some_iff.1 hp
        cases u with
        | zero =>
          injection hx with hx
          subst hx
          have := hc i hi
          rw [show (Kd.int .u8).sz = 1 from rfl, Nat.mul_one, Nat.add_zero, show (⟨w.heap.size, j, none⟩ : Addr).add i = ⟨w.heap.size, j + i, none⟩ from add_off _ _ _]
          simp only [World.cell?, hb]
          rw [List.getD_eq_getElem?_getD, List.getElem?_eq_getElem hi, Option.getD_some, hp'] at this
          simpa using this
        | succ u => simp at hx
      have HRR := Aside0.mk HR1
      have HBB := Aside0.mk hbel
      have HDD := Lib.hid hd
      clear HR1 hb hz hS hd hc hbel hS1 hq0 HW2
      have hj20 : (j : Int) ≤ 20 := by omega
      go_wp2_with (first | ((with_reducible refine gate_builtin (b := .append) (xs := #[.const (.slice none 0 0), .tmp 18]) rfl ?_); at_builtin; refine Kd.R_append_rows (Kd.int .u8) (w0 := w) w.heap.size rfl (.const (.slice none 0 0)) (.tmp 18) 22 5 (.int .u8 0) 1 rfl Try.underlying22 dinfo5 rfl (by decide) (by omega) (.slice none 0 0) ([] : List Int) S _ _ _ (fun _ => True) (fun _ => False) rfl rfl (Kd.R_nil _ _ _ _ (fun _ => True)) HRR.out (fun _ _ h => h) (fun _ h => h.elim) (fun _ _ => trivial) HBB.out HBB.out.size ?aL ?_; (case aL => have := HS1.out; simp only [List.length_nil]; omega); intro v102 w3 ho hb hg hat; have HO := Aside0.mk ho; have HB3 := Aside0.mk hb; clear ho hb hg hat))
      go_ret
      refine ⟨_, rfl, ?_, HB3.out⟩
      have := HO.out
      rw [List.nil_append] at this
      rw [← HE.out, Int.toNat_natCast, HDD.out]
      exact this
    · have c1 : (Q == 0) = false := by simp [c]
      go_wp2
      go_roundw
      case rel =>
        obtain ⟨⟨cells, S, hb, hz, hS, hd, hc⟩, hbel⟩ := HW2.out
        have hq : m / 10 ≠ 0 := by have := HQ.out; omega
        rw [if_neg hq] at hd
        exact ⟨m / 10, j, by rw [HQ.out], rfl, by omega, ⟨⟨⟨cells, S, hb, hz, hS, hd, hc⟩, hbel⟩⟩⟩
      case measure => simp [intOf]
end Go.Proofs.Ytgngpbcbnfmoiaa.PA
end

section
/- Spellings of numbers, in plain words. No program. -/
namespace Go.Proofs.Ytgngpbcbnfmoiaa.NumS

def isDig (c : Int) : Bool := decide (48 ≤ c) && decide (c ≤ 57)
def allDig (l : List Int) : Bool := l.all isDig
/-- Is it a spelling without a sign? -/
def plainB (b : List Int) : Bool := !b.isEmpty && !(b.getD 0 0 == 48 && decide (1 < b.length)) && allDig b
def negB (l : List Int) : Bool := !l.isEmpty && l.getD 0 0 == 45
def bodyL (l : List Int) : List Int := if negB l then l.drop 1 else l
def spellB (l : List Int) : Bool := if negB l then (!(l.drop 1).isEmpty && !((l.drop 1).getD 0 0 == 48) && allDig (l.drop 1)) else plainB l
/-- The number that digits say. -/
def decV (l : List Int) : Nat := l.foldl (fun n c => 10 * n + (c - 48).toNat) 0
def intS (l : List Int) : Int × Int :=
  if spellB l then (if negB l then (if decV (bodyL l) ≤ 9223372036854775808 then (-(decV (bodyL l) : Int), 0) else (0, 13)) else (if decV (bodyL l) < 9223372036854775808 then ((decV (bodyL l) : Int), 0) else (0, 13))) else (0, 12)
def uintS (l : List Int) : Int × Int := if spellB l && !negB l && decide (decV l < 18446744073709551616) then ((decV l : Int), 0) else (0, 12)

theorem decV_snoc (l : List Int) (c : Int) : decV (l ++ [c]) = 10 * decV l + (c - 48).toNat := by simp [decV]
theorem decV_from (l : List Int) (n : Nat) : l.foldl (fun n c => 10 * n + (c - 48).toNat) n = n * 10 ^ l.length + decV l := by
  induction l generalizing n with
  | nil => simp [decV]
  | cons c l ih =>
    simp only [List.foldl_cons, decV, List.length_cons]
    rw [ih, ih (10 * 0 + (c - 48).toNat), Nat.pow_succ]
    rw [Nat.mul_comm 10 n, Nat.add_mul, Nat.mul_assoc, Nat.mul_comm 10 (10 ^ l.length), Nat.mul_zero, Nat.zero_add, Nat.add_assoc]
theorem decV_cons (c : Int) (l : List Int) : decV (c :: l) = (c - 48).toNat * 10 ^ l.length + decV l := by
  have := decV_from l (c - 48).toNat
  unfold decV at this ⊢
  rw [List.foldl_cons, Nat.mul_zero, Nat.zero_add]
  exact this
theorem isDig_iff (c : Int) : isDig c = true ↔ 48 ≤ c ∧ c ≤ 57 := by simp [isDig]
theorem allDig_mem {l : List Int} (h : allDig l = true) : ∀ c ∈ l, 48 ≤ c ∧ c ≤ 57 := fun c hc => (isDig_iff c).1 (List.all_eq_true.1 h c hc)
theorem decV_lt {l : List Int} (h : ∀ c ∈ l, 48 ≤ c ∧ c ≤ 57) : decV l < 10 ^ l.length := by
  induction l with
  | nil => simp [decV]
  | cons c l ih =>
    have h1 := ih (fun x hx => h x (List.mem_cons_of_mem _ hx))
    have h2 := h c (List.mem_cons_self ..)
    rw [decV_cons, List.length_cons, Nat.pow_succ]
    have h3 : (c - 48).toNat * 10 ^ l.length ≤ 9 * 10 ^ l.length := Nat.mul_le_mul_right _ (by omega)
    omega
theorem decV_ge (c : Int) (l : List Int) (hc : 49 ≤ c) : 10 ^ l.length ≤ decV (c :: l) := by
  rw [decV_cons]
  have h3 : 1 * 10 ^ l.length ≤ (c - 48).toNat * 10 ^ l.length := Nat.mul_le_mul_right _ (by omega)
  omega
theorem decV_take (l : List Int) (k : Nat) (h : k < l.length) : decV (l.take (k + 1)) = 10 * decV (l.take k) + (l.getD k 0 - 48).toNat := by
  rw [List.take_succ_eq_append_getElem h, decV_snoc, List.getD_eq_getElem?_getD, List.getElem?_eq_getElem h]
  rfl
theorem decV_mono (l : List Int) (k : Nat) : decV (l.take k) ≤ decV l := by
  have : decV l = decV (l.take k) * 10 ^ (l.drop k).length + decV (l.drop k) := by
    conv => lhs; rw [← List.take_append_drop k l]
    unfold decV
    rw [List.foldl_append]
    exact decV_from _ _
  have hp := Nat.pow_pos (n := (l.drop k).length) (show 0 < 10 by decide)
  have := Nat.le_mul_of_pos_right (decV (l.take k)) hp
  omega
theorem allDig_take (l : List Int) (k : Nat) (h : k < l.length) : allDig (l.take (k + 1)) = (allDig (l.take k) && isDig (l.getD k 0)) := by
  rw [List.take_succ_eq_append_getElem h, List.getD_eq_getElem?_getD, List.getElem?_eq_getElem h]
  simp only [allDig, List.all_append, List.all_cons, List.all_nil, Bool.and_true, Option.getD_some]
theorem allDig_false (l : List Int) (k : Nat) (h : k < l.length) (hd : isDig (l.getD k 0) = false) : allDig l = false := by
  rw [List.getD_eq_getElem?_getD, List.getElem?_eq_getElem h] at hd
  simp only [allDig]
  rw [List.all_eq_false]
  exact ⟨l[k], List.getElem_mem h, by simpa using hd⟩
end Go.Proofs.Ytgngpbcbnfmoiaa.NumS
end

section
/- Spellings are read back, and a spelling is its number's only one. -/
namespace Go.Proofs.Ytgngpbcbnfmoiaa.NumT
open Go Go.Proofs.Ytgngpbcbnfmoiaa.PA Go.Proofs.Ytgngpbcbnfmoiaa.NumS

theorem decV_digits (n : Nat) : decV (digitsL n) = n := by
  induction n using Nat.strongRecOn with
  | _ n ih =>
    by_cases h : n < 10
    · rw [digitsL_small h]; simp [decV]; omega
    · rw [digitsL_great h, decV_snoc, ih (n / 10) (by omega)]; omega
theorem digits_dig (n : Nat) : ∀ c ∈ digitsL n, 48 ≤ c ∧ c ≤ 57 := by
  induction n using Nat.strongRecOn with
  | _ n ih =>
    intro c hc
    by_cases h : n < 10
    · rw [digitsL_small h] at hc
      simp at hc; omega
    · rw [digitsL_great h] at hc
      rcases List.mem_append.1 hc with hc | hc
      · exact ih (n / 10) (by omega) c hc
      · simp at hc; omega
theorem digits_head (n : Nat) (h : ¬ n < 10) : 49 ≤ (digitsL n).getD 0 0 := by
  induction n using Nat.strongRecOn with
  | _ n ih =>
    have hp := digitsL_pos (n / 10)
    rw [digitsL_great h, List.getD_eq_getElem?_getD, List.getElem?_append_left (by omega), ← List.getD_eq_getElem?_getD]
    by_cases h2 : n / 10 < 10
    · rw [digitsL_small h2]; simp; omega
    · exact ih (n / 10) (by omega) h2
theorem digits_ne (n : Nat) : (digitsL n).isEmpty = false := by
  have := digitsL_pos n
  cases h : digitsL n with
  | nil => rw [h] at this; simp at this
  | cons => rfl
theorem head_mem {l : List Int} (h : l.isEmpty = false) : l.getD 0 0 ∈ l := by
  cases l with
  | nil => simp at h
  | cons a r => simp
theorem allDig_of {l : List Int} (h : ∀ c ∈ l, 48 ≤ c ∧ c ≤ 57) : allDig l = true := List.all_eq_true.2 (fun c hc => (isDig_iff c).2 (h c hc))
theorem digits_small_len {n : Nat} (h : n < 10) : (digitsL n).length = 1 := by rw [digitsL_small h]; rfl
theorem digits_plain (n : Nat) : plainB (digitsL n) = true := by
  unfold plainB
  rw [digits_ne, allDig_of (digits_dig n)]
  by_cases h : n < 10
  · rw [digits_small_len h]; simp
  · have := digits_head n h
    rw [beq_eq_false_iff_ne.2 (by omega)]; rfl
theorem digits_neg (n : Nat) : negB (digitsL n) = false := by
  unfold negB
  have := digits_dig n _ (head_mem (digits_ne n))
  rw [beq_eq_false_iff_ne.2 (by omega), Bool.and_false]
theorem digits_only {b : List Int} (h : plainB b = true) : digitsL (decV b) = b := by
  unfold plainB at h
  simp only [Bool.and_eq_true, Bool.not_eq_true'] at h
  obtain ⟨⟨h1, h2⟩, h3⟩ := h
  have hd := allDig_mem h3
  clear h3
  have hlead : 1 < b.length → 49 ≤ b.getD 0 0 := by
    intro hl
    rw [decide_eq_true hl, Bool.and_true] at h2
    have h6 := beq_eq_false_iff_ne.1 h2
    have := hd _ (head_mem h1)
    omega
  clear h2
  generalize hn : b.length = n
  induction n using Nat.strongRecOn generalizing b with
  | _ n ih =>
    rcases List.eq_nil_or_concat b with rfl | ⟨c, d, rfl⟩
    · simp at h1
    · rw [List.concat_eq_append] at *
      have hdd := hd d (by simp)
      rw [decV_snoc]
      cases c with
      | nil =>
        have : 10 * decV [] + (d - 48).toNat = (d - 48).toNat := by simp [decV]
        rw [this, digitsL_small (by omega)]
        simp; omega
      | cons a r =>
        have ha : 49 ≤ a := by simpa using hlead (by simp)
        have h10 := decV_ge a r ha
        have hp := Nat.pow_pos (n := r.length) (show 0 < 10 by decide)
        rw [digitsL_great (by omega), show (10 * decV (a :: r) + (d - 48).toNat) / 10 = decV (a :: r) from by omega]
        rw [ih (a :: r).length (by rw [← hn]; simp) (b := a :: r) rfl (fun x hx => hd x (List.mem_append_left _ hx)) (fun _ => by simpa using ha) rfl]
        congr 2
        omega

def textL (n : Int) : List Int := if n < 0 then 45 :: digitsL n.natAbs else digitsL n.toNat

theorem negB_cons (l : List Int) : negB (45 :: l) = true := rfl
theorem spell_digits (n : Nat) : spellB (digitsL n) = true := by
  unfold spellB
  rw [digits_neg, if_neg (by simp)]
  exact digits_plain n
theorem spell_minus (n : Nat) (h : 0 < n) : spellB (45 :: digitsL n) = true := by
  unfold spellB
  rw [negB_cons, if_pos rfl, List.drop_one, List.tail_cons, digits_ne, allDig_of (digits_dig n)]
  have h48 : (digitsL n).getD 0 0 ≠ 48 := by
    by_cases h10 : n < 10
    · rw [digitsL_small h10]; simp; omega
    · have := digits_head n h10; omega
  rw [beq_eq_false_iff_ne.2 h48]; rfl
theorem body_digits (n : Nat) : bodyL (digitsL n) = digitsL n := by unfold bodyL; rw [digits_neg]; rfl
theorem body_minus (l : List Int) : bodyL (45 :: l) = l := rfl

theorem int_text (n : Int) (h : -9223372036854775808 ≤ n ∧ n < 9223372036854775808) : intS (textL n) = (n, 0) := by
  unfold textL
  by_cases h0 : n < 0
  · rw [if_pos h0]
    unfold intS
    rw [spell_minus _ (by omega), if_pos rfl, negB_cons, if_pos rfl, body_minus, decV_digits, if_pos (by omega)]
    congr 1; omega
  · rw [if_neg h0]
    unfold intS
    rw [spell_digits, if_pos rfl, digits_neg, if_neg (by simp), body_digits, decV_digits, if_pos (by omega)]
    congr 1; omega
theorem uint_digits (n : Nat) (h : n < 18446744073709551616) : uintS (digitsL n) = ((n : Int), 0) := by
  unfold uintS
  rw [spell_digits, digits_neg, decV_digits, decide_eq_true h]; rfl

theorem neg_form {l : List Int} (h : negB l = true) : ∃ r, l = 45 :: r := by
  cases l with
  | nil => simp [negB] at h
  | cons a r =>
    refine ⟨r, ?_⟩
    have : a = 45 := by simpa [negB] using h
    rw [this]
theorem text_int {l : List Int} (h : (intS l).2 = 0) : textL (intS l).1 = l := by
  unfold intS at h ⊢
  by_cases hs : spellB l = true
  · rw [if_pos hs] at h ⊢
    by_cases hn : negB l = true
    · rw [if_pos hn] at h ⊢
      obtain ⟨r, rfl⟩ := neg_form hn
      rw [body_minus] at h ⊢
      by_cases hb : decV r ≤ 9223372036854775808
      · rw [if_pos hb] at h ⊢
        unfold spellB at hs
        rw [if_pos hn, List.drop_one, List.tail_cons] at hs
        simp only [Bool.and_eq_true, Bool.not_eq_true'] at hs
        obtain ⟨⟨h1, h2⟩, h3⟩ := hs
        have hp : plainB r = true := by unfold plainB; rw [h1, h2, h3]; rfl
        have hpos : 0 < decV r := by
          cases r with
          | nil => simp at h1
          | cons a r =>
            have ha := allDig_mem h3 a (List.mem_cons_self ..)
            have h6 := beq_eq_false_iff_ne.1 h2
            have := decV_ge a r (by simp at h6; omega)
            have hp := Nat.pow_pos (n := r.length) (show 0 < 10 by decide)
            omega
        show textL (-(decV r : Int)) = 45 :: r
        unfold textL
        rw [if_pos (by omega), show (-(decV r : Int)).natAbs = decV r from by omega, digits_only hp]
      · rw [if_neg hb] at h; cases h
    · rw [if_neg hn] at h ⊢
      have hb : bodyL l = l := by unfold bodyL; rw [if_neg hn]
      rw [hb] at h ⊢
      by_cases hv : decV l < 9223372036854775808
      · rw [if_pos hv] at h ⊢
        unfold spellB at hs
        rw [if_neg hn] at hs
        show textL (decV l : Int) = l
        unfold textL
        rw [if_neg (by omega), Int.toNat_natCast, digits_only hs]
      · rw [if_neg hv] at h; cases h
  · rw [if_neg hs] at h; cases h
theorem digits_uint {l : List Int} (h : (uintS l).2 = 0) : digitsL (uintS l).1.toNat = l ∧ 0 ≤ (uintS l).1 ∧ (uintS l).1 < 18446744073709551616 := by
  unfold uintS at h ⊢
  by_cases hc : (spellB l && !negB l && decide (decV l < 18446744073709551616)) = true
  · rw [if_pos hc]
    simp only [Bool.and_eq_true, Bool.not_eq_true', decide_eq_true_iff] at hc
    obtain ⟨⟨h1, h2⟩, h3⟩ := hc
    unfold spellB at h1
    rw [h2, if_neg (by simp)] at h1
    refine ⟨?_, by show (0 : Int) ≤ (decV l : Int); omega, by show (decV l : Int) < _; omega⟩
    show digitsL ((decV l : Int)).toNat = l
    rw [Int.toNat_natCast, digits_only h1]
  · rw [if_neg hc] at h; cases h
/-- A number from 0 on is read the same way, signed or not. -/
theorem int_uint {l : List Int} (h : (intS l).2 = 0) (h0 : 0 ≤ (intS l).1) : uintS l = ((intS l).1, 0) := by
  unfold intS at h h0 ⊢
  by_cases hs : spellB l = true
  · rw [if_pos hs] at h h0 ⊢
    by_cases hn : negB l = true
    · rw [if_pos hn] at h h0 ⊢
      by_cases hb : decV (bodyL l) ≤ 9223372036854775808
      · rw [if_pos hb] at h0
        obtain ⟨r, rfl⟩ := neg_form hn
        rw [body_minus] at h0
        unfold spellB at hs
        rw [if_pos hn, List.drop_one, List.tail_cons] at hs
        simp only [Bool.and_eq_true, Bool.not_eq_true'] at hs
        obtain ⟨⟨h1, h2⟩, h3⟩ := hs
        cases r with
        | nil => simp at h1
        | cons a r =>
          have ha := allDig_mem h3 a (List.mem_cons_self ..)
          have h6 := beq_eq_false_iff_ne.1 h2
          have := decV_ge a r (by simp at h6; omega)
          have hp := Nat.pow_pos (n := r.length) (show 0 < 10 by decide)
          have h0' : 0 ≤ -(decV (a :: r) : Int) := h0
          omega
      · rw [if_neg hb] at h; cases h
    · rw [if_neg hn] at h ⊢
      have hb : bodyL l = l := by unfold bodyL; rw [if_neg hn]
      rw [hb] at h ⊢
      by_cases hv : decV l < 9223372036854775808
      · rw [if_pos hv]
        unfold uintS
        rw [hs, Bool.eq_false_iff.2 hn, decide_eq_true (by omega)]; rfl
      · rw [if_neg hv] at h; cases h
  · rw [if_neg hs] at h; cases h
theorem int_range {l : List Int} : -9223372036854775808 ≤ (intS l).1 ∧ (intS l).1 < 9223372036854775808 := by
  unfold intS
  split
  · split
    · split <;> (simp only; omega)
    · split <;> (simp only; omega)
  · simp only; omega
theorem textL_len (n : Int) (h : -9223372036854775808 ≤ n ∧ n < 9223372036854775808) : (textL n).length ≤ 21 := by
  unfold textL
  split
  · have := digitsL_len 20 n.natAbs (by omega) (by decide)
    simp; omega
  · have := digitsL_len 20 n.toNat (by omega) (by decide)
    omega
theorem textL_in (n : Int) : ∀ c ∈ textL n, 0 ≤ c ∧ c < 256 := by
  intro c hc
  unfold textL at hc
  split at hc
  · rcases List.mem_cons.1 hc with rfl | hc
    · omega
    · have := digits_dig _ c hc; omega
  · have := digits_dig _ c hc; omega
end Go.Proofs.Ytgngpbcbnfmoiaa.NumT
end

section
/- larderref1.Text: the machine's call answers textL. -/
namespace Go.Proofs.Ytgngpbcbnfmoiaa.TextW
open Go Go.RowKit Go.Proofs.YtgngpbcbnfmoiaaW.PrintWords Go.Proofs.YtgngpbcbnfmoiaaW.PrintLast Go.Proofs.YtgngpbcbnfmoiaaW.PrintMore Go.Proofs.Ytgngpbcbnfmoiaa.PA Go.Proofs.Ytgngpbcbnfmoiaa.NumT
set_option linter.unusedVariables false

/-- A list that can be read. -/
def GotB (w' : World) (v : Value) (l : List Int) : Prop := ∃ A c, v = .slice A l.length c ∧ l.length ≤ c ∧ Kd.C (Kd.int .u8) w' A l.length l

theorem str_cons (x : Int) (l : List Int) : strOfNums [x] ++ strOfNums l = strOfNums (x :: l) := by
  apply ByteArray.ext
  simp [strOfNums]
theorem tdiv_neg10 (a : Nat) : Int.tdiv (-(a : Int)) 10 = -((a / 10 : Nat) : Int) := by
  rw [Int.neg_tdiv]; rfl
theorem tmod_neg10 (a : Nat) : Int.tmod (-(a : Int)) 10 = -((a % 10 : Nat) : Int) := by
  rw [Int.neg_tmod]; rfl
theorem wrap_q (a : Nat) (h : a ≤ 9223372036854775808) : wrap64 (-((a : Int) / 10)) = -((a / 10 : Nat) : Int) := by unfold wrap64; omega
theorem below_bytes {w W : World} (h : Below w.heap.size w W) (e : TypeId) (s : ByteArray) : Below w.heap.size w (Lib.bytesWorld W e s) := by
  refine ⟨?_, ?_, ?_, ?_, ?_⟩
  · exact h.os
  · exact h.tape
  · exact h.output
  · rw [Lib.bytesWorld_size]; exact Nat.le_succ_of_le h.size
  · intro k hk
    rw [Lib.bytesWorld_at_old W e s k (Nat.lt_of_lt_of_le hk h.size)]
    exact h.block k hk
theorem got_bytes (W : World) (l : List Int) (hl : ∀ c ∈ l, 0 ≤ c ∧ c < 256) (cap : Nat) (hc : l.length ≤ cap) (hn : l.length ≤ 22) : GotB (Lib.bytesWorld W 5 (strOfNums l)) (.slice (some ⟨W.heap.size, 0, none⟩) (strOfNums l).size cap) l := by
  refine ⟨_, cap, by rw [strOfNums_size], hc, ?_⟩
  refine ⟨rfl, by omega, fun _ => ⟨_, rfl, fun i p hp => ⟨[.int .u8 p], rfl, rfl, fun u x hx => ?_⟩⟩⟩
  obtain ⟨hi, hp'⟩ := List.getElem?_eq_some_iff.1 hp
  cases u with
  | zero =>
    injection hx with hx
    subst hx
    have := Lib.bytesWorld_cell W 5 (strOfNums l) i (by rw [strOfNums_size]; exact hi)
    rw [show (Kd.int .u8).sz = 1 from rfl, Nat.mul_one, Nat.add_zero, show (⟨W.heap.size, 0, none⟩ : Addr).add i = ⟨W.heap.size, 0 + i, none⟩ from add_off _ _ _, Nat.zero_add, this]
    rw [strOfNums_data, List.getD_eq_getElem?_getD, List.getElem?_map, hp]
    have h2 := hl p (hp' ▸ List.getElem_mem hi)
    simp only [Option.map_some, Option.getD_some, UInt8.toNat_ofNat']
    rw [show ((p.toNat % 2 ^ 8 : Nat) : Int) = p by omega]
  | succ u => simp at hx

theorem digits_le (n : Nat) : ∀ c ∈ digitsL n, 0 ≤ c ∧ c < 256 := fun c hc => by have := digits_dig n c hc; omega

theorem got_one (W : World) (x : Int) (m : Nat × Nat) : GotB (W.alloc (.cells #[.int .u8 x] 5 m)) (.slice (some ⟨W.heap.size, 0, none⟩) 1 1) [x] := by
  refine ⟨_, 1, rfl, by simp, ?_⟩
  refine ⟨rfl, by simp, fun _ => ⟨_, rfl, fun i p hp => ⟨[.int .u8 p], rfl, rfl, fun u y hy => ?_⟩⟩⟩
  obtain ⟨hi, hp'⟩ := List.getElem?_eq_some_iff.1 hp
  have hi0 : i = 0 := by simpa using hi
  subst hi0
  cases u with
  | zero =>
    injection hy with hy
    subst hy
    have hp2 : x = p := by simpa using hp'
    subst hp2
    rw [show (Kd.int .u8).sz = 1 from rfl, Nat.mul_one, Nat.add_zero, show (⟨W.heap.size, 0, none⟩ : Addr).add 0 = ⟨W.heap.size, 0 + 0, none⟩ from add_off _ _ _]
    simp [World.cell?, World.alloc, -World.alloc_eq]
  | succ u => simp at hy

/-- Behind some rounds: a is still to be spelled. -/
def TInv (n0 a : Nat) (L : List Int) : Prop := (0 < a → digitsL n0 = digitsL a ++ L) ∧ (a = 0 → digitsL n0 = L)
theorem TInv.step {n0 a : Nat} {L : List Int} (h : TInv n0 a L) (ha : 0 < a) : TInv n0 (a / 10) (((48 + a % 10 : Nat) : Int) :: L) := by
  have h1 := h.1 ha
  by_cases c : a < 10
  · rw [digitsL_small c] at h1
    refine ⟨fun h0 => by omega, fun _ => ?_⟩
    rw [h1, show a % 10 = a by omega]; rfl
  · rw [digitsL_great c] at h1
    refine ⟨fun _ => ?_, fun h0 => by omega⟩
    rw [h1, List.append_assoc]; rfl

theorem TInv.len {n0 a : Nat} {L : List Int} (h : TInv n0 a L) (hd : (digitsL n0).length ≤ 21) : L.length ≤ 21 := by
  rcases Nat.eq_zero_or_pos a with c | c
  · rw [← h.2 c]; exact hd
  · rw [h.1 c, List.length_append] at hd; omega

set_option maxHeartbeats 1600000 in
set_option maxRecDepth 100000 in
theorem ref_Text.calls (a0 : Int) (w : World) (h : -9223372036854775808 ≤ a0 ∧ a0 < 9223372036854775808) :
    Calls Try.prog 45 #[.int .i64 a0] w fun e w' => ∃ v : Value, e = .returned v ∧ GotB w' v (textL a0) ∧ Below w.heap.size w w' := by
  by_cases hz : a0 = 0
  · subst hz
    have hcc := fun (W : World) (C : Array Value) (n c : Nat) => Lib.run_convert_bytes_const (P := Try.prog) W 22 5 C n c Try.underlying22 Try.underlying5
    go_enter Try.func45, Try.ntmps45
    go_wp2
    go_ret
    have ht : textL 0 = [48] := by unfold textL; rw [if_neg (by omega)]; exact digitsL_small (by decide)
    exact ⟨_, rfl, by rw [ht]; exact got_one w 48 _, (Below.refl _ _).alloc (Nat.le_refl _) _⟩
  · have hlen := textL_len a0 h
    have hin := textL_in a0
    have HL := Lib.hid hlen
    have HI := Lib.hid hin
    clear hlen hin
    obtain ⟨n0, hn0⟩ : ∃ n0 : Nat, n0 = a0.natAbs := ⟨_, rfl⟩
    have hz1 : (a0 == 0) = false := by simpa using hz
    have hcs := fun (W : World) (s : ByteArray) => Lib.run_convert_string_bytes (P := Try.prog) W 9 22 5 s Try.underlying9 Try.underlying22 Try.underlying5
    have hcv := fun (W : World) (X : Int) => (show (convert 22 9 (.slice (some ⟨W.heap.size, 0, none⟩) 1 1)).run Try.prog (W.alloc (.cells #[.int .u8 X] 5)) = .ok (.string (strOfNums [X])) (W.alloc (.cells #[.int .u8 X] 5)) from by
      obtain ⟨A, c, hv, _, hC⟩ := got_one W X (0, 0)
      injection hv with e1 e2 e3
      have := Kd.C_string (P := Try.prog) (A := A) (c := c) Try.underlying22 Try.underlying5 Try.underlying9 hC
      rw [← e1, ← e3] at this
      exact this)
    have hcat := str_cons
    by_cases hs : a0 > 0
    · have hs1 : decide (0 < a0) = true := decide_eq_true hs
      have hs2 : decide (a0 < 0) = false := decide_eq_false (by omega)
      have hw : wrap64 (-a0) = -(n0 : Int) := by unfold wrap64; omega
      have ht : textL a0 = digitsL n0 := by unfold textL; rw [if_neg (by omega)]; congr 1; omega
      have hd : (digitsL n0).length ≤ 21 := ht ▸ HL.out
      have HD := Lib.hid hd
      have h0 : 0 < n0 := by omega
      have hn1 : n0 ≤ 9223372036854775808 := by omega
      have HN := Lib.hid hn1
      clear hn1
      have Hw := Lib.hid hw
      have Ht := Lib.hid ht
      clear hw ht hn0 hs hz h hd
      go_enter Try.func45, Try.ntmps45
      go_wp2
      go_loopw [3, 4] (fun v3 v4 wr => ∃ (a : Nat) (L : List Int), v3 = .int .i64 (-(a : Int)) ∧ v4 = .string (strOfNums L) ∧ a ≤ n0 ∧ Aside0 (TInv n0 a L) ∧ Aside0 (Below w.heap.size w wr)) (fun v3 v4 wr => (intOf v3).natAbs)
      case atStart => exact ⟨n0, [], by rw [← Hw.out], rfl, Nat.le_refl _, ⟨⟨fun _ => by simp, fun c => by omega⟩⟩, ⟨Below.refl _ _⟩⟩
      case round =>
        obtain ⟨a, L, rfl, rfl, ha, HT, HB⟩ := hrel
        rcases Nat.eq_zero_or_pos a with rfl | hap
        · have hc1 : decide (-((0 : Nat) : Int) < 0) = false := rfl
          go_wp2
          go_ret
          refine ⟨_, rfl, ?_, below_bytes HB.out _ _⟩
          rw [Ht.out, HT.out.2 rfl]
          exact got_bytes _ L (by rw [← HT.out.2 rfl, ← Ht.out]; exact HI.out) _ (by rw [← strOfNums_size]; exact grownCap_ge _ _ _ _) (by rw [← HT.out.2 rfl]; exact Nat.le_trans HD.out (by decide))
        · have hc1 : decide (-(a : Int) < 0) = true := decide_eq_true (by omega)
          have HA := Lib.hid hap
          have hL := HT.out.len HD.out
          have HLL := Lib.hid hL
          clear hap hL
          go_wp2
          case isTrue =>
            rename_i hbad
            exact absurd hbad (by rw [strOfNums_size, strOfNums_size]; have := HLL.out; simp only [List.length_cons, List.length_nil]; omega)
          go_roundw
          case rel =>
            have hap := HA.out
            refine ⟨a / 10, ((48 + a % 10 : Nat) : Int) :: L, ?_, ?_, by omega, ⟨HT.out.step hap⟩, ⟨(HB.out).alloc HB.out.size _⟩⟩
            · exact congrArg (Value.int .i64) (wrap_q a (Nat.le_trans ha HN.out))
            · rfl
          case measure => have hap := HA.out; rw [wrap_q a (Nat.le_trans ha HN.out)]; simp only [intOf, Int.natAbs_neg, Int.natAbs_natCast]; omega
    · have hs1 : decide (0 < a0) = false := decide_eq_false hs
      have hs2 : decide (a0 < 0) = true := decide_eq_true (by omega)
      have hw : a0 = -(n0 : Int) := by omega
      have ht : textL a0 = 45 :: digitsL n0 := by unfold textL; rw [if_pos (by omega), hn0]
      have hd : (digitsL n0).length ≤ 21 := by have := HL.out; rw [ht, List.length_cons] at this; omega
      have HD := Lib.hid hd
      have h0 : 0 < n0 := by omega
      have hn1 : n0 ≤ 9223372036854775808 := by omega
      have HN := Lib.hid hn1
      clear hn1
      have Hw := Lib.hid hw
      have Ht := Lib.hid ht
      clear hw ht hn0 hs hz h hd
      have h45 := fun L : List Int => (show (⟨#[45]⟩ : ByteArray) ++ strOfNums L = strOfNums (45 :: L) from str_cons 45 L)
      go_enter Try.func45, Try.ntmps45
      go_wp2
      go_loopw [3, 4] (fun v3 v4 wr => ∃ (a : Nat) (L : List Int), v3 = .int .i64 (-(a : Int)) ∧ v4 = .string (strOfNums L) ∧ a ≤ n0 ∧ Aside0 (TInv n0 a L) ∧ Aside0 (Below w.heap.size w wr)) (fun v3 v4 wr => (intOf v3).natAbs)
      case atStart => exact ⟨n0, [], by rw [← Hw.out], rfl, Nat.le_refl _, ⟨⟨fun _ => by simp, fun c => by omega⟩⟩, ⟨Below.refl _ _⟩⟩
      case round =>
        obtain ⟨a, L, rfl, rfl, ha, HT, HB⟩ := hrel
        rcases Nat.eq_zero_or_pos a with rfl | hap
        · have hc1 : decide (-((0 : Nat) : Int) < 0) = false := rfl
          go_wp2
          case isTrue =>
            rename_i hbad
            have h9 := HD.out
            rw [HT.out.2 rfl] at h9
            exact absurd hbad (by rw [strOfNums_size]; show ¬ (9223372036854775807 < 1 + L.length); omega)
          go_ret
          refine ⟨_, rfl, ?_, below_bytes HB.out _ _⟩
          rw [Ht.out, HT.out.2 rfl]
          exact got_bytes _ (45 :: L) (by rw [← HT.out.2 rfl, ← Ht.out]; exact HI.out) _ (by rw [← strOfNums_size]; exact grownCap_ge _ _ _ _) (by rw [List.length_cons, ← HT.out.2 rfl]; have := HD.out; omega)
        · have hc1 : decide (-(a : Int) < 0) = true := decide_eq_true (by omega)
          have HA := Lib.hid hap
          have hL := HT.out.len HD.out
          have HLL := Lib.hid hL
          clear hap hL
          go_wp2
          case isTrue =>
            rename_i hbad
            exact absurd hbad (by rw [strOfNums_size, strOfNums_size]; have := HLL.out; simp only [List.length_cons, List.length_nil]; omega)
          go_roundw
          case rel =>
            have hap := HA.out
            refine ⟨a / 10, ((48 + a % 10 : Nat) : Int) :: L, ?_, ?_, by omega, ⟨HT.out.step hap⟩, ⟨(HB.out).alloc HB.out.size _⟩⟩
            · exact congrArg (Value.int .i64) (wrap_q a (Nat.le_trans ha HN.out))
            · rfl
          case measure => have hap := HA.out; rw [wrap_q a (Nat.le_trans ha HN.out)]; simp only [intOf, Int.natAbs_neg, Int.natAbs_natCast]; omega
end Go.Proofs.Ytgngpbcbnfmoiaa.TextW
end

section
/- larderref1.Text: the machine's call answers textL, in a block of its own. -/
namespace Go.Proofs.Ytgngpbcbnfmoiaa.TextU
open Go Go.RowKit Go.Proofs.YtgngpbcbnfmoiaaW.PrintWords Go.Proofs.YtgngpbcbnfmoiaaW.PrintLast Go.Proofs.YtgngpbcbnfmoiaaW.PrintMore Go.Proofs.Ytgngpbcbnfmoiaa.PA Go.Proofs.Ytgngpbcbnfmoiaa.NumT Go.Proofs.Ytgngpbcbnfmoiaa.TextW Go.Proofs.Ytgngpbcbnfmoiaa.FreM Go.Proofs.Ytgngpbcbnfmoiaa.LatS
set_option linter.unusedVariables false

theorem gu_one (W : World) (x : Int) (m : Nat × Nat) : GU (W.alloc (.cells #[.int .u8 x] 5 m)) (.slice (some ⟨W.heap.size, 0, none⟩) 1 1) ([x].map (Value.int .u8)) := by
  refine ⟨_, 1, rfl, by simp, by simp [maxLen], .inr ⟨_, rfl, ?_, fun j y hj => ?_⟩⟩
  · show W.heap.size < (W.heap.push _).size
    simp
  · cases j with
    | zero =>
      simp at hj
      subst hj
      simp [World.cell?, World.alloc, -World.alloc_eq]
    | succ j => simp at hj
theorem gu_bytes2 (W : World) (l : List Int) (hl : ∀ c ∈ l, 0 ≤ c ∧ c < 256) (cap : Nat) (hc : l.length ≤ cap) (hn : l.length ≤ 22) : GU (Lib.bytesWorld W 5 (strOfNums l)) (.slice (some ⟨W.heap.size, 0, none⟩) (strOfNums l).size cap) (l.map (Value.int .u8)) := by
  obtain ⟨A, c, h1, h2, h3, h4⟩ := gu_bytes W 5 l hl (by omega) (.cells #[] 0)
  refine ⟨_, cap, by rw [strSize, List.length_map], by rw [List.length_map]; exact hc, h3, .inr ⟨_, rfl, by rw [Lib.bytesWorld_size]; omega, fun j x hj => ?_⟩⟩
  simp only [Value.slice.injEq] at h1
  obtain ⟨rfl, _, _⟩ := h1
  rcases h4 with ⟨h5, _⟩ | ⟨g, h5, _, h6⟩
  · cases h5
  · simp only [Option.some.injEq, Addr.mk.injEq] at h5
    obtain ⟨rfl, _⟩ := h5
    have := h6 j x hj
    rw [World.cell?_alloc_lt _ _ _ (by rw [Lib.bytesWorld_size]; exact Nat.lt_succ_self _)] at this
    exact this

set_option maxHeartbeats 1600000 in
set_option maxRecDepth 100000 in
theorem ref_TextU.calls (a0 : Int) (w : World) (h : -9223372036854775808 ≤ a0 ∧ a0 < 9223372036854775808) :
    Calls Try.prog 45 #[.int .i64 a0] w fun e w' => ∃ v : Value, e = .returned v ∧ (GU w' v ((textL a0).map (Value.int .u8)) ∧ ∀ b, v.ownBlock = some b → w.heap.size ≤ b) ∧ Below w.heap.size w w' := by
  by_cases hz : a0 = 0
  · subst hz
    have hcc := fun (W : World) (C : Array Value) (n c : Nat) => Lib.run_convert_bytes_const (P := Try.prog) W 22 5 C n c Try.underlying22 Try.underlying5
    go_enter Try.func45, Try.ntmps45
    go_wp2
    go_ret
    have ht : textL 0 = [48] := by unfold textL; rw [if_neg (by omega)]; exact digitsL_small (by decide)
    exact ⟨_, rfl, by rw [ht]; exact ⟨gu_one w 48 _, fun b hb => by obtain rfl := Option.some.inj hb; exact Nat.le_refl _⟩, (Below.refl _ _).alloc (Nat.le_refl _) _⟩
  · have hlen := textL_len a0 h
    have hin := textL_in a0
    have HL := Lib.hid hlen
    have HI := Lib.hid hin
    clear hlen hin
    obtain ⟨n0, hn0⟩ : ∃ n0 : Nat, n0 = a0.natAbs := ⟨_, rfl⟩
    have hz1 : (a0 == 0) = false := by simpa using hz
    have hcs := fun (W : World) (s : ByteArray) => Lib.run_convert_string_bytes (P := Try.prog) W 9 22 5 s Try.underlying9 Try.underlying22 Try.underlying5
    have hcv := fun (W : World) (X : Int) => (show (convert 22 9 (.slice (some ⟨W.heap.size, 0, none⟩) 1 1)).run Try.prog (W.alloc (.cells #[.int .u8 X] 5)) = .ok (.string (strOfNums [X])) (W.alloc (.cells #[.int .u8 X] 5)) from by
      obtain ⟨A, c, hv, _, hC⟩ := got_one W X (0, 0)
      injection hv with e1 e2 e3
      have := Kd.C_string (P := Try.prog) (A := A) (c := c) Try.underlying22 Try.underlying5 Try.underlying9 hC
      rw [← e1, ← e3] at this
      exact this)
    have hcat := str_cons
    by_cases hs : a0 > 0
    · have hs1 : decide (0 < a0) = true := decide_eq_true hs
      have hs2 : decide (a0 < 0) = false := decide_eq_false (by omega)
      have hw : wrap64 (-a0) = -(n0 : Int) := by unfold wrap64; omega
      have ht : textL a0 = digitsL n0 := by unfold textL; rw [if_neg (by omega)]; congr 1; omega
      have hd : (digitsL n0).length ≤ 21 := ht ▸ HL.out
      have HD := Lib.hid hd
      have h0 : 0 < n0 := by omega
      have hn1 : n0 ≤ 9223372036854775808 := by omega
      have HN := Lib.hid hn1
      clear hn1
      have Hw := Lib.hid hw
      have Ht := Lib.hid ht
      clear hw ht hn0 hs hz h hd
      go_enter Try.func45, Try.ntmps45
      go_wp2
      go_loopw [3, 4] (fun v3 v4 wr => ∃ (a : Nat) (L : List Int), v3 = .int .i64 (-(a : Int)) ∧ v4 = .string (strOfNums L) ∧ a ≤ n0 ∧ Aside0 (TInv n0 a L) ∧ Aside0 (Below w.heap.size w wr)) (fun v3 v4 wr => (intOf v3).natAbs)
      case atStart => exact ⟨n0, [], by rw [← Hw.out], rfl, Nat.le_refl _, ⟨⟨fun _ => by simp, fun c => by omega⟩⟩, ⟨Below.refl _ _⟩⟩
      case round =>
        obtain ⟨a, L, rfl, rfl, ha, HT, HB⟩ := hrel
        rcases Nat.eq_zero_or_pos a with rfl | hap
        · have hc1 : decide (-((0 : Nat) : Int) < 0) = false := rfl
          go_wp2
          go_ret
          refine ⟨_, rfl, ?_, below_bytes HB.out _ _⟩
          rw [Ht.out, HT.out.2 rfl]
          exact ⟨gu_bytes2 _ L (by rw [← HT.out.2 rfl, ← Ht.out]; exact HI.out) _ (by rw [← strOfNums_size]; exact grownCap_ge _ _ _ _) (by rw [← HT.out.2 rfl]; exact Nat.le_trans HD.out (by decide)), fun b hb => by obtain rfl := Option.some.inj hb; exact HB.out.size⟩
        · have hc1 : decide (-(a : Int) < 0) = true := decide_eq_true (by omega)
          have HA := Lib.hid hap
          have hL := HT.out.len HD.out
          have HLL := Lib.hid hL
          clear hap hL
          go_wp2
          case isTrue =>
            rename_i hbad
            exact absurd hbad (by rw [strOfNums_size, strOfNums_size]; have := HLL.out; simp only [List.length_cons, List.length_nil]; omega)
          go_roundw
          case rel =>
            have hap := HA.out
            refine ⟨a / 10, ((48 + a % 10 : Nat) : Int) :: L, ?_, ?_, by omega, ⟨HT.out.step hap⟩, ⟨(HB.out).alloc HB.out.size _⟩⟩
            · exact congrArg (Value.int .i64) (wrap_q a (Nat.le_trans ha HN.out))
            · rfl
          case measure => have hap := HA.out; rw [wrap_q a (Nat.le_trans ha HN.out)]; simp only [intOf, Int.natAbs_neg, Int.natAbs_natCast]; omega
    · have hs1 : decide (0 < a0) = false := decide_eq_false hs
      have hs2 : decide (a0 < 0) = true := decide_eq_true (by omega)
      have hw : a0 = -(n0 : Int) := by omega
      have ht : textL a0 = 45 :: digitsL n0 := by unfold textL; rw [if_pos (by omega), hn0]
      have hd : (digitsL n0).length ≤ 21 := by have := HL.out; rw [ht, List.length_cons] at this; omega
      have HD := Lib.hid hd
      have h0 : 0 < n0 := by omega
      have hn1 : n0 ≤ 9223372036854775808 := by omega
      have HN := Lib.hid hn1
      clear hn1
      have Hw := Lib.hid hw
      have Ht := Lib.hid ht
      clear hw ht hn0 hs hz h hd
      have h45 := fun L : List Int => (show (⟨#[45]⟩ : ByteArray) ++ strOfNums L = strOfNums (45 :: L) from str_cons 45 L)
      go_enter Try.func45, Try.ntmps45
      go_wp2
      go_loopw [3, 4] (fun v3 v4 wr => ∃ (a : Nat) (L : List Int), v3 = .int .i64 (-(a : Int)) ∧ v4 = .string (strOfNums L) ∧ a ≤ n0 ∧ Aside0 (TInv n0 a L) ∧ Aside0 (Below w.heap.size w wr)) (fun v3 v4 wr => (intOf v3).natAbs)
      case atStart => exact ⟨n0, [], by rw [← Hw.out], rfl, Nat.le_refl _, ⟨⟨fun _ => by simp, fun c => by omega⟩⟩, ⟨Below.refl _ _⟩⟩
      case round =>
        obtain ⟨a, L, rfl, rfl, ha, HT, HB⟩ := hrel
        rcases Nat.eq_zero_or_pos a with rfl | hap
        · have hc1 : decide (-((0 : Nat) : Int) < 0) = false := rfl
          go_wp2
          case isTrue =>
            rename_i hbad
            have h9 := HD.out
            rw [HT.out.2 rfl] at h9
            exact absurd hbad (by rw [strOfNums_size]; show ¬ (9223372036854775807 < 1 + L.length); omega)
          go_ret
          refine ⟨_, rfl, ?_, below_bytes HB.out _ _⟩
          rw [Ht.out, HT.out.2 rfl]
          exact ⟨gu_bytes2 _ (45 :: L) (by rw [← HT.out.2 rfl, ← Ht.out]; exact HI.out) _ (by rw [← strOfNums_size]; exact grownCap_ge _ _ _ _) (by rw [List.length_cons, ← HT.out.2 rfl]; have := HD.out; omega), fun b hb => by obtain rfl := Option.some.inj hb; exact HB.out.size⟩
        · have hc1 : decide (-(a : Int) < 0) = true := decide_eq_true (by omega)
          have HA := Lib.hid hap
          have hL := HT.out.len HD.out
          have HLL := Lib.hid hL
          clear hap hL
          go_wp2
          case isTrue =>
            rename_i hbad
            exact absurd hbad (by rw [strOfNums_size, strOfNums_size]; have := HLL.out; simp only [List.length_cons, List.length_nil]; omega)
          go_roundw
          case rel =>
            have hap := HA.out
            refine ⟨a / 10, ((48 + a % 10 : Nat) : Int) :: L, ?_, ?_, by omega, ⟨HT.out.step hap⟩, ⟨(HB.out).alloc HB.out.size _⟩⟩
            · exact congrArg (Value.int .i64) (wrap_q a (Nat.le_trans ha HN.out))
            · rfl
          case measure => have hap := HA.out; rw [wrap_q a (Nat.le_trans ha HN.out)]; simp only [intOf, Int.natAbs_neg, Int.natAbs_natCast]; omega
end Go.Proofs.Ytgngpbcbnfmoiaa.TextU
end

section
-- PRINTED by print.py (a twelfth state) out of the translation. Not trusted: Lean checks it.
namespace Go.Proofs.Ytgngpbcbnfmoiaa.PB
open Go.RowKit Go.Proofs.YtgngpbcbnfmoiaaW.PrintWords Go.Proofs.YtgngpbcbnfmoiaaW.PrintLast Go.Proofs.YtgngpbcbnfmoiaaW.PrintMore
attribute [local go_sem] max2_int min2_int max_two min_two max_three min_three max_four min_four   -- for this text's walks alone
open Go.Proofs.Ytgngpbcbnfmoiaa.PA
set_option linter.unusedVariables false
set_option linter.unusedSimpArgs false



def errW : Option Int → Value
  | none => .nilIface
  | some c => .iface 0 (.int .i64 c)
theorem errW_none : errW none = .nilIface := rfl
theorem errW_some (c : Int) : errW (some c) = .iface 0 (.int .i64 c) := rfl

theorem info5 : (Try.prog.info? 5).map (fun i => (i.zero, i.size, i.bytes)) = some (some (.int .u8 0), 1, 1) := by kernel_rfl
-- the values' own types

end Go.Proofs.Ytgngpbcbnfmoiaa.PB
end

section
-- PRINTED by print.py (a twelfth state) out of the translation. Not trusted: Lean checks it.
namespace Go.Proofs.Ytgngpbcbnfmoiaa.PB
open Go.RowKit Go.Proofs.YtgngpbcbnfmoiaaW.PrintWords Go.Proofs.YtgngpbcbnfmoiaaW.PrintLast Go.Proofs.YtgngpbcbnfmoiaaW.PrintMore
attribute [local go_sem] max2_int min2_int max_two min_two max_three min_three max_four min_four   -- for this text's walks alone
open Go.Proofs.Ytgngpbcbnfmoiaa.PA
set_option linter.unusedVariables false
set_option linter.unusedSimpArgs false

/-! ### word_Text: function 33 -/
def word_Text.f (a0 : Int) : Option (List Int) := if a0 < 0 then ((some (([45] : List Int) : List Int)).bind fun y101 => ((word_Digits.f (IntKind.u64.wrap (-(IntKind.u64.wrap (a0))))).bind fun t104 => (if y101.length + t104.length < 140737488355328 then (some (y101 ++ t104)) else (none)))) else ((word_Digits.f (IntKind.u64.wrap (a0))).bind fun t110 => (some t110))
set_option maxHeartbeats 8000000 in
set_option maxRecDepth 100000 in
theorem word_Text.calls (a0 : Int) (r : List Int) (w : World) (h : word_Text.f a0 = some r) :
    Calls Try.prog 33 #[.int .i64 a0] w fun e w' => ∃ v0_ : Value, e = .returned (v0_) ∧ Kd.R (Kd.int .u8) 5 w' w.heap.size (fun _ => True) v0_ r ∧ Below w.heap.size w w' := by
  have HB := Aside0.mk (Below.refl w.heap.size w)
  have H : (if a0 < 0 then ((some (([45] : List Int) : List Int)).bind fun y101 => ((word_Digits.f (IntKind.u64.wrap (-(IntKind.u64.wrap (a0))))).bind fun t104 => (if y101.length + t104.length < 140737488355328 then (some (y101 ++ t104)) else (none)))) else ((word_Digits.f (IntKind.u64.wrap (a0))).bind fun t110 => (some t110))) = some r := h
  clear h
  by_cases c2 : a0 < 0
  · rw [if_pos c2] at H
    have c2b0 : decide (a0 < 0) = true := decide_eq_true c2
    clear c2
    obtain ⟨y101, hy101⟩ : ∃ y_ : List Int, y_ = (([45] : List Int)) := ⟨_, rfl⟩
    replace H : ((word_Digits.f (IntKind.u64.wrap (-(IntKind.u64.wrap (a0))))).bind fun t104 => (if y101.length + t104.length < 140737488355328 then (some (y101 ++ t104)) else (none))) = some r := by first | (rw [hy101]; with_reducible exact H) | (have H2_ := (Option.bind_some _ _).symm.trans H; rw [hy101]; with_reducible exact H2_) | (have H2_ := (Option.bind_some _ _).symm.trans H; with_reducible exact H2_) | with_reducible exact H | (rw [hy101]; exact H) | exact H
    have Ny101 := Aside0.mk hy101
    clear hy101
    replace H := Option.bind_eq_some_iff.mp H
    obtain ⟨t104, A30, H⟩ := H
    replace H : (if y101.length + t104.length < 140737488355328 then (some (y101 ++ t104)) else (none)) = some r := H
    have A3 := Aside0.mk A30
    clear A30
    by_cases c4 : y101.length + t104.length < 140737488355328
    · rw [if_pos c4] at H
      have LMc4 := Aside0.mk c4
      clear c4
      obtain ⟨y107, hy107⟩ : ∃ y_ : List Int, y_ = (y101 ++ t104) := ⟨_, rfl⟩
      replace H : (some y107) = some r := by first | (rw [hy107]; with_reducible exact H) | (have H2_ := (Option.bind_some _ _).symm.trans H; rw [hy107]; with_reducible exact H2_) | (have H2_ := (Option.bind_some _ _).symm.trans H; with_reducible exact H2_) | with_reducible exact H | (rw [hy107]; exact H) | exact H
      have Ny107 := Aside0.mk hy107
      clear hy107
      obtain rfl := Option.some.inj H
      go_enter Try.func33, Try.ntmps33
      go_wp2_with (first | ((with_reducible refine gate_dst (N := 5) rfl ?_); refine Kd.R_lit (Kd.int .u8) _ 5 ?hg (N := 5) ?hd (xs := ([45] : List Int)) (inner := [.int .u8 45]) (ok := fun _ => True) (okp := fun _ => True) ?hr ?hp (fun _ hk => hk) trivial (Below.refl _ _) (Nat.le_refl _) (by simp) ?_; (case hd => rfl); (case hg => rfl); (case hr => first | (go_simp; done) | (go_simp; rfl)); (case hp => exact (Reps.one (show Kd.M (Kd.int .u8) _ _ _ 45 [.int .u8 45] from rfl) (Reps.none _ _))); intro v102 w5 ho6 hb hg_ hnew_; clear hg_ hnew_; (first | rw [← Ny101.out] at ho6 | (simp only [Int.reduceToNat] at ho6; rw [← Ny101.out] at ho6)); have n0_ := Aside0.mk (Kd.R_lower ho6 (below_size (by repeat (first | (with_reducible first | exact HB.out | apply below_alloc | apply pw_below_drewN | apply below_drew1) | exact HB.out)))); have n1_ := Aside0.mk (below_step (by repeat (first | (with_reducible first | exact HB.out | apply below_alloc | apply pw_below_drewN | apply below_drew1) | exact HB.out)) hb); clear HB; have HO103 := n0_; have HB := n1_; clear n0_ n1_; clear hb ho6) | ((with_reducible refine gate_callee (f := 35) rfl ?_); refine goesL_ (some 9) rfl rfl Try.func35 (by kernel_rfl) rfl #[.int .u64 (IntKind.u64.wrap (-(IntKind.u64.wrap (a0))))] rfl (by (try simp only [List.map_toArray, List.map_cons, List.map_nil]); first | done | rfl | (simp only [List.length_drop, List.length_take]; rfl)) ?_; (with_reducible refine (word_Digits.calls (IntKind.u64.wrap (-(IntKind.u64.wrap (a0)))) t104 _ A3.out).mono ?_); rintro e w7 ⟨v105, rfl, ho0, hb⟩; refine ⟨_, rfl, ?_⟩; have n0_ := Aside0.mk (Kd.R_elder' (by (with_reducible repeat (first | apply Kd.R_alloc | apply Kd.R_drewN | apply Kd.R_drew)); exact HO103.out) (Kd.R_base ho0) hb); have n1_ := Aside0.mk (Kd.R_lower (Kd.R_new' ho0 (Kd.R_lt (by (with_reducible repeat (first | apply Kd.R_alloc | apply Kd.R_drewN | apply Kd.R_drew)); exact HO103.out))) (below_size (by repeat (first | (with_reducible first | exact HB.out | apply below_alloc | apply pw_below_drewN | apply below_drew1) | exact HB.out)))); have n2_ := Aside0.mk (below_step (by repeat (first | (with_reducible first | exact HB.out | apply below_alloc | apply pw_below_drewN | apply below_drew1) | exact HB.out)) hb); clear HO103; clear HB; have HO103 := n0_; have HO106 := n1_; have HB := n2_; clear n0_ n1_ n2_; (try clear hb); (try clear hb2); (try clear hk); (try clear hi); (try clear ho0); obtain ⟨Ao9, co9, eo9⟩ := Kd.R_slice HO106.out; subst eo9) | ((with_reducible refine gate_builtin (b := .append) (xs := #[.tmp 5, .tmp 9]) rfl ?_); at_builtin; refine Kd.R_append_rows (Kd.int .u8) (w0 := w) w.heap.size rfl (.tmp 5) (.tmp 9) 22 5 (.int .u8 0) 1 rfl Try.underlying22 info5 rfl (by decide) (by omega) v102 y101 t104 _ _ _ (fun k_ => some k_ ≠ (.slice Ao9 t104.length co9 : Value).ownBlock) (fun _ => False) rfl rfl ?aO ?aR (fun _ _ h => h) (fun _ h => h.elim) ?aF ?aB ?aS ?aL ?_; (case aR => repeat (first | exact (Kd.R_reads' HO106.out).2.2 | (with_reducible refine Kd.C_alloc ?_ _) | (with_reducible refine Kd.C_drewN ?_ _) | (with_reducible refine Kd.C_drew ?_))); (case aB => exact (by repeat (first | (with_reducible first | exact HB.out | apply below_alloc | apply pw_below_drewN | apply below_drew1) | exact HB.out))); (case aF => exact (fun k_ hk => Kd.fresh' (Kd.R_lt (by (with_reducible repeat (first | apply Kd.R_alloc | apply Kd.R_drewN | apply Kd.R_drew)); exact HO106.out)) k_ hk)); (case aO => exact (by (with_reducible repeat (first | apply Kd.R_alloc | apply Kd.R_drewN | apply Kd.R_drew)); exact Kd.R_mono HO103.out (fun _ hk => hk.2))); (case aS => exact (below_size (by repeat (first | (with_reducible first | exact HB.out | apply below_alloc | apply pw_below_drewN | apply below_drew1) | exact HB.out)))); (case aL => have := LMc4.out; omega); intro v108 w8 ho hb hg hat; rw [← Ny107.out] at ho; have n0_ := Aside0.mk (Kd.R_after (ok := (fun _ => True)) (by (with_reducible repeat (first | apply Kd.R_alloc | apply Kd.R_drewN | apply Kd.R_drew)); exact HO106.out) hg hat); have n1_ := Aside0.mk (hb); have n2_ := Aside0.mk (ho); clear HO106; clear HB; clear HO103; have HO106 := n0_; have HB := n1_; have HO109 := n2_; clear n0_ n1_ n2_; clear ho hb hg hat))
      go_ret
      exact ⟨_, by first | rfl | (simp [errW_none, errW_some] <;> rfl) | (simp [*, errW_none, errW_some] <;> rfl), by (with_reducible repeat (first | apply Kd.R_alloc | apply Kd.R_drewN | apply Kd.R_drew)); exact Kd.R_mono HO109.out (fun _ hk => trivial), by repeat (first | (with_reducible first | exact HB.out | apply below_alloc | apply pw_below_drewN | apply below_drew1) | exact HB.out)⟩
    · rw [if_neg c4] at H
      exact absurd H (by simp)
  · rw [if_neg c2] at H
    have c2b0 : decide (a0 < 0) = false := decide_eq_false c2
    clear c2
    replace H := Option.bind_eq_some_iff.mp H
    obtain ⟨t110, A100, H⟩ := H
    replace H : (some t110) = some r := H
    have A10 := Aside0.mk A100
    clear A100
    obtain rfl := Option.some.inj H
    go_enter Try.func33, Try.ntmps33
    go_wp2_with (first | ((with_reducible refine gate_callee (f := 35) rfl ?_); refine goesL_ (some 13) rfl rfl Try.func35 (by kernel_rfl) rfl #[.int .u64 (IntKind.u64.wrap (a0))] rfl (by (try simp only [List.map_toArray, List.map_cons, List.map_nil]); first | done | rfl | (simp only [List.length_drop, List.length_take]; rfl)) ?_; (with_reducible refine (word_Digits.calls (IntKind.u64.wrap (a0)) t110 _ A10.out).mono ?_); rintro e w11 ⟨v111, rfl, ho0, hb⟩; refine ⟨_, rfl, ?_⟩; have n0_ := Aside0.mk (Kd.R_lower ho0 (below_size (by repeat (first | (with_reducible first | exact HB.out | apply below_alloc | apply pw_below_drewN | apply below_drew1) | exact HB.out)))); have n1_ := Aside0.mk (below_step (by repeat (first | (with_reducible first | exact HB.out | apply below_alloc | apply pw_below_drewN | apply below_drew1) | exact HB.out)) hb); clear HB; have HO112 := n0_; have HB := n1_; clear n0_ n1_; (try clear hb); (try clear hb2); (try clear hk); (try clear hi); (try clear ho0)))
    go_ret
    exact ⟨_, by first | rfl | (simp [errW_none, errW_some] <;> rfl) | (simp [*, errW_none, errW_some] <;> rfl), by (with_reducible repeat (first | apply Kd.R_alloc | apply Kd.R_drewN | apply Kd.R_drew)); exact HO112.out, by repeat (first | (with_reducible first | exact HB.out | apply below_alloc | apply pw_below_drewN | apply below_drew1) | exact HB.out)⟩

/-! ### word_Add: function 36 -/
def word_Add.f (a0 : Int) (a1 : Int) : Option (Int × Int) := if ((decide (a0 ≥ 0)) == (decide (a1 ≥ 0))) = true then (if ((decide ((wrap64 (a0 + a1)) ≥ 0)) != (decide (a0 ≥ 0))) = true then (some (0, 13)) else (some (wrap64 (a0 + a1), 0))) else (some (wrap64 (a0 + a1), 0))
set_option maxHeartbeats 8000000 in
set_option maxRecDepth 100000 in
theorem word_Add.calls (a0 : Int) (a1 : Int) (r1 : Int) (r2 : Int) (w : World) (h : word_Add.f a0 a1 = some (r1, r2)) :
    Calls Try.prog 36 #[.int .i64 a0, .int .i64 a1] w fun e w' => e = .returned (.tuple #[.int .i64 r1, .int .i64 r2]) ∧ Drawn0 w w' := by
  have H : (if ((decide (a0 ≥ 0)) == (decide (a1 ≥ 0))) = true then (if ((decide ((wrap64 (a0 + a1)) ≥ 0)) != (decide (a0 ≥ 0))) = true then (some (0, 13)) else (some (wrap64 (a0 + a1), 0))) else (some (wrap64 (a0 + a1), 0))) = some (r1, r2) := h
  clear h
  by_cases c3 : ((decide (a0 ≥ 0)) == (decide (a1 ≥ 0))) = true
  · rw [if_pos c3] at H
    have c3b0 : ((decide (a0 ≥ 0)) == (decide (a1 ≥ 0))) = true := c3
    (try (have c3b1 : decide ((decide (a0 ≥ 0)) = (decide (a1 ≥ 0))) = true := by simpa using c3))
    (try (have c3b2 : ((decide (a0 ≥ 0)) == (decide (a1 ≥ 0))) = true := by simpa using c3))
    clear c3
    by_cases c4 : ((decide ((wrap64 (a0 + a1)) ≥ 0)) != (decide (a0 ≥ 0))) = true
    · rw [if_pos c4] at H
      have c4b0 : ((decide ((wrap64 (a0 + a1)) ≥ 0)) != (decide (a0 ≥ 0))) = true := c4
      (try (have c4b1 : decide ((decide ((wrap64 (a0 + a1)) ≥ 0)) = (decide (a0 ≥ 0))) = false := by simpa using c4))
      (try (have c4b2 : ((decide ((wrap64 (a0 + a1)) ≥ 0)) == (decide (a0 ≥ 0))) = false := by simpa using c4))
      (try (have c4b3 : ¬ ((decide ((wrap64 (a0 + a1)) ≥ 0)) = (decide (a0 ≥ 0))) := by simpa using c4))
      clear c4
      simp only [Option.some.injEq, Prod.mk.injEq] at H
      obtain ⟨rfl, rfl⟩ := H
      go_enter Try.func36, Try.ntmps36
      go_wp2
      go_ret2
      exact ⟨by first | rfl | (simp; done) | (simp [*]; done), by repeat (first | exact Drawn0.refl _ | apply Drawn0.step)⟩
    · rw [if_neg c4] at H
      have c4b0 : ((decide ((wrap64 (a0 + a1)) ≥ 0)) != (decide (a0 ≥ 0))) = false := by simpa using c4
      (try (have c4b1 : decide ((decide ((wrap64 (a0 + a1)) ≥ 0)) = (decide (a0 ≥ 0))) = true := by simpa using c4))
      (try (have c4b2 : ((decide ((wrap64 (a0 + a1)) ≥ 0)) == (decide (a0 ≥ 0))) = true := by simpa using c4))
      clear c4
      simp only [Option.some.injEq, Prod.mk.injEq] at H
      obtain ⟨rfl, rfl⟩ := H
      go_enter Try.func36, Try.ntmps36
      go_wp2
      go_ret2
      exact ⟨by first | rfl | (simp; done) | (simp [*]; done), by repeat (first | exact Drawn0.refl _ | apply Drawn0.step)⟩
  · rw [if_neg c3] at H
    have c3b0 : ((decide (a0 ≥ 0)) == (decide (a1 ≥ 0))) = false := by simpa using c3
    (try (have c3b1 : decide ((decide (a0 ≥ 0)) = (decide (a1 ≥ 0))) = false := by simpa using c3))
    (try (have c3b2 : ((decide (a0 ≥ 0)) == (decide (a1 ≥ 0))) = false := by simpa using c3))
    (try (have c3b3 : ¬ ((decide (a0 ≥ 0)) = (decide (a1 ≥ 0))) := by simpa using c3))
    clear c3
    simp only [Option.some.injEq, Prod.mk.injEq] at H
    obtain ⟨rfl, rfl⟩ := H
    go_enter Try.func36, Try.ntmps36
    go_wp2
    go_ret2
    exact ⟨by first | rfl | (simp; done) | (simp [*]; done), by repeat (first | exact Drawn0.refl _ | apply Drawn0.step)⟩

end Go.Proofs.Ytgngpbcbnfmoiaa.PB
end

section
-- PRINTED by print.py (a twelfth state) out of the translation. Not trusted: Lean checks it.
namespace Go.Proofs.Ytgngpbcbnfmoiaa.PB
open Go.RowKit Go.Proofs.YtgngpbcbnfmoiaaW.PrintWords Go.Proofs.YtgngpbcbnfmoiaaW.PrintLast Go.Proofs.YtgngpbcbnfmoiaaW.PrintMore
attribute [local go_sem] max2_int min2_int max_two min_two max_three min_three max_four min_four   -- for this text's walks alone
open Go.Proofs.Ytgngpbcbnfmoiaa.PA
set_option linter.unusedVariables false
set_option linter.unusedSimpArgs false

end Go.Proofs.Ytgngpbcbnfmoiaa.PB
end

section
/- word.spelling: the machine's call answers spellB. -/
namespace Go.Proofs.Ytgngpbcbnfmoiaa.PB
open Go Go.RowKit Go.Proofs.YtgngpbcbnfmoiaaW.PrintWords Go.Proofs.YtgngpbcbnfmoiaaW.PrintLast Go.Proofs.YtgngpbcbnfmoiaaW.PrintMore Go.Proofs.Ytgngpbcbnfmoiaa.NumS
set_option linter.unusedVariables false

theorem spi : (Try.prog.info? 5).map (fun i => (i.zero, i.size, i.bytes)) = some (some (.int .u8 0), 1, 1) := by kernel_rfl
def word_spelling.f (l : List Int) : Option Bool := some (spellB l)

theorem sp_neg {l : List Int} {b : Bool} (h0 : 0 < l.length) (h : rd l 0 = 45) (hn : 0 < (l.drop 1).length) (h48 : ¬ rd (l.drop 1) 0 = 48) (hd : allDig (l.drop 1) = b) : spellB l = b := by
  have e1 : negB l = true := by cases l with
    | nil => simp at h0
    | cons a r => simpa [negB, rd] using h
  unfold spellB
  rw [if_pos e1, hd]
  have h1 : ((l.drop 1).isEmpty) = false := by
    cases hl : l.drop 1 with
    | nil => rw [hl] at hn; simp at hn
    | cons => rfl
  unfold rd at h48
  simp only [Int.toNat_zero] at h48
  rw [h1, beq_eq_false_iff_ne.2 h48]
  cases b <;> rfl
theorem sp_neg0 {l : List Int} (h0 : 0 < l.length) (h : rd l 0 = 45) (hn : (l.drop 1).length = 0 ∨ rd (l.drop 1) 0 = 48) : spellB l = false := by
  have e1 : negB l = true := by cases l with
    | nil => simp at h0
    | cons a r => simpa [negB, rd] using h
  unfold spellB
  rw [if_pos e1]
  rcases hn with hn | hn
  · have : l.drop 1 = [] := List.eq_nil_of_length_eq_zero hn
    simp [this]
  · unfold rd at hn
    simp only [Int.toNat_zero] at hn
    rw [beq_iff_eq.2 hn]
    simp
theorem sp_pos {l : List Int} {b : Bool} (h0 : 0 < l.length) (h : ¬ rd l 0 = 45) (h48 : ¬ (rd l 0 = 48 ∧ 1 < l.length)) (hd : allDig l = b) : spellB l = b := by
  have e1 : negB l = false := by unfold rd at h; simp only [Int.toNat_zero] at h; unfold negB; rw [beq_eq_false_iff_ne.2 h, Bool.and_false]
  unfold spellB
  rw [if_neg (by simp [e1])]
  unfold plainB
  rw [hd]
  have h1 : l.isEmpty = false := by cases l with
    | nil => simp at h0
    | cons => rfl
  unfold rd at h48
  simp only [Int.toNat_zero] at h48
  rw [h1]
  by_cases c : l.getD 0 0 = 48
  · rw [decide_eq_false (fun h' => h48 ⟨c, h'⟩), Bool.and_false]
    cases b <;> rfl
  · rw [beq_eq_false_iff_ne.2 c]
    cases b <;> rfl
theorem sp_pos0 {l : List Int} (h : ¬ rd l 0 = 45) (h48 : l.length = 0 ∨ (rd l 0 = 48 ∧ 1 < l.length)) : spellB l = false := by
  have e1 : negB l = false := by unfold rd at h; simp only [Int.toNat_zero] at h; unfold negB; rw [beq_eq_false_iff_ne.2 h, Bool.and_false]
  unfold spellB
  rw [if_neg (by simp [e1])]
  unfold plainB
  rcases h48 with h0 | ⟨h0, h1⟩
  · obtain rfl : l = [] := List.eq_nil_of_length_eq_zero h0
    rfl
  · unfold rd at h0
    simp only [Int.toNat_zero] at h0
    rw [beq_iff_eq.2 h0, decide_eq_true h1]
    simp
theorem cut_drop {w : World} (l : List Int) (A : Option Addr) (c : Nat) (hC : Kd.C (Kd.int .u8) w A l.length l) (hc : l.length ≤ c) (m : Nat) (hm : m ≤ l.length) :
    ∃ A' : Option Addr, (∀ W : World, (Instr.slice 22 (.slice A l.length c) (some (.int .i64 (m : Int))) none none).run Try.prog W = .ok (.slice A' (l.drop m).length (c - m)) W) ∧ Kd.C (Kd.int .u8) w A' (l.drop m).length (l.drop m) ∧ (l.drop m).length ≤ c - m := by
  obtain ⟨i, hi, hz⟩ : ∃ i, Try.prog.info? 5 = some i ∧ i.size = 1 := by
    have := spi
    obtain ⟨i, hi, hz⟩ := Option.map_eq_some_iff.1 this
    simp only [Prod.mk.injEq] at hz
    exact ⟨i, hi, hz.2.1⟩
  obtain ⟨A', h1, h2, h3⟩ := print_drop_of (P := Try.prog) (Value.int .u8) (0 : Int) 22 5 .i64 Try.underlying22 hi hz A c l m (by omega) (by omega) hc
  rw [Int.toNat_natCast] at h1 h2 h3
  exact ⟨A', h1, Kd.C_of_reads (d := (0 : Int)) (h1 := fun _ => rfl) (h2 w (Kd.reads_of_C (d := (0 : Int)) (h1 := fun _ => rfl) hC)), h3⟩
theorem rd_nil0 : rd [] 0 = 0 := rfl

set_option maxHeartbeats 1600000 in
theorem word_spelling.calls (A0 : Option Addr) (c0 : Nat) (l0 : List Int) (r : Bool) (w : World) (hr0 : Kd.C (Kd.int .u8) w A0 l0.length l0) (hc0 : l0.length ≤ c0) (h : word_spelling.f l0 = some r) :
    Calls Try.prog 50 #[.slice A0 l0.length c0] w fun e w' => e = .returned (.bool r) ∧ w = w' := by
  have hlen := hr0.2.1
  have HE := Lib.hid (Option.some.inj h)
  have HR := Lib.hid hr0
  clear h hr0
  by_cases hz : l0.length = 0
  · have HV := Lib.hid (sp_pos0 (l := l0) (by obtain rfl := List.eq_nil_of_length_eq_zero hz; decide) (.inl hz))
    have hz1 : decide ((0 : Int) < (l0.length : Int)) = false := by simp [hz]
    have hz2 : decide (0 < l0.length) = false := by simp [hz]
    have hz3 : ((l0.length : Int) == 0) = true := by simp [hz]
    have hz4 : (l0.length == 0) = true := by simp [hz]
    clear hz
    go_enter Try.func50, Try.ntmps50
    go_wp2
    go_ret
    exact ⟨congrArg (fun b => Ending.returned (.bool b)) (by rw [← HE.out, HV.out]), rfl⟩
  have hpos : 0 < l0.length := by omega
  have hpos1 : decide ((0 : Int) < (l0.length : Int)) = true := decide_eq_true (by omega)
  have hpos2 : decide (0 < l0.length) = true := decide_eq_true (by omega)
  have hpos3 : ((l0.length : Int) == 0) = false := beq_eq_false_iff_ne.2 (by omega)
  obtain ⟨ad, rfl, hc⟩ := Kd.at_int (xs := l0) HR.out (0 : Int) (Int.le_refl 0) (by exact_mod_cast hpos)
  have hcA : w.cell? ad = some (.int .u8 (rd l0 0)) := by simpa [Addr.add] using hc
  clear hc
  by_cases hneg : rd l0 0 = 45
  · have hn1 : (rd l0 0 == 45) = true := by simp [hneg]
    obtain ⟨A1, hrun, hC1, hl1⟩ := cut_drop l0 (some ad) c0 HR.out hc0 1 (by omega)
    have HN := Lib.hid hneg
    have HRR := Lib.hid hrun
    have H1 := Lib.hid hC1
    have hld : (l0.drop 1).length = l0.length - 1 := by simp
    have hlen1 : (l0.drop 1).length ≤ 9223372036854775807 := by omega
    clear hneg hC1 hrun hld
    have hrun : ∀ W : World, (Instr.slice 22 (.slice (some ad) l0.length c0) (some (.int .i64 1)) none none).run Try.prog W = .ok (.slice A1 (l0.drop 1).length (c0 - 1)) W := HRR.out
    generalize hb : l0.drop 1 = b at *
    have HB := Lib.hid hb
    clear hb
    by_cases hz : b.length = 0
    · have HV := Lib.hid (sp_neg0 (l := l0) hpos HN.out (.inl (by rw [HB.out]; exact hz)))
      have hz1 : decide ((0 : Int) < (b.length : Int)) = false := by simp [hz]
      have hz2 : decide (0 < b.length) = false := by simp [hz]
      have hz3 : ((b.length : Int) == 0) = true := by simp [hz]
      have hz4 : (b.length == 0) = true := by simp [hz]
      clear hz
      go_enter Try.func50, Try.ntmps50
      go_wp2
      go_ret
      exact ⟨congrArg (fun b => Ending.returned (.bool b)) (by rw [← HE.out, HV.out]), rfl⟩
    have hp : 0 < b.length := by omega
    have hp1 : decide ((0 : Int) < (b.length : Int)) = true := decide_eq_true (by omega)
    have hp2 : decide (0 < b.length) = true := decide_eq_true (by omega)
    have hp3 : ((b.length : Int) == 0) = false := beq_eq_false_iff_ne.2 (by omega)
    obtain ⟨ad1, rfl, hc1⟩ := Kd.at_int (xs := b) H1.out (0 : Int) (Int.le_refl 0) (by exact_mod_cast hp)
    have hcB : w.cell? ad1 = some (.int .u8 (rd b 0)) := by simpa [Addr.add] using hc1
    clear hc1 hz
    by_cases h48 : rd b 0 = 48
    · have HV := Lib.hid (sp_neg0 (l := l0) hpos HN.out (.inr (by rw [HB.out]; exact h48)))
      have h1 : (rd b 0 == 48) = true := by simp [h48]
      clear h48
      go_enter Try.func50, Try.ntmps50
      go_wp2
      go_ret
      exact ⟨congrArg (fun b => Ending.returned (.bool b)) (by rw [← HE.out, HV.out]), rfl⟩
    have h1 : (rd b 0 == 48) = false := by simp [h48]
    have HS : Hid (∀ {x : Bool}, allDig b = x → spellB l0 = x) := Lib.hid (fun hx => sp_neg hpos HN.out (by rw [HB.out]; exact hp) (by rw [HB.out]; exact h48) (by rw [HB.out]; exact hx))
    clear h48
    go_enter Try.func50, Try.ntmps50
    go_wp2
    go_loop [41] (fun v => ∃ k : Nat, k ≤ b.length ∧ v = .int .i64 k ∧ Aside0 (allDig (b.take k) = true)) (fun v => b.length - (intOf v).toNat)
    case atStart => exact ⟨0, Nat.zero_le _, rfl, ⟨rfl⟩⟩
    case round =>
      obtain ⟨k, hk, rfl, hd⟩ := hrel
      by_cases hlt : k < b.length
      · obtain ⟨ad, had, hc⟩ := Kd.at_int H1.out (k : Int) (by omega) (by omega)
        simp only [Int.toNat_natCast] at hc
        try subst had
        have HD := Lib.hid (allDig_take b k hlt)
        by_cases c1 : rd b k < 48
        · have hf : allDig b = false := allDig_false b k hlt (by unfold rd at c1; simp [isDig]; simp at c1; omega)
          have HF := Lib.hid hf
          clear hf
          go_wp2
          go_ret
          exact ⟨congrArg (fun b => Ending.returned (.bool b)) (by rw [← HE.out, HS.out HF.out]), rfl⟩
        · by_cases c2 : 57 < rd b k
          · have hf : allDig b = false := allDig_false b k hlt (by unfold rd at c2; simp [isDig]; simp at c2; omega)
            have HF := Lib.hid hf
            clear hf
            go_wp2
            go_ret
            exact ⟨congrArg (fun b => Ending.returned (.bool b)) (by rw [← HE.out, HS.out HF.out]), rfl⟩
          · have hg : isDig (b.getD k 0) = true := by unfold rd at c1 c2; rw [isDig_iff]; simp at c1 c2 ⊢; omega
            have HG := Lib.hid hg
            clear hg
            go_wp2
            go_round
            case rel => exact ⟨k + 1, by omega, by go_num, ⟨by rw [HD.out, hd.out, HG.out]; rfl⟩⟩
            case measure => simp [intOf]; omega
      · have hk' : k = b.length := by omega
        subst hk'
        have hd' := hd.out
        rw [List.take_length] at hd'
        have HF := Lib.hid hd'
        clear hd'
        go_wp2
        go_ret
        exact ⟨congrArg (fun b => Ending.returned (.bool b)) (by rw [← HE.out, HS.out HF.out]), rfl⟩
  · have hn1 : (rd l0 0 == 45) = false := by simp [hneg]
    by_cases h48 : rd l0 0 = 48 ∧ 1 < l0.length
    · have HV := Lib.hid (sp_pos0 (l := l0) hneg (.inr h48))
      have h1 : (rd l0 0 == 48) = true := by simp [h48.1]
      have h2 : decide ((1 : Int) < (l0.length : Int)) = true := by have := h48.2; simp; omega
      have h3 : decide (1 < l0.length) = true := by have := h48.2; simp; omega
      clear h48 hneg
      go_enter Try.func50, Try.ntmps50
      go_wp2
      go_ret
      exact ⟨congrArg (fun b => Ending.returned (.bool b)) (by rw [← HE.out, HV.out]), rfl⟩
    have HS : Hid (∀ {x : Bool}, allDig l0 = x → spellB l0 = x) := Lib.hid (fun hx => sp_pos hpos hneg h48 hx)
    by_cases h4 : rd l0 0 = 48
    · have h1 : (rd l0 0 == 48) = true := by simp [h4]
      have h2 : decide ((1 : Int) < (l0.length : Int)) = false := by have : ¬ 1 < l0.length := fun h' => h48 ⟨h4, h'⟩; simp; omega
      have h3 : decide (1 < l0.length) = false := by have : ¬ 1 < l0.length := fun h' => h48 ⟨h4, h'⟩; simp; omega
      clear h48 hneg h4
      go_enter Try.func50, Try.ntmps50
      go_wp2
      go_loop [41] (fun v => ∃ k : Nat, k ≤ l0.length ∧ v = .int .i64 k ∧ Aside0 (allDig (l0.take k) = true)) (fun v => l0.length - (intOf v).toNat)
      case atStart => exact ⟨0, Nat.zero_le _, rfl, ⟨rfl⟩⟩
      case round =>
        obtain ⟨k, hk, rfl, hd⟩ := hrel
        by_cases hlt : k < l0.length
        · obtain ⟨ad, had, hc⟩ := Kd.at_int HR.out (k : Int) (by omega) (by omega)
          simp only [Int.toNat_natCast] at hc
          try subst had
          have HD := Lib.hid (allDig_take l0 k hlt)
          by_cases c1 : rd l0 k < 48
          · have hf : allDig l0 = false := allDig_false l0 k hlt (by unfold rd at c1; simp [isDig]; simp at c1; omega)
            have HF := Lib.hid hf
            clear hf
            go_wp2
            go_ret
            exact ⟨congrArg (fun b => Ending.returned (.bool b)) (by rw [← HE.out, HS.out HF.out]), rfl⟩
          · by_cases c2 : 57 < rd l0 k
            · have hf : allDig l0 = false := allDig_false l0 k hlt (by unfold rd at c2; simp [isDig]; simp at c2; omega)
              have HF := Lib.hid hf
              clear hf
              go_wp2
              go_ret
              exact ⟨congrArg (fun b => Ending.returned (.bool b)) (by rw [← HE.out, HS.out HF.out]), rfl⟩
            · have hg : isDig (l0.getD k 0) = true := by unfold rd at c1 c2; rw [isDig_iff]; simp at c1 c2 ⊢; omega
              have HG := Lib.hid hg
              clear hg
              go_wp2
              go_round
              case rel => exact ⟨k + 1, by omega, by go_num, ⟨by rw [HD.out, hd.out, HG.out]; rfl⟩⟩
              case measure => simp [intOf]; omega
        · have hk' : k = l0.length := by omega
          subst hk'
          have hd' := hd.out
          rw [List.take_length] at hd'
          have HF := Lib.hid hd'
          clear hd'
          go_wp2
          go_ret
          exact ⟨congrArg (fun b => Ending.returned (.bool b)) (by rw [← HE.out, HS.out HF.out]), rfl⟩
    · have h1 : (rd l0 0 == 48) = false := by simp [h4]
      clear h48 hneg h4
      go_enter Try.func50, Try.ntmps50
      go_wp2
      go_loop [41] (fun v => ∃ k : Nat, k ≤ l0.length ∧ v = .int .i64 k ∧ Aside0 (allDig (l0.take k) = true)) (fun v => l0.length - (intOf v).toNat)
      case atStart => exact ⟨0, Nat.zero_le _, rfl, ⟨rfl⟩⟩
      case round =>
        obtain ⟨k, hk, rfl, hd⟩ := hrel
        by_cases hlt : k < l0.length
        · obtain ⟨ad, had, hc⟩ := Kd.at_int HR.out (k : Int) (by omega) (by omega)
          simp only [Int.toNat_natCast] at hc
          try subst had
          have HD := Lib.hid (allDig_take l0 k hlt)
          by_cases c1 : rd l0 k < 48
          · have hf : allDig l0 = false := allDig_false l0 k hlt (by unfold rd at c1; simp [isDig]; simp at c1; omega)
            have HF := Lib.hid hf
            clear hf
            go_wp2
            go_ret
            exact ⟨congrArg (fun b => Ending.returned (.bool b)) (by rw [← HE.out, HS.out HF.out]), rfl⟩
          · by_cases c2 : 57 < rd l0 k
            · have hf : allDig l0 = false := allDig_false l0 k hlt (by unfold rd at c2; simp [isDig]; simp at c2; omega)
              have HF := Lib.hid hf
              clear hf
              go_wp2
              go_ret
              exact ⟨congrArg (fun b => Ending.returned (.bool b)) (by rw [← HE.out, HS.out HF.out]), rfl⟩
            · have hg : isDig (l0.getD k 0) = true := by unfold rd at c1 c2; rw [isDig_iff]; simp at c1 c2 ⊢; omega
              have HG := Lib.hid hg
              clear hg
              go_wp2
              go_round
              case rel => exact ⟨k + 1, by omega, by go_num, ⟨by rw [HD.out, hd.out, HG.out]; rfl⟩⟩
              case measure => simp [intOf]; omega
        · have hk' : k = l0.length := by omega
          subst hk'
          have hd' := hd.out
          rw [List.take_length] at hd'
          have HF := Lib.hid hd'
          clear hd'
          go_wp2
          go_ret
          exact ⟨congrArg (fun b => Ending.returned (.bool b)) (by rw [← HE.out, HS.out HF.out]), rfl⟩
end Go.Proofs.Ytgngpbcbnfmoiaa.PB
end

section
/- word.Int and word.Uint: the machine's calls answer intS and uintS. -/
namespace Go.Proofs.Ytgngpbcbnfmoiaa.PB
open Go Go.RowKit Go.Proofs.YtgngpbcbnfmoiaaW.PrintWords Go.Proofs.YtgngpbcbnfmoiaaW.PrintLast Go.Proofs.YtgngpbcbnfmoiaaW.PrintMore Go.Proofs.Ytgngpbcbnfmoiaa.PA Go.Proofs.Ytgngpbcbnfmoiaa.NumS
set_option linter.unusedVariables false

def word_Int.f (l : List Int) : Option (Int × Int) := some (intS l)

theorem negB_of {l : List Int} (h0 : 0 < l.length) (h : rd l 0 = 45) : negB l = true := by
  cases l with
  | nil => simp at h0
  | cons a r => simpa [negB, rd] using h
theorem negB_not {l : List Int} (h : ¬ rd l 0 = 45) : negB l = false := by
  unfold rd at h
  simp only [Int.toNat_zero] at h
  unfold negB
  rw [beq_eq_false_iff_ne.2 h, Bool.and_false]
theorem spell_pos {l : List Int} (h : spellB l = true) : 0 < l.length := by
  cases l with
  | nil => simp [spellB, negB, plainB] at h
  | cons => simp
/-- A spelling's digits, and that it doesn't begin with a 0 but where it is 0 alone. -/
theorem spell_body {l : List Int} (h : spellB l = true) : (∀ c ∈ bodyL l, 48 ≤ c ∧ c ≤ 57) ∧ 0 < (bodyL l).length ∧ (1 < (bodyL l).length → 49 ≤ (bodyL l).getD 0 0) := by
  unfold spellB at h
  unfold bodyL
  by_cases hn : negB l = true
  · rw [if_pos hn] at h ⊢
    simp only [Bool.and_eq_true, Bool.not_eq_true'] at h
    obtain ⟨⟨h1, h2⟩, h3⟩ := h
    have hd := allDig_mem h3
    have hp : 0 < (l.drop 1).length := by
      cases hl : l.drop 1 with
      | nil => rw [hl] at h1; simp at h1
      | cons => simp
    refine ⟨hd, hp, fun _ => ?_⟩
    have h4 := hd _ (List.getElem_mem hp)
    have h5 : (l.drop 1).getD 0 0 = (l.drop 1)[0] := by rw [List.getD_eq_getElem?_getD, List.getElem?_eq_getElem hp]; rfl
    have h6 := beq_eq_false_iff_ne.1 h2
    rw [h5] at h6 ⊢
    omega
  · rw [if_neg hn] at h ⊢
    unfold plainB at h
    simp only [Bool.and_eq_true, Bool.not_eq_true'] at h
    obtain ⟨⟨h1, h2⟩, h3⟩ := h
    have hd := allDig_mem h3
    have hp : 0 < l.length := by
      cases l with
      | nil => simp at h1
      | cons => simp
    refine ⟨hd, hp, fun hl => ?_⟩
    have h4 := hd _ (List.getElem_mem hp)
    have h5 : l.getD 0 0 = l[0] := by rw [List.getD_eq_getElem?_getD, List.getElem?_eq_getElem hp]; rfl
    rw [decide_eq_true hl, Bool.and_true] at h2
    have h6 := beq_eq_false_iff_ne.1 h2
    rw [h5] at h6 ⊢
    omega
theorem body_ge {b : List Int} (hp : 1 < b.length → 49 ≤ b.getD 0 0) (n : Nat) (h : n + 1 < b.length) : 10 ^ (n + 1) ≤ decV b := by
  cases b with
  | nil => simp at h
  | cons c r =>
    have := decV_ge c r (by simpa using hp (by omega))
    have h2 : 10 ^ (n + 1) ≤ 10 ^ r.length := Nat.pow_le_pow_right (by decide) (by simp at h; omega)
    omega

theorem dig_rd {b : List Int} (h : ∀ c ∈ b, 48 ≤ c ∧ c ≤ 57) (k : Nat) (hk : k < b.length) : 48 ≤ rd b k ∧ rd b k ≤ 57 := by
  have : rd b k = b[k] := by unfold rd; rw [Int.toNat_natCast, List.getD_eq_getElem?_getD, List.getElem?_eq_getElem hk]; rfl
  rw [this]
  exact h _ (List.getElem_mem hk)

/-- One digit more. -/
theorem dec_step {b : List Int} (h : ∀ c ∈ b, 48 ≤ c ∧ c ≤ 57) (h19 : b.length ≤ 19) (k : Nat) (hk : k < b.length) :
    decV (b.take k) < 1000000000000000000 ∧ 10 * (decV (b.take k) : Int) + (rd b k - 48) = (decV (b.take (k + 1)) : Int) := by
  have h1 : decV (b.take k) < 10 ^ (b.take k).length := decV_lt (fun c hc => h c (List.mem_of_mem_take hc))
  have h2 : (b.take k).length = k := by rw [List.length_take]; omega
  rw [h2] at h1
  have h3 : (10 : Nat) ^ k ≤ 10 ^ 18 := Nat.pow_le_pow_right (by decide) (by omega)
  have h4 := decV_take b k hk
  have h5 := dig_rd h k hk
  have h6 : rd b k = b.getD k 0 := by unfold rd; rw [Int.toNat_natCast]
  rw [h6] at h5 ⊢
  rw [h4]
  constructor <;> omega

theorem neg_wrap (m : Int) (h0 : 0 ≤ m) (h1 : m ≤ 9223372036854775808) : wrap64 (IntKind.u64.wrap (-m)) = -m := by
  rw [IntKind.wrap_u64]; unfold wrap64; omega

set_option maxHeartbeats 1600000 in
/-- The part of Int behind the sign. -/
theorem int_tail (l0 b : List Int) (neg : Bool) (hb : bodyL l0 = b) (hn : negB l0 = neg) (hs : spellB l0 = true) (A0 : Option Addr) (c0 : Nat) (w : World) (hr0 : Kd.C (Kd.int .u8) w A0 l0.length l0) (hc0 : l0.length ≤ c0) :
    Calls Try.prog 32 #[.slice A0 l0.length c0] w fun e w' => e = .returned (.tuple #[.int .i64 (intS l0).1, .int .i64 (intS l0).2]) ∧ w = w' := by
  have hpos := spell_pos hs
  have hlen := hr0.2.1
  have HR := Lib.hid hr0
  have HS := Lib.hid hs
  have HN := Lib.hid hn
  have HB := Lib.hid hb
  clear hr0 hs hn hb
  obtain ⟨ad, rfl, hc⟩ := Kd.at_int (xs := l0) HR.out (0 : Int) (Int.le_refl 0) (by exact_mod_cast hpos)
  have hcA : w.cell? ad = some (.int .u8 (rd l0 0)) := by simpa [Addr.add] using hc
  clear hc
  obtain ⟨hD1, hD2, hD3⟩ := spell_body HS.out
  rw [HB.out] at hD1 hD2 hD3
  have HD1 := Lib.hid hD1
  have HD3 := Lib.hid hD3
  clear hD1 hD3
  cases neg with
  | true =>
    have hz0 : rd l0 0 = 45 := by
      have := HN.out
      unfold negB at this
      cases l0 with
      | nil => simp at hpos
      | cons a r => simpa [rd] using this
    have hz1 : (rd l0 0 == 45) = true := beq_iff_eq.2 hz0
    clear hz0
    obtain ⟨A1, hrun0, hC1, hl1⟩ := cut_drop l0 (some ad) c0 HR.out hc0 1 (by omega)
    have hrun : ∀ W : World, (Instr.slice 22 (.slice (some ad) l0.length c0) (some (.int .i64 1)) none none).run Try.prog W = .ok (.slice A1 (l0.drop 1).length (c0 - 1)) W := hrun0
    clear hrun0
    have hbd : l0.drop 1 = b := by have := HB.out; unfold bodyL at this; rw [if_pos HN.out] at this; exact this
    rw [hbd] at hrun hC1 hl1
    have H1 := Lib.hid hC1
    have hlb : b.length ≤ 9223372036854775807 := hC1.2.1
    clear hC1 hbd
    go_enter Try.func32, Try.ntmps32
    go_wp2_with fail
    refine (word_spelling.calls _ _ l0 true _ HR.out hc0 (congrArg some HS.out)).mono ?_
    rintro e w' ⟨rfl, rfl⟩
    by_cases h19 : 19 < b.length
    · have hge := body_ge HD3.out 18 (by omega)
      have hI : intS l0 = (0, 13) := by
        unfold intS
        rw [if_pos HS.out, if_pos HN.out, HB.out, if_neg (by omega)]
      have HI := Lib.hid hI
      clear hge hI
      go_wp2_with fail
      go_ret2
      exact ⟨by rw [HI.out]; rfl, rfl⟩
    go_wp2
    have HST : Hid (∀ k, k < b.length → decV (b.take k) < 1000000000000000000 ∧ 10 * (decV (b.take k) : Int) + (rd b k - 48) = (decV (b.take (k + 1)) : Int)) := Lib.hid (fun k hk => dec_step HD1.out (by omega) k hk)
    go_loop [5, 23] (fun v i => ∃ (k : Nat) (m : Int), k ≤ b.length ∧ i = .int .i64 k ∧ v = .int .u64 m ∧ 0 ≤ m ∧ m < 10000000000000000000 ∧ Aside0 (m = (decV (b.take k) : Int))) (fun _ i => b.length - (intOf i).toNat)
    case atStart => exact ⟨0, 0, Nat.zero_le _, rfl, rfl, by omega, by omega, ⟨rfl⟩⟩
    case round =>
      obtain ⟨k, m, hk, rfl, rfl, hm0, hm1, hm⟩ := hrel
      by_cases hlt : k < b.length
      · obtain ⟨ad1, had, hc⟩ := Kd.at_int (xs := b) H1.out (k : Int) (by omega) (by omega)
        simp only [Int.toNat_natCast] at hc
        try subst had
        obtain ⟨hd1, hd2⟩ := dig_rd HD1.out k hlt
        obtain ⟨hs1, hs2⟩ := HST.out k hlt
        rw [← hm.out] at hs2
        have hs3 : m < 1000000000000000000 := by rw [hm.out]; omega
        have HS2 := Lib.hid hs2
        clear hs1 hs2
        go_wp2
        go_round
        case rel => exact ⟨k + 1, 10 * m + (rd b k - 48), by omega, by go_num, by go_num, by omega, by omega, ⟨HS2.out⟩⟩
        case measure => simp [intOf]; omega
      · have hk' : k = b.length := by omega
        subst hk'
        have hmv := hm.out
        rw [List.take_length] at hmv
        have HM := Lib.hid hmv
        clear hmv
        by_cases hbig : m ≤ 9223372036854775808
        · have hI : intS l0 = (-m, 0) := by
            unfold intS
            rw [if_pos HS.out, if_pos HN.out, HB.out, if_pos (by have := HM.out; omega), ← HM.out]
          have HI := Lib.hid hI
          clear hI
          have hb1 : decide (m ≤ 9223372036854775808) = true := decide_eq_true hbig
          go_wp2
          go_ret2
          refine ⟨?_, rfl⟩
          rw [HI.out]
          show Ending.returned (.tuple #[.int .i64 (wrap64 (IntKind.u64.wrap (-m))), .int .i64 0]) = _
          rw [neg_wrap m hm0 hbig]
        · have hI : intS l0 = (0, 13) := by
            unfold intS
            rw [if_pos HS.out, if_pos HN.out, HB.out, if_neg (by have := HM.out; omega)]
          have HI := Lib.hid hI
          clear hI
          have hb1 : decide (m ≤ 9223372036854775808) = false := decide_eq_false hbig
          go_wp2
          go_ret2
          exact ⟨by rw [HI.out]; rfl, rfl⟩

  | false =>
    have hz0 : ¬ rd l0 0 = 45 := by
      have := HN.out
      unfold negB at this
      cases l0 with
      | nil => simp at hpos
      | cons a r => simpa [rd] using this
    have hz1 : (rd l0 0 == 45) = false := beq_eq_false_iff_ne.2 hz0
    clear hz0
    obtain rfl : l0 = b := by have := HB.out; unfold bodyL at this; rw [if_neg (by rw [HN.out]; simp)] at this; exact this
    go_enter Try.func32, Try.ntmps32
    go_wp2_with fail
    refine (word_spelling.calls _ _ l0 true _ HR.out hc0 (congrArg some HS.out)).mono ?_
    rintro e w' ⟨rfl, rfl⟩
    by_cases h19 : 19 < l0.length
    · have hge := body_ge HD3.out 18 (by omega)
      have hI : intS l0 = (0, 13) := by
        unfold intS
        rw [if_pos HS.out, if_neg (by rw [HN.out]; simp), HB.out, if_neg (by omega)]
      have HI := Lib.hid hI
      clear hge hI
      go_wp2_with fail
      go_ret2
      exact ⟨by rw [HI.out]; rfl, rfl⟩
    go_wp2
    have HST : Hid (∀ k, k < l0.length → decV (l0.take k) < 1000000000000000000 ∧ 10 * (decV (l0.take k) : Int) + (rd l0 k - 48) = (decV (l0.take (k + 1)) : Int)) := Lib.hid (fun k hk => dec_step HD1.out (by omega) k hk)
    go_loop [5, 23] (fun v i => ∃ (k : Nat) (m : Int), k ≤ l0.length ∧ i = .int .i64 k ∧ v = .int .u64 m ∧ 0 ≤ m ∧ m < 10000000000000000000 ∧ Aside0 (m = (decV (l0.take k) : Int))) (fun _ i => l0.length - (intOf i).toNat)
    case atStart => exact ⟨0, 0, Nat.zero_le _, rfl, rfl, by omega, by omega, ⟨rfl⟩⟩
    case round =>
      obtain ⟨k, m, hk, rfl, rfl, hm0, hm1, hm⟩ := hrel
      by_cases hlt : k < l0.length
      · obtain ⟨ad1, had, hc⟩ := Kd.at_int (xs := l0) HR.out (k : Int) (by omega) (by omega)
        simp only [Int.toNat_natCast] at hc
        try subst had
        obtain ⟨hd1, hd2⟩ := dig_rd HD1.out k hlt
        obtain ⟨hs1, hs2⟩ := HST.out k hlt
        rw [← hm.out] at hs2
        have hs3 : m < 1000000000000000000 := by rw [hm.out]; omega
        have HS2 := Lib.hid hs2
        clear hs1 hs2
        go_wp2
        go_round
        case rel => exact ⟨k + 1, 10 * m + (rd l0 k - 48), by omega, by go_num, by go_num, by omega, by omega, ⟨HS2.out⟩⟩
        case measure => simp [intOf]; omega
      · have hk' : k = l0.length := by omega
        subst hk'
        have hmv := hm.out
        rw [List.take_length] at hmv
        have HM := Lib.hid hmv
        clear hmv
        by_cases hbig : m < 9223372036854775808
        · have hI : intS l0 = (m, 0) := by
            unfold intS
            rw [if_pos HS.out, if_neg (by rw [HN.out]; simp), HB.out, if_pos (by have := HM.out; omega), ← HM.out]
          have HI := Lib.hid hI
          clear hI
          have hb1 : decide (m < 9223372036854775808) = true := decide_eq_true hbig
          go_wp2
          go_ret2
          exact ⟨by rw [HI.out]; rfl, rfl⟩
        · have hI : intS l0 = (0, 13) := by
            unfold intS
            rw [if_pos HS.out, if_neg (by rw [HN.out]; simp), HB.out, if_neg (by have := HM.out; omega)]
          have HI := Lib.hid hI
          clear hI
          have hb1 : decide (m < 9223372036854775808) = false := decide_eq_false hbig
          go_wp2
          go_ret2
          exact ⟨by rw [HI.out]; rfl, rfl⟩

theorem word_Int.calls (A0 : Option Addr) (c0 : Nat) (l0 : List Int) (r1 : Int) (r2 : Int) (w : World) (hr0 : Kd.C (Kd.int .u8) w A0 l0.length l0) (hc0 : l0.length ≤ c0) (h : word_Int.f l0 = some (r1, r2)) :
    Calls Try.prog 32 #[.slice A0 l0.length c0] w fun e w' => e = .returned (.tuple #[.int .i64 r1, .int .i64 r2]) ∧ Drawn0 w w' := by
  have h' := Option.some.inj h
  have e1 : (intS l0).1 = r1 := by rw [h']
  have e2 : (intS l0).2 = r2 := by rw [h']
  subst e1 e2
  by_cases hs : spellB l0 = true
  · refine (int_tail l0 _ _ rfl rfl hs A0 c0 w hr0 hc0).mono ?_
    rintro e w' ⟨he, rfl⟩
    exact ⟨he, Drawn0.refl _⟩
  · have hs' : spellB l0 = false := by simpa using hs
    have HI := Lib.hid (show intS l0 = (0, 12) by unfold intS; rw [if_neg hs])
    have HS := Lib.hid hs'
    have HR := Lib.hid hr0
    clear hs hs' hr0 h h'
    go_enter Try.func32, Try.ntmps32
    go_wp2_with fail
    refine (word_spelling.calls _ _ l0 false _ HR.out hc0 (congrArg some HS.out)).mono ?_
    rintro e w' ⟨rfl, rfl⟩
    go_wp2
    go_ret2
    exact ⟨by rw [HI.out]; rfl, Drawn0.refl _⟩

def word_Uint.f (l : List Int) : Option (Int × Int) := some (uintS l)

theorem mul10 (n : Int) (h0 : 0 ≤ n) (h1 : n < 18446744073709551616) : bits_Mul64.f n 10 = some (10 * n / 18446744073709551616, 10 * n % 18446744073709551616) := by
  have a1 : Go.bits .and .u64 n 4294967295 = n % 4294967296 := by
    rw [show (4294967295 : Int) = 2 ^ 32 - 1 from rfl]; exact NumA.and_u64 32 (by decide) n h0 h1
  have a2 : Go.bits .and .u64 10 4294967295 = 10 := by rfl
  have a3 : ∀ m : Int, 0 ≤ m → m < 18446744073709551616 → Go.bits .and .u64 m 4294967295 = m % 4294967296 := fun m q0 q1 => by
    rw [show (4294967295 : Int) = 2 ^ 32 - 1 from rfl]; exact NumA.and_u64 32 (by decide) m q0 q1
  unfold bits_Mul64.f
  rw [a1, a2]
  simp only [IntKind.wrap_u64]
  rw [show (10 : Int) / 4294967296 = 0 from rfl, Int.mul_zero, Int.mul_zero]
  rw [show (n % 4294967296 * 10) % 18446744073709551616 = n % 4294967296 * 10 from by omega, show (n / 4294967296 * 10) % 18446744073709551616 = n / 4294967296 * 10 from by omega]
  rw [show (n / 4294967296 * 10 + n % 4294967296 * 10 / 4294967296) % 18446744073709551616 = n / 4294967296 * 10 + n % 4294967296 * 10 / 4294967296 from by omega]
  rw [a3 _ (by omega) (by omega)]
  rw [show (0 % 18446744073709551616 : Int) = 0 from rfl, Int.zero_add, Int.add_zero]
  have e1 : ((n / 4294967296 * 10 + n % 4294967296 * 10 / 4294967296) / 4294967296 % 18446744073709551616 + (n / 4294967296 * 10 + n % 4294967296 * 10 / 4294967296) % 4294967296 % 18446744073709551616 / 4294967296) % 18446744073709551616 = 10 * n / 18446744073709551616 := by
    have hs : 10 * n = (n / 4294967296 * 10 + n % 4294967296 * 10 / 4294967296) * 4294967296 + (n % 4294967296 * 10) % 4294967296 := by omega
    have hb : n / 4294967296 * 10 + n % 4294967296 * 10 / 4294967296 < 18446744073709551616 := by omega
    have hb0 : 0 ≤ n / 4294967296 * 10 + n % 4294967296 * 10 / 4294967296 := by omega
    rw [hs]
    have ht0 : 0 ≤ (n % 4294967296 * 10) % 4294967296 := by omega
    have ht1 : (n % 4294967296 * 10) % 4294967296 < 4294967296 := by omega
    generalize n / 4294967296 * 10 + n % 4294967296 * 10 / 4294967296 = s at hb hb0 ⊢
    generalize (n % 4294967296 * 10) % 4294967296 = t at ht0 ht1 ⊢
    clear hs a1 a2 a3 h0 h1
    have q1 : s % 4294967296 % 18446744073709551616 / 4294967296 = 0 := by omega
    have q2 : s / 4294967296 % 18446744073709551616 = s / 4294967296 := by omega
    have q3 : (s * 4294967296 + t) / 18446744073709551616 = s / 4294967296 := by omega
    rw [q1, q2, q3]
    omega
  have e2 : n * 10 % 18446744073709551616 = 10 * n % 18446744073709551616 := by omega
  rw [e1, e2]

theorem dec_more {b : List Int} (h : ∀ c ∈ b, 48 ≤ c ∧ c ≤ 57) (k : Nat) (hk : k < b.length) : 10 * (decV (b.take k) : Int) + (rd b k - 48) = (decV (b.take (k + 1)) : Int) ∧ decV (b.take (k + 1)) ≤ decV b := by
  have h4 := decV_take b k hk
  have h5 := dig_rd h k hk
  have h6 : rd b k = b.getD k 0 := by unfold rd; rw [Int.toNat_natCast]
  rw [h6] at h5 ⊢
  exact ⟨by omega, decV_mono b (k + 1)⟩

theorem drawn_trans {w w1 w2 : World} (h : Drawn0 w w1) (h' : Drawn0 w1 w2) : Drawn0 w w2 := by
  obtain ⟨n, rfl⟩ := h'
  exact h.step n

theorem add64_run (x y : Int) (hx : 0 ≤ x) (hy : 0 ≤ y) (w : World) :
    (callFunc 52 #[.int .u64 x, .int .u64 y, .int .u64 0]).run Try.prog w = .ok (.value (.tuple #[.int .u64 ((x + y) % 18446744073709551616), .int .u64 ((x + y) / 18446744073709551616)])) w := by
  rw [run_callFunc_extern Try.func52 (by kernel_rfl) (by kernel_rfl) (by kernel_rfl) (e := add64Entry) (by kernel_rfl), run_add64 x y 0 hx hy (by decide) (by decide)]
  simp only [Result.andThen, Int.add_zero]

set_option maxHeartbeats 1600000 in
theorem word_Uint.calls (A0 : Option Addr) (c0 : Nat) (l0 : List Int) (r1 : Int) (r2 : Int) (w : World) (hr0 : Kd.C (Kd.int .u8) w A0 l0.length l0) (hc0 : l0.length ≤ c0) (h : word_Uint.f l0 = some (r1, r2)) :
    Calls Try.prog 34 #[.slice A0 l0.length c0] w fun e w' => e = .returned (.tuple #[.int .u64 r1, .int .i64 r2]) ∧ Drawn0 w w' := by
  have h' := Option.some.inj h
  have e1 : (uintS l0).1 = r1 := by rw [h']
  have e2 : (uintS l0).2 = r2 := by rw [h']
  subst e1 e2
  clear h h'
  have HR := Lib.hid hr0
  have hlen := hr0.2.1
  clear hr0
  by_cases hs : spellB l0 = true
  · have hpos := spell_pos hs
    obtain ⟨ad, rfl, hc⟩ := Kd.at_int (xs := l0) HR.out (0 : Int) (Int.le_refl 0) (by exact_mod_cast hpos)
    have hcA : w.cell? ad = some (.int .u8 (rd l0 0)) := by simpa [Addr.add] using hc
    clear hc
    have HS := Lib.hid hs
    clear hs
    by_cases hn : rd l0 0 = 45
    · have HI := Lib.hid (show uintS l0 = (0, 12) by unfold uintS; rw [negB_of hpos hn]; simp)
      have hz1 : (rd l0 0 == 45) = true := beq_iff_eq.2 hn
      clear hn
      go_enter Try.func34, Try.ntmps34
      go_wp2_with fail
      refine (word_spelling.calls _ _ l0 true _ HR.out hc0 (congrArg some HS.out)).mono ?_
      rintro e w' ⟨rfl, rfl⟩
      go_wp2
      go_ret2
      exact ⟨by rw [HI.out]; rfl, Drawn0.refl _⟩
    · have hz1 : (rd l0 0 == 45) = false := beq_eq_false_iff_ne.2 hn
      have hnb := negB_not hn
      obtain ⟨hD1, _, _⟩ := spell_body HS.out
      have hbl : bodyL l0 = l0 := by unfold bodyL; rw [hnb]; rfl
      rw [hbl] at hD1
      have HD1 := Lib.hid hD1
      have HNB := Lib.hid hnb
      clear hn hnb hbl hD1
      go_enter Try.func34, Try.ntmps34
      go_wp2_with fail
      refine (word_spelling.calls _ _ l0 true _ HR.out hc0 (congrArg some HS.out)).mono ?_
      rintro e w' ⟨rfl, rfl⟩
      go_wp2_with fail
      go_loopw [4, 22] (fun v i w' => ∃ (k : Nat) (m : Int), k ≤ l0.length ∧ i = .int .i64 k ∧ v = .int .u64 m ∧ 0 ≤ m ∧ m < 18446744073709551616 ∧ Aside0 (m = (decV (l0.take k) : Int)) ∧ Aside0 (Drawn0 w w')) (fun _ i _ => l0.length - (intOf i).toNat)
      case atStart => exact ⟨0, 0, Nat.zero_le _, rfl, rfl, by omega, by omega, ⟨rfl⟩, ⟨Drawn0.refl _⟩⟩
      case round =>
        obtain ⟨k, m, hk, rfl, rfl, hm0, hm1, hm, hd⟩ := hrel
        by_cases hlt : k < l0.length
        · obtain ⟨ad1, had, hc⟩ := Kd.at_int (xs := l0) HR.out (k : Int) (by omega) (by omega)
          simp only [Int.toNat_natCast] at hc
          obtain rfl : ad = ad1 := Option.some.inj had
          have hc' := pw_cell_below hd.out.below hc
          obtain ⟨hd1, hd2⟩ := dig_rd HD1.out k hlt
          obtain ⟨hs1, hs2⟩ := dec_more HD1.out k hlt
          rw [← hm.out] at hs1
          have HS1 := Lib.hid hs1
          have HS2 := Lib.hid hs2
          clear hs1 hs2 hc
          go_wp2_with fail
          refine (bits_Mul64.calls m 10 _ _ _ (mul10 m hm0 hm1)).mono ?_
          rintro e w1 ⟨rfl, hd1'⟩
          have hadd := fun W => add64_run (10 * m % 18446744073709551616) (rd l0 k - 48) (by omega) (by omega) W
          have h9 : 0 ≤ 10 * m / 18446744073709551616 := by omega
          have h9' : 10 * m / 18446744073709551616 < 10 := by omega
          have h8 : 0 ≤ (10 * m % 18446744073709551616 + (rd l0 k - 48)) / 18446744073709551616 := by omega
          have h8' : (10 * m % 18446744073709551616 + (rd l0 k - 48)) / 18446744073709551616 < 2 := by omega
          have hsum : 10 * m / 18446744073709551616 + (10 * m % 18446744073709551616 + (rd l0 k - 48)) / 18446744073709551616 = (10 * m + (rd l0 k - 48)) / 18446744073709551616 := by omega
          have hmod : (10 * m % 18446744073709551616 + (rd l0 k - 48)) % 18446744073709551616 = (10 * m + (rd l0 k - 48)) % 18446744073709551616 := by omega
          have HSUM := Lib.hid hsum
          clear hsum hmod
          by_cases hbig : 10 * m + (rd l0 k - 48) < 18446744073709551616
          · have ht : (10 * m / 18446744073709551616 + (10 * m % 18446744073709551616 + (rd l0 k - 48)) / 18446744073709551616 != 0) = false := by
              have := HSUM.out
              rw [bne_eq_false_iff_eq, this]
              omega
            go_wp2
            go_roundw
            case rel => exact ⟨k + 1, (10 * m + (rd l0 k - 48)) % 18446744073709551616, by omega, by go_num, rfl, by omega, by omega, ⟨by have := HS1.out; omega⟩, ⟨drawn_trans hd.out hd1'⟩⟩
            case measure => simp [intOf]; omega
          · have ht : (10 * m / 18446744073709551616 + (10 * m % 18446744073709551616 + (rd l0 k - 48)) / 18446744073709551616 != 0) = true := by
              have := HSUM.out
              rw [bne_iff_ne, this]
              omega
            have hI : uintS l0 = (0, 12) := by
              unfold uintS
              rw [decide_eq_false (by have h1 := HS1.out; have h2 := HS2.out; omega), Bool.and_false]
              rfl
            have HI := Lib.hid hI
            clear hI
            go_wp2
            go_ret2
            exact ⟨by rw [HI.out]; rfl, drawn_trans hd.out hd1'⟩
        · have hk' : k = l0.length := by omega
          subst hk'
          have hmv := hm.out
          rw [List.take_length] at hmv
          have hI : uintS l0 = (m, 0) := by
            unfold uintS
            rw [HS.out, HNB.out, decide_eq_true (by omega), hmv]
            rfl
          have HI := Lib.hid hI
          clear hmv hI
          go_wp2
          go_ret2
          exact ⟨by rw [HI.out]; rfl, hd.out⟩
  · have hs' : spellB l0 = false := by simpa using hs
    have HI := Lib.hid (show uintS l0 = (0, 12) by unfold uintS; rw [hs']; rfl)
    have HS := Lib.hid hs'
    clear hs hs'
    go_enter Try.func34, Try.ntmps34
    go_wp2_with fail
    refine (word_spelling.calls _ _ l0 false _ HR.out hc0 (congrArg some HS.out)).mono ?_
    rintro e w' ⟨rfl, rfl⟩
    go_wp2
    go_ret2
    exact ⟨by rw [HI.out]; rfl, Drawn0.refl _⟩
end Go.Proofs.Ytgngpbcbnfmoiaa.PB
end
