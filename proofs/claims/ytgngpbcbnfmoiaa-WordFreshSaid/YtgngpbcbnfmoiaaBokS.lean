/- The book while one of its tables grows: the holder's cells, the other tables. No function of the program. -/
import Derived.Test.YtgngpbcbnfmoiaaBokG
namespace Go.Proofs.Ytgngpbcbnfmoiaa.BokS
open Go Go.RowKit Go.Proofs.YtgngpbcbnfmoiaaW.PrintWords Go.Proofs.YtgngpbcbnfmoiaaW.PrintLast Go.Proofs.YtgngpbcbnfmoiaaW.PrintMore Go.Proofs.Ytgngpbcbnfmoiaa.PF Go.Proofs.Ytgngpbcbnfmoiaa.RowU Go.Proofs.Ytgngpbcbnfmoiaa.ArS Go.Proofs.Ytgngpbcbnfmoiaa.ArM Go.Proofs.Ytgngpbcbnfmoiaa.GenM Go.Proofs.Ytgngpbcbnfmoiaa.GenN Go.Proofs.Ytgngpbcbnfmoiaa.BokA Go.Proofs.Ytgngpbcbnfmoiaa.BokT Go.Proofs.Ytgngpbcbnfmoiaa.BokB Go.Proofs.Ytgngpbcbnfmoiaa.BokE Go.Proofs.Ytgngpbcbnfmoiaa.BokG
set_option linter.unusedVariables false
set_option maxRecDepth 100000

def nix : Nat → Prop := fun _ => False
/-- What is said of the other tables stays true while table k alone turns. -/
def OthOk (k : Nat) (Oth : World → Own → Prop) : Prop := ∀ (S : Nat → Prop) w w' ow ow', Oth w ow → Upd S w w' → (∀ b t, ow b = some t → t.1 ≠ k → ¬ S b) → Own.leK k ow ow' → Oth w' ow'
structure Gs (k : Nat) (Oth : World → Own → Prop) (W wr : World) (g off : Nat) (ow0 ow : Own) (c : Nat → Value) : Prop where
  hd : Hd wr g off c
  oth : Oth wr ow
  lt : ∀ b, ow b ≠ none → b < wr.heap.size
  ng : ow g = none
  bks : BkS W wr g off ow0 ow nix
theorem Gs.gl {k : Nat} {Oth : World → Own → Prop} {W wr : World} {g off : Nat} {ow0 ow : Own} {c : Nat → Value} (h : Gs k Oth W wr g off ow0 ow c) : g < wr.heap.size := by obtain ⟨cur, T, hb⟩ := h.hd.blk; exact cell_lt hb
/-- Blocks of table k alone have turned. -/
theorem Gs.turn {k : Nat} {Oth : World → Own → Prop} (hO : OthOk k Oth) {W wr w' : World} {g off : Nat} {ow0 ow ow' : Own} {c : Nat → Value} (h : Gs k Oth W wr g off ow0 ow c) {S : Nat → Prop} (hu : Upd S wr w') (hS : ∀ b, S b → ∃ t, ow b = some (k, t)) (hle : Own.leK k ow ow') (hlt : ∀ b, ow' b ≠ none → b < w'.heap.size) (hng : ow' g = none) (hown : ∀ b, ow' b ≠ none → ow b ≠ none ∨ wr.heap.size ≤ b) : Gs k Oth W w' g off ow0 ow' c := by
  have hg : ¬ S g := fun hs => by obtain ⟨t, ht⟩ := hS g hs; rw [h.ng] at ht; cases ht
  refine ⟨h.hd.upd hu hg, hO S wr w' ow ow' h.oth hu (fun b t hb ht hs => ?_) hle, hlt, hng, h.bks.trans (Y := nix) ⟨hu.mono (fun b hb => .inr (.inl ?_)), fun b hb => (hown b hb).imp id .inr, fun j hj => keep_upd h.hd hu hg j hj⟩ (fun b hb => hb.elim)⟩
  · obtain ⟨t', ht'⟩ := hS b hs
    rw [hb] at ht'
    simp at ht'
    rw [ht'] at ht
    exact ht rfl
  · obtain ⟨t', ht'⟩ := hS b hb
    rw [ht']; simp
theorem Gs.below {k : Nat} {Oth : World → Own → Prop} (hO : OthOk k Oth) {W wr w' : World} {g off : Nat} {ow0 ow : Own} {c : Nat → Value} (h : Gs k Oth W wr g off ow0 ow c) (hb : Below wr.heap.size wr w') : Gs k Oth W w' g off ow0 ow c :=
  h.turn hO (S := nix) (Upd.of_below hb) (fun b hb => hb.elim) (fun b t hb _ => hb) (fun b hb' => Nat.lt_of_lt_of_le (h.lt b hb') hb.size) h.ng (fun b hb => .inl hb)
/-- The same blocks, told apart in another way. -/
theorem Gs.retag {k : Nat} {Oth : World → Own → Prop} (hO : OthOk k Oth) {W wr : World} {g off : Nat} {ow0 ow ow' : Own} {c : Nat → Value} (h : Gs k Oth W wr g off ow0 ow c) (hle : Own.leK k ow ow') (hiff : ∀ b, ow' b ≠ none ↔ ow b ≠ none) : Gs k Oth W wr g off ow0 ow' c :=
  h.turn hO (S := nix) (Upd.refl _ wr) (fun b hb => hb.elim) hle (fun b hb => h.lt b ((hiff b).1 hb)) (Classical.byContradiction fun hne => (hiff g).1 hne h.ng) (fun b hb => .inl ((hiff b).1 hb))
/-- A cell of the holder is written. -/
theorem Gs.store {k : Nat} {Oth : World → Own → Prop} (hO : OthOk k Oth) {W wr : World} {g off : Nat} {ow0 ow : Own} {c c' : Nat → Value} (h : Gs k Oth W wr g off ow0 ow c) (j : Nat) (hj : j < 33) (v : Value) (hc : ∀ i, i < 33 → putC c j v i = c' i) : Gs k Oth W (wr.setCell ⟨g, off + j, none⟩ v) g off ow0 ow c' := by
  have hu := put_upd wr g (off + j) v
  have hne : ∀ b, ow b ≠ none → b ≠ g := fun b hb e => by subst e; exact hb h.ng
  refine ⟨(h.hd.put j hj v).congr hc, hO _ wr _ ow ow h.oth hu (fun b t hb _ e => hne b (by rw [hb]; simp) e) (fun b t hb _ => hb), fun b hb => Nat.lt_of_lt_of_le (h.lt b hb) hu.size, h.ng, h.bks.trans (Y := nix) ⟨hu.mono (fun b hb => .inl hb), fun b hb => .inl hb, fun i hi => set_keep h.hd.blk (by omega)⟩ (fun b hb => hb.elim)⟩
/-- The list grows. -/
theorem gs_grow {k : Nat} {Oth : World → Own → Prop} (hO : OthOk k Oth) {W w3 w4 w5 : World} {g off : Nat} {ow0 ow : Own} {c : Nat → Value} (h : Gs k Oth W w3 g off ow0 ow c) {Tt Te : TypeId} {el : Nat → Nat → Value} {vT vo : Value} {es : List Ent} {N0 i : Nat} {v v' : Value} {m n p U : Nat} (hr : Gr k Tt Te el w3 ow vT vo es N0 i v m n p U)
    (u4 : Below w3.heap.size w3 w4) (r : Grew Te w4 w5 v v' (mkL el m n) (el m n)) : ∃ ow', Gr k Tt Te el w5 ow' vT vo es N0 i v' m (n + 1) p U ∧ Gs k Oth W w5 g off ow0 ow' c := by
  obtain ⟨ow', a1, a2, a3, a4, a5, a6⟩ := hr.grow h.lt h.ng h.gl u4 r
  exact ⟨ow', a1, h.turn hO a6 (fun b hb => ⟨3, hb⟩) (Own.le.leK a2) a3 a4 a5⟩
/-- ... and is kept. -/
theorem gs_push {k : Nat} {Oth : World → Own → Prop} (hO : OthOk k Oth) {W w3 w4 w5 w6 w7 w8 w9 : World} {g off : Nat} {ow0 ow : Own} {c c' : Nat → Value} (h : Gs k Oth W w3 g off ow0 ow c) {Tt Te : TypeId} {el : Nat → Nat → Value} {vT vo v7 v9 : Value} {es : List Ent} {N0 i : Nat} {v : Value} {m n p U j0 j1 : Nat} (hr : Gr k Tt Te el w3 ow vT vo es N0 i v m n p U) (hn : n ≤ 6000000)
    (u4 : Below w3.heap.size w3 w4) (r5 : Grew Tt w4 w5 vT v7 (vsOf es) v) (hj0 : j0 < 33) (e6 : w6 = w5.setCell ⟨g, off + j0, none⟩ v7) (u67 : Below w6.heap.size w6 w7) (r8 : Grew 3 w7 w8 vo v9 (msOf es) (.int .i64 (m : Int))) (hj1 : j1 < 33) (e9 : w9 = w8.setCell ⟨g, off + j1, none⟩ v9) (hc : ∀ i, i < 33 → putC (putC c j0 v7) j1 v9 i = c' i) :
    ∃ ow', Gr k Tt Te el w9 ow' v7 v9 (es ++ [⟨v, m, n⟩]) N0 i v m n (p + 1) U ∧ Gs k Oth W w9 g off ow0 ow' c' := by
  obtain ⟨ow', a1, le, lt8, ng8, own8, u38⟩ := hr.push h.lt h.ng h.gl hn u4 r5 e6 u67 r8
  have u35 : Upd (fun b => ow b = some (k, 0)) w3 w5 := (Upd.of_below u4).trans (r5.upd.mono (fun b hb => hr.tabT b hb))
  have nS : ¬ (fun b => ow b = some (k, 0)) g := by show ¬ ow g = _; rw [h.ng]; simp
  have hd5 := h.hd.upd u35 nS
  have k5 := keep_upd h.hd u35 nS
  have hd6 := hd5.put j0 hj0 v7
  rw [← e6] at hd6
  have k6 := keep_put hd5 hj0 e6
  have u68 : Upd (fun b => vo.ownBlock = some b) w6 w8 := (Upd.of_below u67).trans r8.upd
  have nS2 : ¬ (fun b => vo.ownBlock = some b) g := fun hb => by have := hr.ofT g hb; rw [h.ng] at this; cases this
  have hd8 := hd6.upd u68 nS2
  have k8 := keep_upd hd6 u68 nS2
  have hd9 := hd8.put j1 hj1 v9
  rw [← e9] at hd9
  have k9 := keep_put hd8 hj1 e9
  have u89 : Upd (fun b => b = g) w8 w9 := by rw [e9]; exact put_upd _ _ _ _
  have hg9 : ∀ b, ow' b ≠ none → ¬ (fun b => b = g) b := fun b hb e => by have e : b = g := e; subst e; exact hb ng8
  have u39 := u38.trans (u89.mono (fun b hb => (.inl hb : b = g ∨ ow b = some (k, 0) ∨ ow b = some (k, 1))))
  refine ⟨ow', a1.moveU u89 hg9, ⟨hd9.congr hc, hO _ w3 w9 ow ow' h.oth u39 (fun b t hb ht => ?_) (Own.le.leK le), fun b hb => Nat.lt_of_lt_of_le (lt8 b hb) u89.size, ng8, h.bks.trans (Y := nix) ⟨u39.mono (fun b hb => ?_), fun b hb => (own8 b hb).imp id .inr, fun j hj => ?_⟩ (fun b hb => hb.elim)⟩⟩
  · rintro (rfl | h1 | h1)
    · rw [h.ng] at hb; cases hb
    · rw [hb] at h1; simp at h1; rw [h1] at ht; exact ht rfl
    · rw [hb] at h1; simp at h1; rw [h1] at ht; exact ht rfl
  · rcases hb with h1 | h1 | h1
    · exact .inl h1
    · exact .inr (.inl (by rw [h1]; simp))
    · exact .inr (.inl (by rw [h1]; simp))
  · rw [k9 j hj, k8 j hj, k6 j hj, k5 j hj]
theorem oth_W (vW vWo : Value) (eW : List Ent) (aW U : Nat) : OthOk 0 (fun w ow => Tb 2 43 23 elW w ow vW vWo eW aW U) := fun S w w' ow ow' h hu hS hle => h.moveK hu (fun b t hb => hS b _ hb (by show (_ : Nat) ≠ _; omega)) (fun b t hb => hle b _ hb (by show (_ : Nat) ≠ _; omega)) (Nat.le_refl _)
theorem oth_B (vB vBo : Value) (eB : List Ent) (aB U : Nat) : OthOk 2 (fun w ow => Tb 0 22 5 elB w ow vB vBo eB aB U) := fun S w w' ow ow' h hu hS hle => h.moveK hu (fun b t hb => hS b _ hb (by show (_ : Nat) ≠ _; omega)) (fun b t hb => hle b _ hb (by show (_ : Nat) ≠ _; omega)) (Nat.le_refl _)
/-- So many pushes behind x - 1 rounds. -/
def pcnt (x : Nat) : Nat := min (x - 1) 3 + (x - 1) / 16
theorem pcnt_yes {x : Nat} (h0 : 1 ≤ x) (h : x < 4 ∨ x % 16 = 0) : pcnt (x + 1) = pcnt x + 1 := by unfold pcnt; omega
theorem pcnt_no {x : Nat} (h0 : 1 ≤ x) (h : ¬ (x < 4 ∨ x % 16 = 0)) : pcnt (x + 1) = pcnt x := by unfold pcnt; omega
theorem pcnt_le {x : Nat} (h : x ≤ 97) : pcnt x ≤ 9 := by unfold pcnt; omega
end Go.Proofs.Ytgngpbcbnfmoiaa.BokS
