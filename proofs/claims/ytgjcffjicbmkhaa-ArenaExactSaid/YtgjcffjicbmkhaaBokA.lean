/- larderlaw1.Book in memory: its cells in a holder's block, its tables, the lists that it keeps. No function of the program. -/
import Derived.Test.YtgjcffjicbmkhaaGenN
namespace Go.Proofs.Ytgjcffjicbmkhaa.BokA
open Go Go.RowKit Go.Proofs.YtgjcffjicbmkhaaW.PrintWords Go.Proofs.YtgjcffjicbmkhaaW.PrintLast Go.Proofs.YtgjcffjicbmkhaaW.PrintMore Go.Proofs.Ytgjcffjicbmkhaa.RowU Go.Proofs.Ytgjcffjicbmkhaa.ArS Go.Proofs.Ytgjcffjicbmkhaa.ArM Go.Proofs.Ytgjcffjicbmkhaa.GenM Go.Proofs.Ytgjcffjicbmkhaa.GenN
set_option linter.unusedVariables false
set_option maxRecDepth 100000

/-! ### the holder's cells -/
/-- Cells off to off + 32 of the block g. -/
structure Hd (W : World) (g off : Nat) (c : Nat → Value) : Prop where
  blk : ∃ cur T, W.heap[g]? = some (.cells cur T (0, 0))
  cell : ∀ j, j < 33 → W.cell? ⟨g, off + j, none⟩ = some (c j)
def putC (c : Nat → Value) (j : Nat) (v : Value) : Nat → Value := fun i => if i = j then v else c i
theorem putC_self (c : Nat → Value) (j : Nat) (v : Value) : putC c j v j = v := by simp [putC]
theorem putC_other (c : Nat → Value) {i j : Nat} (v : Value) (h : i ≠ j) : putC c j v i = c i := by simp [putC, h]
theorem Hd.upd {S : Nat → Prop} {W W' : World} {g off : Nat} {c : Nat → Value} (h : Hd W g off c) (hu : Upd S W W') (hg : ¬ S g) : Hd W' g off c := by
  obtain ⟨cur, T, hb⟩ := h.blk
  have hb' := blk_upd hb hu hg
  refine ⟨⟨cur, T, hb'⟩, fun j hj => ?_⟩
  have := h.cell j hj
  rw [blk_cell hb (off + j)] at this
  rw [blk_cell hb' (off + j)]
  exact this
theorem Hd.put {W : World} {g off : Nat} {c : Nat → Value} (h : Hd W g off c) (j : Nat) (hj : j < 33) (v : Value) : Hd (W.setCell ⟨g, off + j, none⟩ v) g off (putC c j v) := by
  obtain ⟨cur, T, hb⟩ := h.blk
  have hb' := blk_set hb (off + j) v
  refine ⟨⟨_, T, hb'⟩, fun i hi => ?_⟩
  rw [blk_cell hb' (off + i)]
  have h1 := h.cell i hi
  rw [blk_cell hb (off + i)] at h1
  by_cases hij : i = j
  · subst hij
    have hlt : off + i < cur.size := by
      rcases Nat.lt_or_ge (off + i) cur.size with h2 | h2
      · exact h2
      · rw [Array.getElem?_eq_none h2] at h1; cases h1
    rw [putC_self]
    simp [hlt]
  · rw [putC_other _ _ hij, ← h1]
    rw [Array.getElem?_setIfInBounds_ne (by omega)]
theorem set_keep {W : World} {g k i : Nat} {v : Value} (h : ∃ cur T, W.heap[g]? = some (.cells cur T (0, 0))) (hne : i ≠ k) : (W.setCell ⟨g, k, none⟩ v).cell? ⟨g, i, none⟩ = W.cell? ⟨g, i, none⟩ := by
  obtain ⟨cur, T, hb⟩ := h
  rw [blk_cell (blk_set hb k v) i, blk_cell hb i, Array.getElem?_setIfInBounds_ne (by omega)]
theorem upd_keep {S : Nat → Prop} {W W' : World} {g i : Nat} (h : ∃ cur T, W.heap[g]? = some (.cells cur T (0, 0))) (hu : Upd S W W') (hg : ¬ S g) : W'.cell? ⟨g, i, none⟩ = W.cell? ⟨g, i, none⟩ := by
  obtain ⟨cur, T, hb⟩ := h
  rw [blk_cell (blk_upd hb hu hg) i, blk_cell hb i]

/-! ### who owns a block -/
/-- What the book keeps in a block: (table, 0): the table's lists; (.., 1): their numbers; (.., 2): a list that has grown; (.., 3): one that grows; (.., 4 + i): list i, new. -/
def Own : Type := Nat → Option (Nat × Nat)
def Own.none_ : Own := fun _ => none
def Own.put (ow : Own) (v : Value) (t : Nat × Nat) : Own := fun b => if v.ownBlock = some b then some t else ow b
def Own.le (ow ow' : Own) : Prop := ∀ b t, ow b = some t → ow' b = some t
theorem Own.le.refl (ow : Own) : ow.le ow := fun _ _ h => h
theorem Own.le.trans {a b c : Own} (h : a.le b) (k : b.le c) : a.le c := fun x t hx => k x t (h x t hx)
theorem Own.put_le {ow : Own} {v : Value} {t : Nat × Nat} (h : ∀ b, v.ownBlock = some b → ow b = none ∨ ow b = some t) : ow.le (ow.put v t) := by
  intro b t' hb
  unfold Own.put
  by_cases hv : v.ownBlock = some b
  · rw [if_pos hv]
    rcases h b hv with h1 | h1
    · rw [hb] at h1; cases h1
    · rw [hb] at h1; exact h1.symm
  · rw [if_neg hv]; exact hb
theorem Own.put_at {ow : Own} {v : Value} {t : Nat × Nat} {b : Nat} (h : v.ownBlock = some b) : ow.put v t b = some t := by unfold Own.put; rw [if_pos h]
theorem Own.put_ne {ow : Own} {v : Value} {t : Nat × Nat} {b : Nat} (h : ow.put v t b ≠ none) : ow b ≠ none ∨ v.ownBlock = some b := by
  unfold Own.put at h
  by_cases hv : v.ownBlock = some b
  · exact .inr hv
  · rw [if_neg hv] at h; exact .inl h

/-! ### a table of lists -/
structure Ent where
  v : Value
  m : Nat
  n : Nat
def mkL (el : Nat → Nat → Value) (m n : Nat) : List Value := (List.range n).map (el m)
theorem mkL_len (el : Nat → Nat → Value) (m n : Nat) : (mkL el m n).length = n := by simp [mkL]
theorem mkL_succ (el : Nat → Nat → Value) (m n : Nat) : mkL el m (n + 1) = mkL el m n ++ [el m n] := by simp [mkL, List.range_succ]
theorem mkL_get (el : Nat → Nat → Value) (m : Nat) {n k : Nat} (h : k < n) : (mkL el m n)[k]? = some (el m k) := by simp [mkL, h]
theorem mkL_take (el : Nat → Nat → Value) (m : Nat) {n k : Nat} (h : k ≤ n) : (mkL el m n).take k = mkL el m k := by
  unfold mkL
  rw [← List.map_take, List.take_range, Nat.min_eq_left h]
def vsOf (es : List Ent) : List Value := es.map Ent.v
def msOf (es : List Ent) : List Value := es.map fun e => .int .i64 (e.m : Int)
theorem vsOf_get {es : List Ent} {i : Nat} {e : Ent} (h : es[i]? = some e) : (vsOf es)[i]? = some e.v := by simp [vsOf, h]
theorem msOf_get {es : List Ent} {i : Nat} {e : Ent} (h : es[i]? = some e) : (msOf es)[i]? = some (.int .i64 (e.m : Int)) := by simp [msOf, h]
theorem vsOf_snoc (es : List Ent) (e : Ent) : vsOf (es ++ [e]) = vsOf es ++ [e.v] := by simp [vsOf]
theorem msOf_snoc (es : List Ent) (e : Ent) : msOf (es ++ [e]) = msOf es ++ [.int .i64 (e.m : Int)] := by simp [msOf]
theorem vsOf_len (es : List Ent) : (vsOf es).length = es.length := by simp [vsOf]
theorem msOf_len (es : List Ent) : (msOf es).length = es.length := by simp [msOf]
structure Tb (k : Nat) (Tt Te : TypeId) (el : Nat → Nat → Value) (W : World) (ow : Own) (v vo : Value) (es : List Ent) (a U : Nat) : Prop where
  tab : GV Tt W v (vsOf es)
  of_ : GV 3 W vo (msOf es)
  tabT : ∀ b, v.ownBlock = some b → ow b = some (k, 0)
  ofT : ∀ b, vo.ownBlock = some b → ow b = some (k, 1)
  ent : ∀ e ∈ es, GV Te W e.v (mkL el e.m e.n) ∧ e.n ≤ 6000000 ∧ e.m ≤ 1000000000000000
  entT : ∀ i e b, es[i]? = some e → e.v.ownBlock = some b → ow b = some (k, if a ≤ i then 4 + i else 2)
  al : a ≤ es.length
  bnd : 120 * a + 1200 * (es.length - a) ≤ U
  short : ∀ j e, es[j]? = some e → a ≤ j → e.n ≤ 5900000
theorem Tb.move {k : Nat} {Tt Te : TypeId} {el : Nat → Nat → Value} {S : Nat → Prop} {W W' : World} {ow ow' : Own} {v vo : Value} {es : List Ent} {a U U' : Nat} (h : Tb k Tt Te el W ow v vo es a U) (hu : Upd S W W') (hS : ∀ b t, ow b = some (k, t) → ¬ S b) (ho : ow.le ow') (hU : U ≤ U') : Tb k Tt Te el W' ow' v vo es a U' := by
  refine ⟨h.tab.upd hu (fun b hb => hS b _ (h.tabT b hb)), h.of_.upd hu (fun b hb => hS b _ (h.ofT b hb)), fun b hb => ho _ _ (h.tabT b hb), fun b hb => ho _ _ (h.ofT b hb), fun e he => ⟨(h.ent e he).1.upd hu (fun b hb => ?_), (h.ent e he).2⟩, fun i e b hi hb => ho _ _ (h.entT i e b hi hb), h.al, Nat.le_trans h.bnd hU, h.short⟩
  obtain ⟨i, hi⟩ := List.getElem?_of_mem he
  exact hS b _ (h.entT i e b hi hb)
/-- One list more; it is new. -/
theorem Tb.push {k : Nat} {Tt Te : TypeId} {el : Nat → Nat → Value} {W W' : World} {S : Nat → Prop} {ow ow' : Own} {v vo v' vo' : Value} {es : List Ent} {a U U' : Nat} (h : Tb k Tt Te el W ow v vo es a U) {e : Ent}
    (hu : Upd S W W') (hS : ∀ b t, ow b = some (k, t) → 2 ≤ t → ¬ S b) (ho : ow.le ow') (h1 : GV Tt W' v' (vsOf es ++ [e.v])) (h2 : GV 3 W' vo' (msOf es ++ [.int .i64 (e.m : Int)]))
    (t1 : ∀ b, v'.ownBlock = some b → ow' b = some (k, 0)) (t2 : ∀ b, vo'.ownBlock = some b → ow' b = some (k, 1)) (h3 : GV Te W' e.v (mkL el e.m e.n)) (hn : e.n ≤ 5900000) (hm : e.m ≤ 1000000000000000)
    (t3 : ∀ b, e.v.ownBlock = some b → ow' b = some (k, 4 + es.length)) (hU : U + 1200 ≤ U') : Tb k Tt Te el W' ow' v' vo' (es ++ [e]) a U' := by
  refine ⟨by rw [vsOf_snoc]; exact h1, by rw [msOf_snoc]; exact h2, t1, t2, fun x hx => ?_, fun i x b hi hb => ?_, by rw [List.length_append]; have := h.al; omega, by have := h.bnd; have := h.al; rw [List.length_append, List.length_singleton]; omega, fun j x hj hj2 => ?_⟩
  · rcases List.mem_append.1 hx with hx | hx
    · refine ⟨(h.ent x hx).1.upd hu (fun b hb => ?_), (h.ent x hx).2⟩
      obtain ⟨i, hi⟩ := List.getElem?_of_mem hx
      exact hS b _ (h.entT i x b hi hb) (by split <;> omega)
    · rw [List.mem_singleton] at hx; subst hx; exact ⟨h3, by omega, hm⟩
  · by_cases hlt : i < es.length
    · rw [List.getElem?_append_left hlt] at hi
      exact ho _ _ (h.entT i x b hi hb)
    · have hil : i = es.length := by
        have := (List.getElem?_eq_some_iff.1 hi).1
        rw [List.length_append, List.length_singleton] at this
        omega
      subst hil
      rw [List.getElem?_append_right (Nat.le_refl _), Nat.sub_self] at hi
      obtain rfl : e = x := by simpa using hi
      rw [if_pos h.al]
      exact t3 b hb
  · by_cases hlt : j < es.length
    · rw [List.getElem?_append_left hlt] at hj
      exact h.short j x hj hj2
    · have hil : j = es.length := by
        have := (List.getElem?_eq_some_iff.1 hj).1
        rw [List.length_append, List.length_singleton] at this
        omega
      subst hil
      rw [List.getElem?_append_right (Nat.le_refl _), Nat.sub_self] at hj
      obtain rfl : e = x := by simpa using hj
      exact hn

/-! ### the book -/
/-- What a call on the book does elsewhere: nothing but to what it owns (and to X). -/
structure BkS (W W' : World) (g off : Nat) (ow ow' : Own) (X : Nat → Prop) : Prop where
  upd : Upd (fun b => b = g ∨ ow b ≠ none ∨ X b) W W'
  own : ∀ b, ow' b ≠ none → ow b ≠ none ∨ X b ∨ W.heap.size ≤ b
  keep : ∀ j, (j < off ∨ off + 33 ≤ j) → W'.cell? ⟨g, j, none⟩ = W.cell? ⟨g, j, none⟩
theorem BkS.refl (W : World) (g off : Nat) (ow : Own) (X : Nat → Prop) : BkS W W g off ow ow X := ⟨Upd.refl _ W, fun b h => .inl h, fun _ _ => rfl⟩
theorem BkS.trans {W W1 W2 : World} {g off : Nat} {ow ow1 ow2 : Own} {X Y : Nat → Prop} (h : BkS W W1 g off ow ow1 X) (k : BkS W1 W2 g off ow1 ow2 Y) (hY : ∀ b, Y b → X b ∨ ow b ≠ none ∨ W.heap.size ≤ b) : BkS W W2 g off ow ow2 X := by
  refine ⟨h.upd.trans2 k.upd (fun b hb => ?_), fun b hb => ?_, fun j hj => (k.keep j hj).trans (h.keep j hj)⟩
  · rcases hb with rfl | hb | hb
    · exact .inl (.inl rfl)
    · rcases h.own b hb with h1 | h1 | h1
      · exact .inl (.inr (.inl h1))
      · exact .inl (.inr (.inr h1))
      · exact .inr h1
    · rcases hY b hb with h1 | h1 | h1
      · exact .inl (.inr (.inr h1))
      · exact .inl (.inr (.inl h1))
      · exact .inr h1
  · rcases k.own b hb with h1 | h1 | h1
    · exact h.own b h1
    · rcases hY b h1 with h2 | h2 | h2
      · exact .inr (.inl h2)
      · exact .inl h2
      · exact .inr (.inr h2)
    · exact .inr (.inr (Nat.le_trans h.upd.size h1))
def atN (m k : Nat) : Nat := if k % 2 = 0 then 1 + m % 251 else 1 + (7 * m + m / 251) % 251
def elB (m k : Nat) : Value := .int .u8 (atN m k : Int)
def wmN (m : Nat) : Nat := m * 1099511627776 % 18446744073709551616
def elW (m _k : Nat) : Value := .int .u64 (wmN m : Int)
/-- The cells of a book that keeps lists of bytes and of words alone. -/
def bkC (vB vBo : Value) (aB : Nat) (vW vWo : Value) (aW turn done used : Nat) : Nat → Value := fun j =>
  if j = 0 then vB else if j = 1 then vBo else if j = 2 then .int .i64 (aB : Int) else if j = 6 then vW else if j = 7 then vWo else if j = 8 then .int .i64 (aW : Int)
  else if j = 30 then .int .i64 (turn : Int) else if j = 31 then .int .i64 (done : Int) else if j = 32 then .int .i64 (used : Int) else if j % 3 = 2 then .int .i64 0 else .slice none 0 0
structure Bk (W : World) (g off : Nat) (ow : Own) (vB vBo : Value) (eB : List Ent) (aB : Nat) (vW vWo : Value) (eW : List Ent) (aW turn done used : Nat) : Prop where
  hd : Hd W g off (bkC vB vBo aB vW vWo aW turn done used)
  tB : Tb 0 67 5 elB W ow vB vBo eB aB used
  tW : Tb 2 34 36 elW W ow vW vWo eW aW used
  lt : ∀ b, ow b ≠ none → b < W.heap.size
  ng : ow g = none
  us : used ≤ 16777216
theorem Bk.move {W W' : World} {S : Nat → Prop} {g off : Nat} {ow : Own} {vB vBo : Value} {eB : List Ent} {aB : Nat} {vW vWo : Value} {eW : List Ent} {aW turn done used : Nat} (h : Bk W g off ow vB vBo eB aB vW vWo eW aW turn done used) (hu : Upd S W W') (hg : ¬ S g) (hS : ∀ b, ow b ≠ none → ¬ S b) : Bk W' g off ow vB vBo eB aB vW vWo eW aW turn done used :=
  ⟨h.hd.upd hu hg, h.tB.move hu (fun b t hb => hS b (by rw [hb]; simp)) (Own.le.refl _) (Nat.le_refl _), h.tW.move hu (fun b t hb => hS b (by rw [hb]; simp)) (Own.le.refl _) (Nat.le_refl _), fun b hb => Nat.lt_of_lt_of_le (h.lt b hb) hu.size, h.ng, h.us⟩
end Go.Proofs.Ytgjcffjicbmkhaa.BokA
