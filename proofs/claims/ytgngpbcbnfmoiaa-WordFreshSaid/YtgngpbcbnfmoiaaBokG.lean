/- What stands in memory while a table of the book grows. No function of the program. -/
import Derived.Test.YtgngpbcbnfmoiaaBokF
namespace Go.Proofs.Ytgngpbcbnfmoiaa.BokG
open Go Go.RowKit Go.Proofs.YtgngpbcbnfmoiaaW.PrintWords Go.Proofs.YtgngpbcbnfmoiaaW.PrintLast Go.Proofs.YtgngpbcbnfmoiaaW.PrintMore Go.Proofs.Ytgngpbcbnfmoiaa.PF Go.Proofs.Ytgngpbcbnfmoiaa.RowU Go.Proofs.Ytgngpbcbnfmoiaa.ArS Go.Proofs.Ytgngpbcbnfmoiaa.ArM Go.Proofs.Ytgngpbcbnfmoiaa.GenM Go.Proofs.Ytgngpbcbnfmoiaa.GenN Go.Proofs.Ytgngpbcbnfmoiaa.BokA Go.Proofs.Ytgngpbcbnfmoiaa.BokT Go.Proofs.Ytgngpbcbnfmoiaa.BokB Go.Proofs.Ytgngpbcbnfmoiaa.BokE
set_option linter.unusedVariables false
set_option maxRecDepth 100000

/-- A table's two rows grow by one. -/
theorem tab_push {k : Nat} {Tt : TypeId} {w3 w4 w5 w6 w7 w8 : World} {ow : Own} {g j0 : Nat} {vT vO v7 v9 x6 y z : Value} {lv lo : List Value}
    (htT : ∀ b, vT.ownBlock = some b → ow b = some (k, 0)) (hoT : ∀ b, vO.ownBlock = some b → ow b = some (k, 1)) (hlt : ∀ b, ow b ≠ none → b < w3.heap.size) (hg : ow g = none) (hgl : g < w3.heap.size)
    (u4 : Below w3.heap.size w3 w4) (r5 : Grew Tt w4 w5 vT v7 lv y) (e6 : w6 = w5.setCell ⟨g, j0, none⟩ x6) (u67 : Below w6.heap.size w6 w7) (r8 : Grew 3 w7 w8 vO v9 lo z) :
    ∃ ow', GV Tt w8 v7 (lv ++ [y]) ∧ GV 3 w8 v9 (lo ++ [z]) ∧ (∀ b, v7.ownBlock = some b → ow' b = some (k, 0)) ∧ (∀ b, v9.ownBlock = some b → ow' b = some (k, 1)) ∧ ow.le ow' ∧ (∀ b, ow' b ≠ none → b < w8.heap.size) ∧ ow' g = none ∧ (∀ b, ow' b ≠ none → ow b ≠ none ∨ w3.heap.size ≤ b) ∧ Upd (fun b => b = g ∨ ow b = some (k, 0) ∨ ow b = some (k, 1)) w3 w8 := by
  have s4 := u4.size
  have u35 : Upd (fun b => ow b = some (k, 0)) w3 w5 := (Upd.of_below u4).trans (r5.upd.mono (fun b hb => htT b hb))
  have u56 : Upd (fun b => b = g) w5 w6 := by rw [e6]; exact Upd.put (S := fun b => b = g) (Upd.refl _ w5) (.inl rfl) _ _
  have s35 := u35.size
  have s56 := u56.size
  have s67 := u67.size
  have s78 := r8.upd.size
  have b7 : ∀ b, v7.ownBlock = some b → ow b = some (k, 0) ∨ (ow b = none ∧ w3.heap.size ≤ b ∧ b < w5.heap.size) := fun b hb => by
    rcases r5.block b hb with h1 | h1
    · exact .inl (htT b h1)
    · exact .inr ⟨Classical.byContradiction fun hne => by have := hlt b hne; omega, by omega, r5.gv.lt b hb⟩
  have b9 : ∀ b, v9.ownBlock = some b → ow b = some (k, 1) ∨ (ow b = none ∧ w5.heap.size ≤ b ∧ b < w8.heap.size) := fun b hb => by
    rcases r8.block b hb with h1 | h1
    · exact .inl (hoT b h1)
    · exact .inr ⟨Classical.byContradiction fun hne => by have := hlt b hne; omega, by omega, r8.gv.lt b hb⟩
  have n97 : ∀ b, v9.ownBlock = some b → v7.ownBlock ≠ some b := fun b hb h7 => by
    rcases b9 b hb with h3 | h3 <;> rcases b7 b h7 with h4 | h4
    · rw [h3] at h4; simp at h4
    · rw [h3] at h4; simp at h4
    · rw [h4] at h3; simp at h3
    · omega
  have n7g : v7.ownBlock ≠ some g := fun hb => by
    rcases b7 g hb with h3 | h3
    · rw [hg] at h3; cases h3
    · omega
  have n9g : v9.ownBlock ≠ some g := fun hb => by
    rcases b9 g hb with h3 | h3
    · rw [hg] at h3; cases h3
    · omega
  have hu : Upd (fun b => b = g ∨ ow b = some (k, 0) ∨ ow b = some (k, 1)) w3 w8 :=
    (((u35.mono (fun b hb => .inr (.inl hb))).trans (u56.mono (fun b hb => .inl hb))).trans (Upd.of_below u67)).trans (r8.upd.mono (fun b hb => .inr (.inr (hoT b hb))))
  have e1 : ∀ b, v7.ownBlock = some b → ow b = none ∨ ow b = some (k, 0) := fun b hb => by
    rcases b7 b hb with h3 | h3
    · exact .inr h3
    · exact .inl h3.1
  have e2 : ∀ b, v9.ownBlock = some b → (ow.put v7 (k, 0)) b = none ∨ (ow.put v7 (k, 0)) b = some (k, 1) := fun b hb => by
    unfold Own.put
    rw [if_neg (n97 b hb)]
    rcases b9 b hb with h3 | h3
    · exact .inr h3
    · exact .inl h3.1
  refine ⟨(ow.put v7 (k, 0)).put v9 (k, 1), ?_, r8.gv, fun b hb => ?_, fun b hb => Own.put_at hb, (Own.put_le e1).trans (Own.put_le e2), fun b hb => ?_, ?_, fun b hb => ?_, hu⟩
  · have u58 : Upd (fun b => b = g ∨ vO.ownBlock = some b) w5 w8 := ((u56.mono (fun b hb => .inl hb)).trans (Upd.of_below u67)).trans (r8.upd.mono (fun b hb => .inr hb))
    refine r5.gv.upd u58 (fun b hb => ?_)
    rintro (rfl | h1)
    · exact n7g hb
    · have h2 := hoT b h1
      rcases b7 b hb with h3 | h3
      · rw [h2] at h3; simp at h3
      · rw [h2] at h3; simp at h3
  · show ((ow.put v7 (k, 0)).put v9 (k, 1)) b = _
    rw [Own.put, if_neg (fun h9 => n97 b h9 hb)]
    exact Own.put_at hb
  · rcases Own.put_ne hb with hb | hb
    · rcases Own.put_ne hb with hb | hb
      · have := hlt b hb; omega
      · have := r5.gv.lt b hb; omega
    · exact r8.gv.lt b hb
  · rw [Own.put, if_neg n9g, Own.put, if_neg n7g]; exact hg
  · rcases Own.put_ne hb with hb | hb
    · rcases Own.put_ne hb with hb | hb
      · exact .inl hb
      · rcases b7 b hb with h3 | h3
        · exact .inl (by rw [h3]; simp)
        · exact .inr h3.2.1
    · rcases b9 b hb with h3 | h3
      · exact .inl (by rw [h3]; simp)
      · exact .inr (by omega)
/-- ow' keeps what ow says of other tables. -/
def Own.leK (k : Nat) (ow ow' : Own) : Prop := ∀ b t, ow b = some t → t.1 ≠ k → ow' b = some t
theorem Own.leK.trans {k : Nat} {a b c : Own} (h : Own.leK k a b) (h2 : Own.leK k b c) : Own.leK k a c := fun x t hx ht => h2 x t (h x t hx ht) ht
theorem Own.le.leK {k : Nat} {a b : Own} (h : a.le b) : Own.leK k a b := fun x t hx _ => h x t hx
theorem _root_.Go.Proofs.Ytgngpbcbnfmoiaa.BokA.Tb.moveK {k : Nat} {Tt Te : TypeId} {el : Nat → Nat → Value} {S : Nat → Prop} {W W' : World} {ow ow' : Own} {v vo : Value} {es : List Ent} {a U U' : Nat} (h : Tb k Tt Te el W ow v vo es a U) (hu : Upd S W W') (hS : ∀ b t, ow b = some (k, t) → ¬ S b) (ho : ∀ b t, ow b = some (k, t) → ow' b = some (k, t)) (hU : U ≤ U') : Tb k Tt Te el W' ow' v vo es a U' := by
  refine ⟨h.tab.upd hu (fun b hb => hS b _ (h.tabT b hb)), h.of_.upd hu (fun b hb => hS b _ (h.ofT b hb)), fun b hb => ho _ _ (h.tabT b hb), fun b hb => ho _ _ (h.ofT b hb), fun e he => ⟨(h.ent e he).1.upd hu (fun b hb => ?_), (h.ent e he).2⟩, fun i e b hi hb => ho _ _ (h.entT i e b hi hb), h.al, Nat.le_trans h.bnd hU, h.short⟩
  obtain ⟨i, hi⟩ := List.getElem?_of_mem he
  exact hS b _ (h.entT i e b hi hb)
/-- Between two lists' growing: those below i and those pushed have grown. -/
structure Tg (k : Nat) (Tt Te : TypeId) (el : Nat → Nat → Value) (W : World) (ow : Own) (v vo : Value) (es : List Ent) (N0 i U : Nat) : Prop where
  tab : GV Tt W v (vsOf es)
  of_ : GV 3 W vo (msOf es)
  tabT : ∀ b, v.ownBlock = some b → ow b = some (k, 0)
  ofT : ∀ b, vo.ownBlock = some b → ow b = some (k, 1)
  ent : ∀ e ∈ es, GV Te W e.v (mkL el e.m e.n) ∧ e.n ≤ 6000000 ∧ e.m ≤ 1000000000000000
  entT : ∀ j e b, es[j]? = some e → e.v.ownBlock = some b → ow b = some (k, if i ≤ j ∧ j < N0 then 4 + j else 2)
  short : ∀ j e, es[j]? = some e → i ≤ j → j < N0 → e.n ≤ 5900000
  iN : i ≤ N0
  nl : N0 ≤ es.length
  bnd : 120 * i + 120 * (es.length - N0) + 1200 * (N0 - i) ≤ U
/-- One list grows: so far v, of length n. -/
structure Gr (k : Nat) (Tt Te : TypeId) (el : Nat → Nat → Value) (W : World) (ow : Own) (vT vo : Value) (es : List Ent) (N0 i : Nat) (v : Value) (m n p U : Nat) : Prop where
  tab : GV Tt W vT (vsOf es)
  of_ : GV 3 W vo (msOf es)
  tabT : ∀ b, vT.ownBlock = some b → ow b = some (k, 0)
  ofT : ∀ b, vo.ownBlock = some b → ow b = some (k, 1)
  ent : ∀ e ∈ es, GV Te W e.v (mkL el e.m e.n) ∧ e.n ≤ 6000000 ∧ e.m ≤ 1000000000000000
  entT : ∀ j e b, es[j]? = some e → e.v.ownBlock = some b → (i < j ∧ j < N0 ∧ ow b = some (k, 4 + j)) ∨ (¬ (i < j ∧ j < N0) ∧ (ow b = some (k, 2) ∨ (ow b = some (k, 3) ∧ e.m = m ∧ e.n ≤ n)))
  short : ∀ j e, es[j]? = some e → i < j → j < N0 → e.n ≤ 5900000
  cur : GV Te W v (mkL el m n)
  curT : ∀ b, v.ownBlock = some b → ow b = some (k, 3)
  iN : i < N0
  nl : N0 ≤ es.length
  bnd : 120 * i + 120 * (es.length - N0) + 1200 * (N0 - i) ≤ U + 120 * p
  mb : m ≤ 1000000000000000
theorem gen_len {T : TypeId} {W : World} {g c : Nat} {l : List Value} (h : GenAt T W g c l) {c2 : Nat} {l2 : List Value} (h2 : GenAt T W g c2 l2) : c = c2 := by
  obtain ⟨cur, a1, a2, _⟩ := h
  obtain ⟨cur2, b1, b2, _⟩ := h2
  rw [a1] at b1
  simp only [Option.some.injEq, Obj.cells.injEq] at b1
  have : cur = cur2 := by have := congrArg Array.toList b1.1; simpa using this
  rw [← a2, ← b2, this]
theorem gen_cut {T : TypeId} {W : World} {g cap : Nat} {l l2 : List Value} (h : GenAt T W g cap (l ++ l2)) : GenAt T W g cap l := by
  obtain ⟨cur, h1, h2, h3, h5, h4⟩ := h
  refine ⟨cur, h1, h2, by rw [List.length_append] at h3; omega, h5, ?_⟩
  have := congrArg (fun r => r.take l.length) h4
  simpa [List.take_take] using this
/-- The list grows by one. -/
theorem Gr.grow {k : Nat} {Tt Te : TypeId} {el : Nat → Nat → Value} {w3 w4 w5 : World} {ow : Own} {vT vo : Value} {es : List Ent} {N0 i : Nat} {v v' : Value} {m n p U : Nat} (h : Gr k Tt Te el w3 ow vT vo es N0 i v m n p U) (hlt : ∀ b, ow b ≠ none → b < w3.heap.size) {g : Nat} (hg : ow g = none) (hgl : g < w3.heap.size)
    (u4 : Below w3.heap.size w3 w4) (r : Grew Te w4 w5 v v' (mkL el m n) (el m n)) :
    ∃ ow', Gr k Tt Te el w5 ow' vT vo es N0 i v' m (n + 1) p U ∧ ow.le ow' ∧ (∀ b, ow' b ≠ none → b < w5.heap.size) ∧ ow' g = none ∧ (∀ b, ow' b ≠ none → ow b ≠ none ∨ w3.heap.size ≤ b) ∧ Upd (fun b => ow b = some (k, 3)) w3 w5 := by
  have hu : Upd (fun b => v.ownBlock = some b) w3 w5 := (Upd.of_below u4).trans r.upd
  have hu3 : Upd (fun b => ow b = some (k, 3)) w3 w5 := hu.mono (fun b hb => h.curT b hb)
  have s34 := u4.size
  have s35 := hu.size
  have e1 : ∀ b, v'.ownBlock = some b → ow b = none ∨ ow b = some (k, 3) := fun b hb => by
    rcases r.block b hb with h1 | h1
    · exact .inr (h.curT b h1)
    · exact .inl (Classical.byContradiction fun hne => by have := hlt b hne; omega)
  have le := Own.put_le (t := (k, 3)) e1
  have hS : ∀ b t, ow b = some (k, t) → t ≠ 3 → ¬ (fun b => ow b = some (k, 3)) b := fun b t hb ht hb' => by
    have hb' : ow b = some (k, 3) := hb'
    rw [hb] at hb'
    simp at hb'
    exact ht hb'
  have hgv := r.gv
  rw [← mkL_succ] at hgv
  refine ⟨ow.put v' (k, 3), ⟨h.tab.upd hu3 (fun b hb => hS b _ (h.tabT b hb) (by decide)), h.of_.upd hu3 (fun b hb => hS b _ (h.ofT b hb) (by decide)), fun b hb => le _ _ (h.tabT b hb), fun b hb => le _ _ (h.ofT b hb), fun e he => ⟨?_, (h.ent e he).2⟩, fun j e b hj hb => ?_, h.short, hgv, fun b hb => Own.put_at hb, h.iN, h.nl, h.bnd, h.mb⟩, le, fun b hb => ?_, ?_, fun b hb => ?_, hu3⟩
  · obtain ⟨j, hj⟩ := List.getElem?_of_mem he
    have hgE := (h.ent e he).1
    by_cases hbk : ∃ b, e.v.ownBlock = some b ∧ v.ownBlock = some b
    · obtain ⟨b, hb, hvb⟩ := hbk
      have h3 := h.curT b hvb
      have hmn : e.m = m ∧ e.n ≤ n := by
        rcases h.entT j e b hj hb with h4 | ⟨_, h4 | h4⟩
        · rw [h3] at h4; simp at h4; omega
        · rw [h3] at h4; simp at h4
        · exact h4.2
      rcases r with ⟨g1, cap, rfl, rfl, hga, _⟩ | ⟨g1, cap, rfl, hg1, hga, hbe⟩
      · have hgb : g1 = b := Option.some.inj hvb
        subst hgb
        rcases hgE with ⟨hz, hz2⟩ | ⟨g2, cap2, hz, hge⟩
        · rw [hz] at hb; cases hb
        · have : g2 = g1 := by rw [hz] at hb; exact Option.some.inj hb
          subst this
          have hcur := (GenAt.of_gv h.cur).1
          have hcc := gen_len hge hcur
          subst hcc
          refine .inr ⟨g2, cap2, hz, ?_⟩
          rw [hmn.1]
          have h5 : mkL el m n ++ [el m n] = mkL el m e.n ++ (mkL el m (n + 1)).drop e.n := by
            rw [← mkL_succ]
            conv => lhs; rw [← List.take_append_drop e.n (mkL el m (n + 1))]
            rw [mkL_take el m (by omega)]
          rw [h5] at hga
          exact gen_cut hga
      · exact hgE.upd (S := none_) (Upd.of_below (below_next u4 hbe)) (fun _ _ h => h)
    · exact hgE.upd hu (fun b hb hvb => hbk ⟨b, hb, hvb⟩)
  · rcases h.entT j e b hj hb with h4 | ⟨h4, h5 | h5⟩
    · exact .inl ⟨h4.1, h4.2.1, le _ _ h4.2.2⟩
    · exact .inr ⟨h4, .inl (le _ _ h5)⟩
    · exact .inr ⟨h4, .inr ⟨le _ _ h5.1, h5.2.1, by omega⟩⟩
  · rcases Own.put_ne hb with hb | hb
    · have := hlt b hb; omega
    · exact r.gv.lt b hb
  · have : v'.ownBlock ≠ some g := fun hb => by
      rcases r.block g hb with h1 | h1
      · have := h.curT g h1; rw [hg] at this; cases this
      · omega
    rw [Own.put, if_neg this]; exact hg
  · rcases Own.put_ne hb with hb | hb
    · exact .inl hb
    · rcases r.block b hb with h1 | h1
      · exact .inl (by rw [h.curT b h1]; simp)
      · exact .inr (by omega)
/-- The list, as it is now, is kept. -/
theorem Gr.push {k : Nat} {Tt Te : TypeId} {el : Nat → Nat → Value} {w3 w4 w5 w6 w7 w8 : World} {ow : Own} {vT vo v7 v9 x6 : Value} {es : List Ent} {N0 i : Nat} {v : Value} {m n p U j0 : Nat} (h : Gr k Tt Te el w3 ow vT vo es N0 i v m n p U) (hlt : ∀ b, ow b ≠ none → b < w3.heap.size) {g : Nat} (hg : ow g = none) (hgl : g < w3.heap.size) (hn : n ≤ 6000000)
    (u4 : Below w3.heap.size w3 w4) (r5 : Grew Tt w4 w5 vT v7 (vsOf es) v) (e6 : w6 = w5.setCell ⟨g, j0, none⟩ x6) (u67 : Below w6.heap.size w6 w7) (r8 : Grew 3 w7 w8 vo v9 (msOf es) (.int .i64 (m : Int))) :
    ∃ ow', Gr k Tt Te el w8 ow' v7 v9 (es ++ [⟨v, m, n⟩]) N0 i v m n (p + 1) U ∧ ow.le ow' ∧ (∀ b, ow' b ≠ none → b < w8.heap.size) ∧ ow' g = none ∧ (∀ b, ow' b ≠ none → ow b ≠ none ∨ w3.heap.size ≤ b) ∧ Upd (fun b => b = g ∨ ow b = some (k, 0) ∨ ow b = some (k, 1)) w3 w8 := by
  obtain ⟨ow', t1, t2, t3, t4, le, lt8, ng8, own8, hu⟩ := tab_push h.tabT h.ofT hlt hg hgl u4 r5 e6 u67 r8
  have hS : ∀ b t, ow b = some (k, t) → 2 ≤ t → ¬ (fun b => b = g ∨ ow b = some (k, 0) ∨ ow b = some (k, 1)) b := by
    rintro b t hb ht (rfl | h1 | h1)
    · rw [hg] at hb; cases hb
    · rw [hb] at h1; simp at h1; omega
    · rw [hb] at h1; simp at h1; omega
  have hcur := h.cur.upd hu (fun b hb => hS b _ (h.curT b hb) (by decide))
  refine ⟨ow', ⟨by rw [vsOf_snoc]; exact t1, by rw [msOf_snoc]; exact t2, t3, t4, fun e he => ?_, fun j e b hj hb => ?_, fun j e hj h1 h2 => ?_, hcur, fun b hb => le _ _ (h.curT b hb), h.iN, by rw [List.length_append]; have := h.nl; omega, by have := h.bnd; have := h.nl; rw [List.length_append, List.length_singleton]; omega, h.mb⟩, le, lt8, ng8, own8, hu⟩
  · rcases List.mem_append.1 he with he | he
    · refine ⟨(h.ent e he).1.upd hu (fun b hb => ?_), (h.ent e he).2⟩
      obtain ⟨j, hj⟩ := List.getElem?_of_mem he
      rcases h.entT j e b hj hb with h4 | ⟨_, h4 | h4⟩
      · exact hS b _ h4.2.2 (by omega)
      · exact hS b _ h4 (by decide)
      · exact hS b _ h4.1 (by decide)
    · rw [List.mem_singleton] at he; subst he
      exact ⟨hcur, hn, h.mb⟩
  · by_cases hjl : j < es.length
    · rw [List.getElem?_append_left hjl] at hj
      rcases h.entT j e b hj hb with h4 | ⟨h3, h4 | h4⟩
      · exact .inl ⟨h4.1, h4.2.1, le _ _ h4.2.2⟩
      · exact .inr ⟨h3, .inl (le _ _ h4)⟩
      · exact .inr ⟨h3, .inr ⟨le _ _ h4.1, h4.2⟩⟩
    · have hl := (List.getElem?_eq_some_iff.1 hj).1
      rw [List.length_append, List.length_singleton] at hl
      have hje : j = es.length := by omega
      subst hje
      rw [List.getElem?_append_right (Nat.le_refl _), Nat.sub_self] at hj
      have hj : (⟨v, m, n⟩ : Ent) = e := by simpa using hj
      subst hj
      have := h.nl
      exact .inr ⟨by omega, .inr ⟨le _ _ (h.curT b hb), rfl, Nat.le_refl _⟩⟩
  · have hjl : j < es.length := by have := h.nl; omega
    rw [List.getElem?_append_left hjl] at hj
    exact h.short j e hj h1 h2
theorem Gr.moveU {k : Nat} {Tt Te : TypeId} {el : Nat → Nat → Value} {S : Nat → Prop} {W W' : World} {ow : Own} {vT vo : Value} {es : List Ent} {N0 i : Nat} {v : Value} {m n p U : Nat} (h : Gr k Tt Te el W ow vT vo es N0 i v m n p U) (hu : Upd S W W') (hS : ∀ b, ow b ≠ none → ¬ S b) : Gr k Tt Te el W' ow vT vo es N0 i v m n p U := by
  refine ⟨h.tab.upd hu (fun b hb => hS b (by rw [h.tabT b hb]; simp)), h.of_.upd hu (fun b hb => hS b (by rw [h.ofT b hb]; simp)), h.tabT, h.ofT, fun e he => ⟨(h.ent e he).1.upd hu (fun b hb => ?_), (h.ent e he).2⟩, h.entT, h.short, h.cur.upd hu (fun b hb => hS b (by rw [h.curT b hb]; simp)), h.curT, h.iN, h.nl, h.bnd, h.mb⟩
  obtain ⟨j, hj⟩ := List.getElem?_of_mem he
  rcases h.entT j e b hj hb with h4 | ⟨_, h4 | h4⟩
  · exact hS b (by rw [h4.2.2]; simp)
  · exact hS b (by rw [h4]; simp)
  · exact hS b (by rw [h4.1]; simp)
theorem Tg.moveU {k : Nat} {Tt Te : TypeId} {el : Nat → Nat → Value} {S : Nat → Prop} {W W' : World} {ow : Own} {vT vo : Value} {es : List Ent} {N0 i U : Nat} (h : Tg k Tt Te el W ow vT vo es N0 i U) (hu : Upd S W W') (hS : ∀ b, ow b ≠ none → ¬ S b) : Tg k Tt Te el W' ow vT vo es N0 i U := by
  refine ⟨h.tab.upd hu (fun b hb => hS b (by rw [h.tabT b hb]; simp)), h.of_.upd hu (fun b hb => hS b (by rw [h.ofT b hb]; simp)), h.tabT, h.ofT, fun e he => ⟨(h.ent e he).1.upd hu (fun b hb => ?_), (h.ent e he).2⟩, h.entT, h.short, h.iN, h.nl, h.bnd⟩
  obtain ⟨j, hj⟩ := List.getElem?_of_mem he
  exact hS b (by rw [h.entT j e b hj hb]; simp)
/-- The table, as a call on the book finds it. -/
theorem Tg.start {k : Nat} {Tt Te : TypeId} {el : Nat → Nat → Value} {W : World} {ow : Own} {vT vo : Value} {es : List Ent} {a U : Nat} (h : Tb k Tt Te el W ow vT vo es a U) : Tg k Tt Te el W ow vT vo es es.length a U := by
  refine ⟨h.tab, h.of_, h.tabT, h.ofT, h.ent, fun j e b hj hb => ?_, fun j e hj h1 _ => h.short j e hj h1, h.al, Nat.le_refl _, by have := h.bnd; omega⟩
  rw [h.entT j e b hj hb]
  have hl := (List.getElem?_eq_some_iff.1 hj).1
  by_cases h1 : a ≤ j
  · rw [if_pos h1, if_pos ⟨h1, hl⟩]
  · rw [if_neg h1, if_neg (fun e => h1 e.1)]
theorem Tg.done {k : Nat} {Tt Te : TypeId} {el : Nat → Nat → Value} {W : World} {ow : Own} {vT vo : Value} {es : List Ent} {N0 U : Nat} (h : Tg k Tt Te el W ow vT vo es N0 N0 U) : Tb k Tt Te el W ow vT vo es es.length U := by
  have := h.bnd
  have := h.nl
  refine ⟨h.tab, h.of_, h.tabT, h.ofT, h.ent, fun j e b hj hb => ?_, Nat.le_refl _, by omega, fun j e hj h1 => by have := (List.getElem?_eq_some_iff.1 hj).1; omega⟩
  rw [h.entT j e b hj hb]
  have hl := (List.getElem?_eq_some_iff.1 hj).1
  rw [if_neg (by omega), if_neg (by omega)]
/-- One list's growing begins: its block is its own. -/
theorem Tg.begin_ {k : Nat} {Tt Te : TypeId} {el : Nat → Nat → Value} {W : World} {ow : Own} {vT vo : Value} {es : List Ent} {N0 i U : Nat} (h : Tg k Tt Te el W ow vT vo es N0 i U) (hi : i < N0) {e : Ent} (he : es[i]? = some e) :
    Gr k Tt Te el W (ow.put e.v (k, 3)) vT vo es N0 i e.v e.m e.n 0 U ∧ Own.leK k ow (ow.put e.v (k, 3)) ∧ (∀ b, ow.put e.v (k, 3) b ≠ none ↔ ow b ≠ none) ∧ e.n ≤ 5900000 := by
  have htag : ∀ b, e.v.ownBlock = some b → ow b = some (k, 4 + i) := fun b hb => by
    rw [h.entT i e b he hb, if_pos ⟨Nat.le_refl _, hi⟩]
  have other : ∀ b t, ow b = some (k, t) → t ≠ 4 + i → (ow.put e.v (k, 3)) b = some (k, t) := fun b t hb ht => by
    unfold Own.put
    rw [if_neg (fun hv => ?_)]
    · exact hb
    · have := htag b hv
      rw [hb] at this
      simp at this
      exact ht this
  refine ⟨⟨h.tab, h.of_, fun b hb => other b _ (h.tabT b hb) (by omega), fun b hb => other b _ (h.ofT b hb) (by omega), h.ent, fun j x b hj hb => ?_, fun j x hj h1 h2 => h.short j x hj (Nat.le_of_lt h1) h2, (h.ent e (List.mem_of_getElem? he)).1, fun b hb => Own.put_at hb, hi, h.nl, by have := h.bnd; omega, (h.ent e (List.mem_of_getElem? he)).2.2⟩, fun b t hb ht => ?_, fun b => ?_, h.short i e he (Nat.le_refl _) hi⟩
  · have h1 := h.entT j x b hj hb
    by_cases hij : j = i
    · subst hij
      have hx : x = e := Option.some.inj (hj.symm.trans he)
      subst hx
      exact .inr ⟨by omega, .inr ⟨Own.put_at hb, rfl, Nat.le_refl _⟩⟩
    · by_cases hc : i < j ∧ j < N0
      · rw [if_pos ⟨Nat.le_of_lt hc.1, hc.2⟩] at h1
        exact .inl ⟨hc.1, hc.2, other b _ h1 (by omega)⟩
      · rw [if_neg (by omega)] at h1
        exact .inr ⟨hc, .inl (other b _ h1 (by omega))⟩
  · unfold Own.put
    rw [if_neg (fun hv => ?_)]
    · exact hb
    · have := htag b hv
      rw [hb] at this
      simp at this
      rw [this] at ht
      exact ht rfl
  · unfold Own.put
    by_cases hv : e.v.ownBlock = some b
    · rw [if_pos hv, htag b hv]; simp
    · rw [if_neg hv]
def Own.old (k : Nat) (ow : Own) : Own := fun b => if ow b = some (k, 3) then some (k, 2) else ow b
/-- ... and ends. -/
theorem Gr.finish {k : Nat} {Tt Te : TypeId} {el : Nat → Nat → Value} {W : World} {ow : Own} {vT vo : Value} {es : List Ent} {N0 i : Nat} {v : Value} {m n p U : Nat} (h : Gr k Tt Te el W ow vT vo es N0 i v m n p U) (hp : p ≤ 9) :
    Tg k Tt Te el W (Own.old k ow) vT vo es N0 (i + 1) U ∧ Own.leK k ow (Own.old k ow) ∧ (∀ b, Own.old k ow b ≠ none ↔ ow b ≠ none) := by
  have other : ∀ b t, ow b = some (k, t) → t ≠ 3 → Own.old k ow b = some (k, t) := fun b t hb ht => by
    unfold Own.old
    rw [if_neg (fun hv => ?_)]
    · exact hb
    · rw [hb] at hv; simp at hv; exact ht hv
  have hiN := h.iN
  refine ⟨⟨h.tab, h.of_, fun b hb => other b _ (h.tabT b hb) (by decide), fun b hb => other b _ (h.ofT b hb) (by decide), h.ent, fun j e b hj hb => ?_, fun j e hj h1 h2 => h.short j e hj (by omega) h2, by omega, h.nl, by have := h.bnd; omega⟩, fun b t hb ht => ?_, fun b => ?_⟩
  · rcases h.entT j e b hj hb with h4 | ⟨h3, h4 | h4⟩
    · rw [if_pos ⟨by omega, h4.2.1⟩]
      exact other b _ h4.2.2 (by omega)
    · rw [if_neg (by omega)]
      exact other b _ h4 (by decide)
    · rw [if_neg (by omega)]
      unfold Own.old
      rw [if_pos h4.1]
  · unfold Own.old
    rw [if_neg (fun hv => ?_)]
    · exact hb
    · rw [hb] at hv; simp at hv; rw [hv] at ht; exact ht rfl
  · unfold Own.old
    by_cases hv : ow b = some (k, 3)
    · rw [if_pos hv, hv]; simp
    · rw [if_neg hv]
end Go.Proofs.Ytgngpbcbnfmoiaa.BokG
