/- Book.Bytes walked. -/
import Derived.Test.YtgngpbcbnfmoiaaBokT
namespace Go.Proofs.Ytgngpbcbnfmoiaa.BokB
open Go Go.RowKit Go.Proofs.YtgngpbcbnfmoiaaW.PrintWords Go.Proofs.YtgngpbcbnfmoiaaW.PrintLast Go.Proofs.YtgngpbcbnfmoiaaW.PrintMore Go.Proofs.Ytgngpbcbnfmoiaa.PF Go.Proofs.Ytgngpbcbnfmoiaa.RowU Go.Proofs.Ytgngpbcbnfmoiaa.ArS Go.Proofs.Ytgngpbcbnfmoiaa.ArM Go.Proofs.Ytgngpbcbnfmoiaa.GenM Go.Proofs.Ytgngpbcbnfmoiaa.GenN Go.Proofs.Ytgngpbcbnfmoiaa.BokA Go.Proofs.Ytgngpbcbnfmoiaa.BokT
set_option linter.unusedVariables false
set_option maxRecDepth 100000

/-- The first k elements of a list are marked. -/
def half (el : Nat → Nat → Value) (m : Nat) (l : List Value) (k : Nat) : List Value := mkL el m k ++ l.drop k
theorem half_len (el : Nat → Nat → Value) (m : Nat) (l : List Value) {k : Nat} (h : k ≤ l.length) : (half el m l k).length = l.length := by
  unfold half; rw [List.length_append, mkL_len, List.length_drop]; omega
theorem half_set (el : Nat → Nat → Value) (m : Nat) (l : List Value) {k : Nat} (h : k < l.length) : (half el m l k).set k (el m k) = half el m l (k + 1) := by
  unfold half
  rw [List.set_append_right _ _ (by rw [mkL_len]; exact Nat.le_refl _), mkL_len, Nat.sub_self, mkL_succ, List.append_assoc]
  congr 1
  rw [← List.getElem_cons_drop (h := h)]
  rfl
theorem half_all (el : Nat → Nat → Value) (m : Nat) (l : List Value) : half el m l l.length = mkL el m l.length := by
  unfold half; rw [List.drop_length, List.append_nil]
theorem half_none (el : Nat → Nat → Value) (m : Nat) (l : List Value) : half el m l 0 = l := by simp [half, mkL]
def vB_ (v : Value) : Nat → Prop := fun b => v.ownBlock = some b
theorem cnt_fit {el : Nat → Nat → Value} {k : Nat} {Tt Te : TypeId} {W : World} {ow : Own} {v vo : Value} {es : List Ent} {a U : Nat} (h : Tb k Tt Te el W ow v vo es a U) (hU : U ≤ 16777216) : es.length ≤ 140000 := by
  have h1 := h.bnd
  have h2 := h.al
  omega
/-- The list is written full, and is a new entry of the table. -/
theorem push_step {k : Nat} {Tt Te : TypeId} {el : Nat → Nat → Value} {w3 w4 w5 w6 w7 w8 : World} {ow : Own} {g j0 : Nat} {v vT vO v7 v9 x6 : Value} {es : List Ent} {a U U' m n : Nat}
    (h : Tb k Tt Te el w3 ow vT vO es a U) (hlt : ∀ b, ow b ≠ none → b < w3.heap.size) (hg : ow g = none) (hgl : g < w3.heap.size) (hv : GV Te w3 v (mkL el m n)) (hvn : ∀ b, v.ownBlock = some b → ow b = none ∧ b ≠ g) (hn : n ≤ 5900000) (hm : m ≤ 1000000000000000) (hU : U + 1200 ≤ U')
    (u4 : Below w3.heap.size w3 w4) (r5 : Grew Tt w4 w5 vT v7 (vsOf es) v) (e6 : w6 = w5.setCell ⟨g, j0, none⟩ x6) (u67 : Below w6.heap.size w6 w7) (r8 : Grew 3 w7 w8 vO v9 (msOf es) (.int .i64 (m : Int))) :
    ∃ ow', Tb k Tt Te el w8 ow' v7 v9 (es ++ [⟨v, m, n⟩]) a U' ∧ ow.le ow' ∧ (∀ b, ow' b ≠ none → b < w8.heap.size) ∧ ow' g = none ∧ (∀ b, ow' b ≠ none → ow b ≠ none ∨ vB_ v b ∨ w3.heap.size ≤ b) ∧ Upd (fun b => b = g ∨ ow b = some (k, 0) ∨ ow b = some (k, 1)) w3 w8 := by
  have s4 := u4.size
  have u35 : Upd (fun b => ow b = some (k, 0)) w3 w5 := (Upd.of_below u4).trans (r5.upd.mono (fun b hb => h.tabT b hb))
  have u56 : Upd (fun b => b = g) w5 w6 := by rw [e6]; exact Upd.put (S := fun b => b = g) (Upd.refl _ w5) (.inl rfl) _ _
  have s35 := u35.size
  have s56 := u56.size
  have s67 := u67.size
  have s78 := r8.upd.size
  have b7 : ∀ b, v7.ownBlock = some b → ow b = some (k, 0) ∨ (ow b = none ∧ w3.heap.size ≤ b ∧ b < w5.heap.size) := fun b hb => by
    rcases r5.block b hb with h1 | h1
    · exact .inl (h.tabT b h1)
    · exact .inr ⟨Classical.byContradiction fun hne => by have := hlt b hne; omega, by omega, r5.gv.lt b hb⟩
  have b9 : ∀ b, v9.ownBlock = some b → ow b = some (k, 1) ∨ (ow b = none ∧ w5.heap.size ≤ b ∧ b < w8.heap.size) := fun b hb => by
    rcases r8.block b hb with h1 | h1
    · exact .inl (h.ofT b h1)
    · exact .inr ⟨Classical.byContradiction fun hne => by have := hlt b hne; omega, by omega, r8.gv.lt b hb⟩
  have hvl := fun b hb => hv.lt b hb
  have n7v : ∀ b, v7.ownBlock = some b → v.ownBlock ≠ some b := fun b hb hv' => by
    have h1 := (hvn b hv').1
    have h2 := hvl b hv'
    rcases b7 b hb with h3 | h3
    · rw [h1] at h3; cases h3
    · omega
  have n9v : ∀ b, v9.ownBlock = some b → v.ownBlock ≠ some b := fun b hb hv' => by
    have h1 := (hvn b hv').1
    have h2 := hvl b hv'
    rcases b9 b hb with h3 | h3
    · rw [h1] at h3; cases h3
    · omega
  have n97 : ∀ b, v9.ownBlock = some b → v7.ownBlock ≠ some b := fun b hb h7 => by
    rcases b9 b hb with h3 | h3 <;> rcases b7 b h7 with h4 | h4
    · rw [h3] at h4; simp at h4
    · rw [h3] at h4; simp at h4
    · rw [h4] at h3; simp at h3
    · omega
  have n7g : v7.ownBlock ≠ some g := fun hb => by
    rcases b7 g hb with h3 | h3
    · rw [hg] at h3; cases h3
    · omega
  have n9g : v9.ownBlock ≠ some g := fun hb => by
    rcases b9 g hb with h3 | h3
    · rw [hg] at h3; cases h3
    · omega
  have nvg : v.ownBlock ≠ some g := fun hb => (hvn g hb).2 rfl
  have hu : Upd (fun b => b = g ∨ ow b = some (k, 0) ∨ ow b = some (k, 1)) w3 w8 :=
    (((u35.mono (fun b hb => .inr (.inl hb))).trans (u56.mono (fun b hb => .inl hb))).trans (Upd.of_below u67)).trans (r8.upd.mono (fun b hb => .inr (.inr (h.ofT b hb))))
  have e1 : ∀ b, v7.ownBlock = some b → (ow.put v (k, 4 + es.length)) b = none ∨ (ow.put v (k, 4 + es.length)) b = some (k, 0) := fun b hb => by
    unfold Own.put
    rw [if_neg (n7v b hb)]
    rcases b7 b hb with h3 | h3
    · exact .inr h3
    · exact .inl h3.1
  have e2 : ∀ b, v9.ownBlock = some b → ((ow.put v (k, 4 + es.length)).put v7 (k, 0)) b = none ∨ ((ow.put v (k, 4 + es.length)).put v7 (k, 0)) b = some (k, 1) := fun b hb => by
    unfold Own.put
    rw [if_neg (n97 b hb), if_neg (n9v b hb)]
    rcases b9 b hb with h3 | h3
    · exact .inr h3
    · exact .inl h3.1
  have le1 : ow.le (ow.put v (k, 4 + es.length)) := Own.put_le fun b hb => .inl (hvn b hb).1
  have le3 := (le1.trans (Own.put_le e1)).trans (Own.put_le e2)
  refine ⟨((ow.put v (k, 4 + es.length)).put v7 (k, 0)).put v9 (k, 1), ?_, le3, ?_, ?_, ?_, hu⟩
  · refine h.push hu (fun b t hb ht => ?_) le3 ?_ r8.gv (fun b hb => ?_) (fun b hb => Own.put_at hb) ?_ hn hm (fun b hb => ?_) hU
    · rintro (rfl | h1 | h1)
      · rw [hg] at hb; cases hb
      · rw [hb] at h1; simp at h1; omega
      · rw [hb] at h1; simp at h1; omega
    · have u58 : Upd (fun b => b = g ∨ vO.ownBlock = some b) w5 w8 := ((u56.mono (fun b hb => .inl hb)).trans (Upd.of_below u67)).trans (r8.upd.mono (fun b hb => .inr hb))
      refine r5.gv.upd u58 (fun b hb => ?_)
      rintro (rfl | h1)
      · exact n7g hb
      · have h2 := h.ofT b h1
        rcases b7 b hb with h3 | h3
        · rw [h2] at h3; simp at h3
        · rw [h2] at h3; simp at h3
    · show (((ow.put v (k, 4 + es.length)).put v7 (k, 0)).put v9 (k, 1)) b = _
      rw [Own.put, if_neg (fun h9 => n97 b h9 hb)]
      exact Own.put_at hb
    · refine hv.upd hu (fun b hb => ?_)
      have h1 := hvn b hb
      rintro (rfl | h2 | h2)
      · exact h1.2 rfl
      · rw [h1.1] at h2; cases h2
      · rw [h1.1] at h2; cases h2
    · rw [Own.put, if_neg (fun h9 => n9v b h9 hb), Own.put, if_neg (fun h7 => n7v b h7 hb)]
      exact Own.put_at hb
  · intro b hb
    rcases Own.put_ne hb with hb | hb
    · rcases Own.put_ne hb with hb | hb
      · rcases Own.put_ne hb with hb | hb
        · have := hlt b hb; omega
        · have := hvl b hb; omega
      · have := r5.gv.lt b hb; omega
    · exact r8.gv.lt b hb
  · rw [Own.put, if_neg n9g, Own.put, if_neg n7g, Own.put, if_neg nvg]; exact hg
  · intro b hb
    rcases Own.put_ne hb with hb | hb
    · rcases Own.put_ne hb with hb | hb
      · rcases Own.put_ne hb with hb | hb
        · exact .inl hb
        · exact .inr (.inl hb)
      · rcases b7 b hb with h3 | h3
        · exact .inl (by rw [h3]; simp)
        · exact .inr (.inr h3.2.1)
    · rcases b9 b hb with h3 | h3
      · exact .inl (by rw [h3]; simp)
      · exact .inr (.inr (by omega))
theorem _root_.Go.Proofs.Ytgngpbcbnfmoiaa.BokA.Hd.congr {W : World} {g off : Nat} {c c' : Nat → Value} (h : Hd W g off c) (hc : ∀ j, j < 33 → c j = c' j) : Hd W g off c' := ⟨h.blk, fun j hj => by rw [← hc j hj]; exact h.cell j hj⟩
theorem keep_put {W W' : World} {g off k : Nat} {v : Value} {c : Nat → Value} (h : Hd W g off c) (hk : k < 33) (e : W' = W.setCell ⟨g, off + k, none⟩ v) : ∀ j, (j < off ∨ off + 33 ≤ j) → W'.cell? ⟨g, j, none⟩ = W.cell? ⟨g, j, none⟩ := by
  intro j hj
  rw [e]
  exact set_keep h.blk (by omega)
theorem keep_upd {S : Nat → Prop} {W W' : World} {g off : Nat} {c : Nat → Value} (h : Hd W g off c) (hu : Upd S W W') (hg : ¬ S g) : ∀ j, (j < off ∨ off + 33 ≤ j) → W'.cell? ⟨g, j, none⟩ = W.cell? ⟨g, j, none⟩ := fun j _ => upd_keep h.blk hu hg
theorem put_upd (W : World) (g k : Nat) (v : Value) : Upd (fun b => b = g) W (W.setCell ⟨g, k, none⟩ v) := Upd.put (S := fun b => b = g) (Upd.refl _ W) (.inl rfl) _ _
/-- The turn has gone on, the list is written full. -/
structure Full (W w3 : World) (g off : Nat) (ow : Own) (v : Value) (el : Nat → Nat → Value) (Te : TypeId) (n m : Nat) (c : Nat → Value) : Prop where
  hd : Hd w3 g off c
  gv : GV Te w3 v (mkL el m n)
  upd : Upd (fun b => b = g ∨ v.ownBlock = some b) W w3
  keep : ∀ j, (j < off ∨ off + 33 ≤ j) → w3.cell? ⟨g, j, none⟩ = W.cell? ⟨g, j, none⟩
theorem bytes_end {W w3 w4 w5 w6 w7 w8 w9 : World} {g off : Nat} {ow : Own} {vB vBo : Value} {eB : List Ent} {aB : Nat} {vW vWo : Value} {eW : List Ent} {aW turn done used used' n : Nat} {v v7 v9 : Value}
    (h : Bk W g off ow vB vBo eB aB vW vWo eW aW turn done used) (hvn : ∀ b, v.ownBlock = some b → ow b = none ∧ b ≠ g) (hn : n ≤ 5900000) (hm : turn + 1 ≤ 1000000000000000) (hU : used + 1200 ≤ used') (hU2 : used' ≤ 16777216)
    (hF : Full W w3 g off ow v elB 5 n (turn + 1) (bkC vB vBo aB vW vWo aW (turn + 1) done used'))
    (u4 : Below w3.heap.size w3 w4) (r5 : Grew 22 w4 w5 vB v7 (vsOf eB) v) (e6 : w6 = w5.setCell ⟨g, off + 0, none⟩ v7) (u67 : Below w6.heap.size w6 w7) (r8 : Grew 3 w7 w8 vBo v9 (msOf eB) (.int .i64 ((turn + 1 : Nat) : Int))) (e9 : w9 = w8.setCell ⟨g, off + 1, none⟩ v9) :
    ∃ ow', Bk w9 g off ow' v7 v9 (eB ++ [⟨v, turn + 1, n⟩]) aB vW vWo eW aW (turn + 1) done used' ∧ BkS W w9 g off ow ow' (vB_ v) := by
  have hnS : ∀ b t, ow b = some t → ¬ (b = g ∨ v.ownBlock = some b) := by
    rintro b t hb (rfl | h1)
    · rw [h.ng] at hb; cases hb
    · rw [(hvn b h1).1] at hb; cases hb
  have tB3 := h.tB.move hF.upd (fun b t hb => hnS b _ hb) (Own.le.refl _) (Nat.le_refl _)
  have hlt3 : ∀ b, ow b ≠ none → b < w3.heap.size := fun b hb => Nat.lt_of_lt_of_le (h.lt b hb) hF.upd.size
  have hgl : g < w3.heap.size := by obtain ⟨cur, T, hb⟩ := hF.hd.blk; exact cell_lt hb
  obtain ⟨ow', t8, le, lt8, ng8, own8, u38⟩ := push_step tB3 hlt3 h.ng hgl hF.gv hvn hn hm hU u4 r5 e6 u67 r8
  have s38 := u38.size
  have nS : ¬ (fun b => ow b = some (0, 0)) g := by show ¬ ow g = _; rw [h.ng]; simp
  have u35 : Upd (fun b => ow b = some (0, 0)) w3 w5 := (Upd.of_below u4).trans (r5.upd.mono (fun b hb => h.tB.tabT b hb))
  have hd5 := hF.hd.upd u35 nS
  have k5 := keep_upd hF.hd u35 nS
  have hd6 := hd5.put 0 (by omega) v7
  rw [← e6] at hd6
  have k6 := keep_put hd5 (by omega) e6
  have u68 : Upd (fun b => vBo.ownBlock = some b) w6 w8 := (Upd.of_below u67).trans r8.upd
  have nS2 : ¬ (fun b => vBo.ownBlock = some b) g := fun hb => by have := h.tB.ofT g hb; rw [h.ng] at this; cases this
  have hd8 := hd6.upd u68 nS2
  have k8 := keep_upd hd6 u68 nS2
  have hd9 := hd8.put 1 (by omega) v9
  rw [← e9] at hd9
  have k9 := keep_put hd8 (by omega) e9
  have u89 : Upd (fun b => b = g) w8 w9 := by rw [e9]; exact put_upd _ _ _ _
  have hg9 : ∀ b, ow' b ≠ none → ¬ (fun b => b = g) b := fun b hb e => by have e : b = g := e; subst e; exact hb ng8
  refine ⟨ow', ⟨hd9.congr (fun j hj => ?_), t8.move u89 (fun b t hb => hg9 b (by rw [hb]; simp)) (Own.le.refl _) (Nat.le_refl _), ?_, fun b hb => Nat.lt_of_lt_of_le (lt8 b hb) u89.size, ng8, hU2⟩, ⟨?_, fun b hb => ?_, fun j hj => ?_⟩⟩
  · unfold putC bkC
    by_cases h1 : j = 1
    · subst h1; simp
    · by_cases h0 : j = 0
      · subst h0; simp
      · simp [h1, h0]
  · have u : Upd (fun b => (b = g ∨ v.ownBlock = some b) ∨ ow b = some (0, 0) ∨ ow b = some (0, 1)) W w9 :=
      ((hF.upd.mono (fun b hb => .inl hb)).trans (u38.mono (fun b hb => by rcases hb with h1 | h1; exact .inl (.inl h1); exact .inr h1))).trans (u89.mono (fun b hb => .inl (.inl hb)))
    refine h.tW.move u (fun b t hb => ?_) le (by omega)
    rintro (h1 | h1 | h1)
    · exact hnS b _ hb h1
    · rw [hb] at h1; simp at h1
    · rw [hb] at h1; simp at h1
  · refine (hF.upd.mono (fun b hb => ?_)).trans ((u38.mono (fun b hb => ?_)).trans (u89.mono (fun b hb => .inl hb)))
    · rcases hb with h1 | h1
      · exact .inl h1
      · exact .inr (.inr h1)
    · rcases hb with h1 | h1 | h1
      · exact .inl h1
      · exact .inr (.inl (by rw [h1]; simp))
      · exact .inr (.inl (by rw [h1]; simp))
  · rcases own8 b hb with h1 | h1 | h1
    · exact .inl h1
    · exact .inr (.inl h1)
    · exact .inr (.inr (Nat.le_trans hF.upd.size h1))
  · rw [k9 j hj, k8 j hj, k6 j hj, k5 j hj, hF.keep j hj]
theorem words_end {W w3 w4 w5 w6 w7 w8 w9 : World} {g off : Nat} {ow : Own} {vB vBo : Value} {eB : List Ent} {aB : Nat} {vW vWo : Value} {eW : List Ent} {aW turn done used used' n : Nat} {v v7 v9 : Value}
    (h : Bk W g off ow vB vBo eB aB vW vWo eW aW turn done used) (hvn : ∀ b, v.ownBlock = some b → ow b = none ∧ b ≠ g) (hn : n ≤ 5900000) (hm : turn + 1 ≤ 1000000000000000) (hU : used + 1200 ≤ used') (hU2 : used' ≤ 16777216)
    (hF : Full W w3 g off ow v elW 23 n (turn + 1) (bkC vB vBo aB vW vWo aW (turn + 1) done used'))
    (u4 : Below w3.heap.size w3 w4) (r5 : Grew 43 w4 w5 vW v7 (vsOf eW) v) (e6 : w6 = w5.setCell ⟨g, off + 6, none⟩ v7) (u67 : Below w6.heap.size w6 w7) (r8 : Grew 3 w7 w8 vWo v9 (msOf eW) (.int .i64 ((turn + 1 : Nat) : Int))) (e9 : w9 = w8.setCell ⟨g, off + 7, none⟩ v9) :
    ∃ ow', Bk w9 g off ow' vB vBo eB aB v7 v9 (eW ++ [⟨v, turn + 1, n⟩]) aW (turn + 1) done used' ∧ BkS W w9 g off ow ow' (vB_ v) := by
  have hnS : ∀ b t, ow b = some t → ¬ (b = g ∨ v.ownBlock = some b) := by
    rintro b t hb (rfl | h1)
    · rw [h.ng] at hb; cases hb
    · rw [(hvn b h1).1] at hb; cases hb
  have tW3 := h.tW.move hF.upd (fun b t hb => hnS b _ hb) (Own.le.refl _) (Nat.le_refl _)
  have hlt3 : ∀ b, ow b ≠ none → b < w3.heap.size := fun b hb => Nat.lt_of_lt_of_le (h.lt b hb) hF.upd.size
  have hgl : g < w3.heap.size := by obtain ⟨cur, T, hb⟩ := hF.hd.blk; exact cell_lt hb
  obtain ⟨ow', t8, le, lt8, ng8, own8, u38⟩ := push_step tW3 hlt3 h.ng hgl hF.gv hvn hn hm hU u4 r5 e6 u67 r8
  have s38 := u38.size
  have nS : ¬ (fun b => ow b = some (2, 0)) g := by show ¬ ow g = _; rw [h.ng]; simp
  have u35 : Upd (fun b => ow b = some (2, 0)) w3 w5 := (Upd.of_below u4).trans (r5.upd.mono (fun b hb => h.tW.tabT b hb))
  have hd5 := hF.hd.upd u35 nS
  have k5 := keep_upd hF.hd u35 nS
  have hd6 := hd5.put 6 (by omega) v7
  rw [← e6] at hd6
  have k6 := keep_put hd5 (by omega) e6
  have u68 : Upd (fun b => vWo.ownBlock = some b) w6 w8 := (Upd.of_below u67).trans r8.upd
  have nS2 : ¬ (fun b => vWo.ownBlock = some b) g := fun hb => by have := h.tW.ofT g hb; rw [h.ng] at this; cases this
  have hd8 := hd6.upd u68 nS2
  have k8 := keep_upd hd6 u68 nS2
  have hd9 := hd8.put 7 (by omega) v9
  rw [← e9] at hd9
  have k9 := keep_put hd8 (by omega) e9
  have u89 : Upd (fun b => b = g) w8 w9 := by rw [e9]; exact put_upd _ _ _ _
  have hg9 : ∀ b, ow' b ≠ none → ¬ (fun b => b = g) b := fun b hb e => by have e : b = g := e; subst e; exact hb ng8
  refine ⟨ow', ⟨hd9.congr (fun j hj => ?_), ?_, t8.move u89 (fun b t hb => hg9 b (by rw [hb]; simp)) (Own.le.refl _) (Nat.le_refl _), fun b hb => Nat.lt_of_lt_of_le (lt8 b hb) u89.size, ng8, hU2⟩, ⟨?_, fun b hb => ?_, fun j hj => ?_⟩⟩
  · unfold putC bkC
    by_cases h1 : j = 7
    · subst h1; simp
    · by_cases h0 : j = 6
      · subst h0; simp
      · simp [h1, h0]
  · have u : Upd (fun b => (b = g ∨ v.ownBlock = some b) ∨ ow b = some (2, 0) ∨ ow b = some (2, 1)) W w9 :=
      ((hF.upd.mono (fun b hb => .inl hb)).trans (u38.mono (fun b hb => by rcases hb with h1 | h1; exact .inl (.inl h1); exact .inr h1))).trans (u89.mono (fun b hb => .inl (.inl hb)))
    refine h.tB.move u (fun b t hb => ?_) le (by omega)
    rintro (h1 | h1 | h1)
    · exact hnS b _ hb h1
    · rw [hb] at h1; simp at h1
    · rw [hb] at h1; simp at h1
  · refine (hF.upd.mono (fun b hb => ?_)).trans ((u38.mono (fun b hb => ?_)).trans (u89.mono (fun b hb => .inl hb)))
    · rcases hb with h1 | h1
      · exact .inl h1
      · exact .inr (.inr h1)
    · rcases hb with h1 | h1 | h1
      · exact .inl h1
      · exact .inr (.inl (by rw [h1]; simp))
      · exact .inr (.inl (by rw [h1]; simp))
  · rcases own8 b hb with h1 | h1 | h1
    · exact .inl h1
    · exact .inr (.inl h1)
    · exact .inr (.inr (Nat.le_trans hF.upd.size h1))
  · rw [k9 j hj, k8 j hj, k6 j hj, k5 j hj, hF.keep j hj]
theorem hd_grew {k j : Nat} {Tt Te T : TypeId} {el : Nat → Nat → Value} {w3 w4 w5 : World} {ow : Own} {g off : Nat} {c : Nat → Value} {v v7 y : Value} {l : List Value} (hd : Hd w3 g off c) (hg : ow g = none) (hv : ∀ b, v.ownBlock = some b → ow b = some (k, j)) (u4 : Below w3.heap.size w3 w4) (r5 : Grew T w4 w5 v v7 l y) : Hd w5 g off c :=
  hd.upd ((Upd.of_below (S := fun b => v.ownBlock = some b) u4).trans r5.upd) (fun hb => by have := hv g hb; rw [hg] at this; cases this)
/-- Amidst the marking of a list. -/
structure Fl (W wr : World) (g off : Nat) (v : Value) (el : Nat → Nat → Value) (Te : TypeId) (l : List Value) (m k : Nat) (c : Nat → Value) : Prop where
  hd : Hd wr g off c
  gv : GV Te wr v (half el m l k)
  upd : Upd (fun b => b = g ∨ v.ownBlock = some b) W wr
  keep : ∀ j, (j < off ∨ off + 33 ≤ j) → wr.cell? ⟨g, j, none⟩ = W.cell? ⟨g, j, none⟩
theorem Fl.move {W wr w' : World} {g off : Nat} {v : Value} {el : Nat → Nat → Value} {Te : TypeId} {l : List Value} {m k : Nat} {c : Nat → Value} (h : Fl W wr g off v el Te l m k c) (hb : Below wr.heap.size wr w') : Fl W w' g off v el Te l m k c :=
  ⟨h.hd.upd (S := none_) (Upd.of_below hb) (fun h => h), h.gv.upd (S := none_) (Upd.of_below hb) (fun _ _ h => h), h.upd.trans (Upd.of_below hb), fun j hj => (keep_upd (S := none_) h.hd (Upd.of_below hb) (fun h => h) j hj).trans (h.keep j hj)⟩
theorem Fl.start {W : World} {g off m : Nat} {v x : Value} {el : Nat → Nat → Value} {Te : TypeId} {l : List Value} {c c' : Nat → Value} (h : Hd W g off c) (hv : GV Te W v l) (hvg : v.ownBlock ≠ some g) (j : Nat) (hj : j < 33) (hc : ∀ i, i < 33 → putC c j x i = c' i) : Fl W (W.setCell ⟨g, off + j, none⟩ x) g off v el Te l m 0 c' := by
  have hu := put_upd W g (off + j) x
  refine ⟨(h.put j hj x).congr hc, ?_, hu.mono (fun b hb => .inl hb), fun i hi => set_keep h.blk (by omega)⟩
  rw [half_none]
  refine hv.upd hu (fun b hb e => ?_)
  have e : b = g := e
  subst e
  exact hvg hb
theorem Fl.set {W wr : World} {g off gv cap n : Nat} {el : Nat → Nat → Value} {Te : TypeId} {l : List Value} {m k : Nat} {c : Nat → Value} (h : Fl W wr g off (.slice (some ⟨gv, 0, none⟩) n cap) el Te l m k c) (hk : k < l.length) (hg : gv ≠ g) : Fl W (wr.setCell ⟨gv, k, none⟩ (el m k)) g off (.slice (some ⟨gv, 0, none⟩) n cap) el Te l m (k + 1) c := by
  obtain ⟨hg1, hn1⟩ := GenAt.of_gv h.gv
  have hs := gen_set hg1 k (by rw [half_len el m l (Nat.le_of_lt hk)]; exact hk) (el m k)
  rw [half_set el m l hk] at hs
  have hu := put_upd wr gv k (el m k)
  have hng : ¬ (fun b => b = gv) g := fun e => hg (by have e : g = gv := e; exact e.symm)
  refine ⟨h.hd.upd hu hng, .inr ⟨gv, cap, by rw [hn1, half_len el m l (Nat.le_of_lt hk), half_len el m l hk], hs⟩, h.upd.trans (hu.mono (fun b hb => .inr (by have hb : b = gv := hb; rw [hb]; rfl))), fun j hj => (keep_upd h.hd hu hng j hj).trans (h.keep j hj)⟩
theorem Fl.full {W wr : World} {g off : Nat} {ow : Own} {v : Value} {el : Nat → Nat → Value} {Te : TypeId} {l : List Value} {m : Nat} {c : Nat → Value} (h : Fl W wr g off v el Te l m l.length c) : Full W wr g off ow v el Te l.length m c :=
  ⟨h.hd, by have := h.gv; rwa [half_all] at this, h.upd, h.keep⟩
theorem Full.put {W wr : World} {g off : Nat} {ow : Own} {v : Value} {el : Nat → Nat → Value} {Te : TypeId} {n m : Nat} {c c' : Nat → Value} (h : Full W wr g off ow v el Te n m c) (hvg : v.ownBlock ≠ some g) (j : Nat) (hj : j < 33) (x : Value) (hc : ∀ i, i < 33 → putC c j x i = c' i) : Full W (wr.setCell ⟨g, off + j, none⟩ x) g off ow v el Te n m c' := by
  have hu := put_upd wr g (off + j) x
  refine ⟨(h.hd.put j hj x).congr hc, h.gv.upd hu (fun b hb e => ?_), h.upd.trans (hu.mono (fun b hb => .inl hb)), fun i hi => (set_keep h.hd.blk (by omega)).trans (h.keep i hi)⟩
  have e : b = g := e
  subst e
  exact hvg hb
/-- No room: the list is full of marks, and is not kept. -/
theorem full_end {W w3 : World} {g off : Nat} {ow : Own} {vB vBo : Value} {eB : List Ent} {aB : Nat} {vW vWo : Value} {eW : List Ent} {aW turn done used n : Nat} {v : Value} {el : Nat → Nat → Value} {Te : TypeId}
    (h : Bk W g off ow vB vBo eB aB vW vWo eW aW turn done used) (hvn : ∀ b, v.ownBlock = some b → ow b = none ∧ b ≠ g) (hF : Full W w3 g off ow v el Te n (turn + 1) (bkC vB vBo aB vW vWo aW (turn + 1) done used)) :
    Bk w3 g off ow vB vBo eB aB vW vWo eW aW (turn + 1) done used ∧ BkS W w3 g off ow ow (vB_ v) := by
  have hnS : ∀ b t, ow b = some t → ¬ (b = g ∨ v.ownBlock = some b) := by
    rintro b t hb (rfl | h1)
    · rw [h.ng] at hb; cases hb
    · rw [(hvn b h1).1] at hb; cases hb
  refine ⟨⟨hF.hd, h.tB.move hF.upd (fun b t hb => hnS b _ hb) (Own.le.refl _) (Nat.le_refl _), h.tW.move hF.upd (fun b t hb => hnS b _ hb) (Own.le.refl _) (Nat.le_refl _), fun b hb => Nat.lt_of_lt_of_le (h.lt b hb) hF.upd.size, h.ng, h.us⟩, ⟨hF.upd.mono (fun b hb => ?_), fun b hb => .inl hb, hF.keep⟩⟩
  rcases hb with h1 | h1
  · exact .inl h1
  · exact .inr (.inr h1)
end Go.Proofs.Ytgngpbcbnfmoiaa.BokB
