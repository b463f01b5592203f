/- Whole blocks of elements of several cells, that grow by append. No function of the program. -/
import Derived.Test.YtgjcffjicbmkhaaGenN
namespace Go.Proofs.Ytgjcffjicbmkhaa.GenS
open Go Go.RowKit Go.Proofs.YtgjcffjicbmkhaaW.PrintWords Go.Proofs.YtgjcffjicbmkhaaW.PrintLast Go.Proofs.YtgjcffjicbmkhaaW.PrintMore Go.Proofs.Ytgjcffjicbmkhaa.RowU Go.Proofs.Ytgjcffjicbmkhaa.ArM Go.Proofs.Ytgjcffjicbmkhaa.GenM Go.Proofs.Ytgjcffjicbmkhaa.GenN
set_option linter.unusedVariables false
set_option maxRecDepth 100000

theorem own_slice {w : World} {T : TypeId} {sz n : Nat} {v : Value} {l : List Value} (h : w.ownsRow 0 T sz v n l) : ∃ A c, v = .slice A n c ∧ n ≤ c := by
  obtain ⟨_, ⟨rfl, rfl⟩ | ⟨g, cap, cur, rfl, _, _, h2, _⟩⟩ := h
  · exact ⟨none, 0, rfl, Nat.le_refl _⟩
  · exact ⟨_, cap, rfl, h2⟩
theorem own_lt {w : World} {T : TypeId} {sz n : Nat} {v : Value} {l : List Value} (h : w.ownsRow 0 T sz v n l) (b : Nat) (hb : v.ownBlock = some b) : b < w.heap.size := (h.lt b hb).2
/-- A cell of a list that is not empty. -/
theorem own_get {w : World} {T : TypeId} {sz n : Nat} {v : Value} {l : List Value} (h : w.ownsRow 0 T sz v n l) {j : Nat} {u : Value} (hj : l[j]? = some u) :
    ∃ g cap cur, v = .slice (some ⟨g, 0, none⟩) n cap ∧ w.heap[g]? = some (.cells cur T (0, 0)) ∧ w.cell? ⟨g, j, none⟩ = some u ∧ n ≤ cap ∧ cap ≤ maxLen := by
  obtain ⟨h0, ⟨rfl, rfl⟩ | ⟨g, cap, cur, rfl, _, hg, h2, h3, h4, h5⟩⟩ := h
  · rw [Nat.zero_mul] at h0
    rw [List.eq_nil_of_length_eq_zero h0] at hj
    simp at hj
  · refine ⟨g, cap, cur, rfl, hg, ?_, h2, h3⟩
    rw [blk_cell hg]
    rw [← h5, List.getElem?_take] at hj
    split at hj
    · simpa using hj
    · cases hj
theorem own_upd {S : Nat → Prop} {w w' : World} {T : TypeId} {sz n : Nat} {v : Value} {l : List Value} (h : w.ownsRow 0 T sz v n l) (hu : Upd S w w') (hS : ∀ b, v.ownBlock = some b → ¬ S b) : w'.ownsRow 0 T sz v n l := by
  obtain ⟨h0, h | ⟨g, cap, cur, rfl, hb, hg, h2⟩⟩ := h
  · exact ⟨h0, .inl h⟩
  · exact ⟨h0, .inr ⟨g, cap, cur, rfl, hb, blk_upd hg hu (hS g rfl), h2⟩⟩
/-- A cell stored into. -/
theorem own_set {w : World} {T : TypeId} {sz n : Nat} {v : Value} {l : List Value} (h : w.ownsRow 0 T sz v n l) {g : Nat} (hg : v.ownBlock = some g) {j : Nat} (hj : j < l.length) (y : Value) : (w.setCell ⟨g, j, none⟩ y).ownsRow 0 T sz v n (l.set j y) := by
  obtain ⟨h0, ⟨rfl, _⟩ | ⟨g', cap, cur, rfl, hb, hg', h2, h3, h4, h5⟩⟩ := h
  · cases hg
  · obtain rfl := Option.some.inj hg
    refine ⟨by rw [List.length_set]; exact h0, .inr ⟨g', cap, cur.setIfInBounds j y, rfl, hb, blk_set hg' j y, h2, h3, by simpa using h4, ?_⟩⟩
    rw [← h5, Array.toList_setIfInBounds, List.take_set]
theorem oper_rows {o : Oper} {a : Act} {K : Act → World → Prop} {Q : Exit → Act → World → Prop} (w : World) (s x : Operand) (t T : TypeId)
    (hop : o.op = Op.call { callee := Callee.builtin Builtin.append, args := #[s, x], argTypes := #[t, t] })
    (ht : Try.prog.underlying t = some (.slice T)) (z : Value) (by_ sz : Nat) (hi : (Try.prog.info? T).map (fun i => (i.zero, i.size, i.bytes)) = some (some z, sz, by_)) (hz : z.cells.size = sz) (hsz : 0 < sz) (hby : by_ ≤ 1000)
    (v : Value) (n : Nat) (l : List Value) (hs : a.eval s = v) (hv : w.ownsRow 0 T sz v n l) (ad : Addr) (ys : List Value) (hl : ys.length = 1 * sz) (hx : a.eval x = .slice (some ad) 1 1)
    (hc : ∀ j u, ys[j]? = some u → w.cell? (ad.add j) = some u) (h1 : ∀ u ∈ ys, u.oneCell' = true) (hb : n ≤ 100000000)
    (hK : ∀ g cap w', w'.ownsRow 0 T sz (.slice (some ⟨g, 0, none⟩) (n + 1) cap) (n + 1) (l ++ ys) → (v.ownBlock = some g ∨ w.heap.size ≤ g) → Upd (fun b => v.ownBlock = some b) w w' → K (a.put o.dst (.slice (some ⟨g, 0, none⟩) (n + 1) cap)) w') :
    Oper.wp Try.prog o a w K Q := by
  obtain ⟨i, hi', hz'⟩ := Option.map_eq_some_iff.1 hi
  simp only [Prod.mk.injEq] at hz'
  obtain ⟨z0, z1, z2⟩ := hz'
  have hm := Nat.mul_le_mul_left (n + 1) hby
  have form : ∀ {base : Nat} {v' : Value} {w' : World} {l' : List Value}, w'.ownsRow base T sz v' (n + 1) l' → ∃ g cap, v' = .slice (some ⟨g, 0, none⟩) (n + 1) cap ∧ base ≤ g ∧ w'.ownsRow 0 T sz (.slice (some ⟨g, 0, none⟩) (n + 1) cap) (n + 1) l' := by
    rintro base v' w' l' ⟨h0, ⟨_, h⟩ | ⟨g, cap, cur, rfl, hb, h⟩⟩
    · omega
    · exact ⟨g, cap, rfl, hb, h0, .inr ⟨g, cap, cur, rfl, Nat.zero_le _, h⟩⟩
  obtain ⟨hv0, ⟨rfl, rfl⟩ | ⟨g, cap, cur, rfl, hbb, hg, h2, h3, h4, h5⟩⟩ := id hv
  · obtain rfl : l = [] := by rw [Nat.zero_mul] at hv0; exact List.eq_nil_of_length_eq_zero hv0
    obtain ⟨v', w', hrun, ho, hgr, _⟩ := run_append_own (P := Try.prog) w w.heap.size t o.type T i z sz by_ ht hi' z0 z1 z2 hz hsz (.slice none 0 0) 0 [] (World.ownsRow_nil w _ T sz) ad 1 1 ys hl hc h1 (by decide) (by omega) (Nat.le_refl _)
    obtain ⟨g, cap, rfl, e2, e3⟩ := form ho
    unfold Oper.wp
    simp [execOp, hop, resolve, invoke, builtin, hs, hx, hrun, Result.andThen]
    exact hK g cap w' e3 (.inr e2) (Upd.of_grown hgr (fun k hk => by cases hk))
  · by_cases hr : n + 1 ≤ cap
    · obtain ⟨w', hrun, hown', hgr⟩ := run_append_fits (P := Try.prog) w 0 t o.type T i sz ht hi' z1 g n cap l hv ad 1 1 ys hl hc h1 hr
      unfold Oper.wp
      simp [execOp, hop, resolve, invoke, builtin, hs, hx, hrun, Result.andThen]
      exact hK g cap w' hown' (.inl rfl) (Upd.of_grown hgr (fun k hk => by obtain rfl := Option.some.inj hk; rfl))
    · obtain ⟨v', w', hrun, hown', hgr⟩ := run_append_arg_grows (P := Try.prog) w t o.type T i z sz by_ ht hi' z0 z1 z2 hz hsz ⟨g, 0, none⟩ n cap l hv0 (by
        intro j u hu
        obtain ⟨g', cap', cur', e, _, hq, _⟩ := own_get hv hu
        simp only [Value.slice.injEq, Option.some.injEq, Addr.mk.injEq, and_true] at e
        obtain ⟨rfl, _⟩ := e
        simpa [Addr.add_lit] using hq) ad 1 1 ys hl hc (by omega) (by unfold maxLen; omega) (by omega)
      obtain ⟨g2, cap2, rfl, e2, e3⟩ := form hown'
      unfold Oper.wp
      simp [execOp, hop, resolve, invoke, builtin, hs, hx, hrun, Result.andThen]
      exact hK g2 cap2 w' e3 (.inr e2) ((Upd.of_grown (S := fun _ => False) hgr (fun k hk => by cases hk)).mono (fun _ h => h.elim))
theorem wpList_rows {ops : Array Oper} {rest : List Oper} {o : Oper} {a : Act} {Q : Exit → Act → World → Prop} (w : World) (hg : o.guard = none) (s x : Operand) (t T : TypeId)
    (hop : o.op = Op.call { callee := Callee.builtin Builtin.append, args := #[s, x], argTypes := #[t, t] })
    (ht : Try.prog.underlying t = some (.slice T)) (z : Value) (by_ sz : Nat) (hi : (Try.prog.info? T).map (fun i => (i.zero, i.size, i.bytes)) = some (some z, sz, by_)) (hz : z.cells.size = sz) (hsz : 0 < sz) (hby : by_ ≤ 1000)
    (v : Value) (n : Nat) (l : List Value) (hs : a.eval s = v) (hv : w.ownsRow 0 T sz v n l) (ad : Addr) (ys : List Value) (hl : ys.length = 1 * sz) (hx : a.eval x = .slice (some ad) 1 1)
    (hc : ∀ j u, ys[j]? = some u → w.cell? (ad.add j) = some u) (h1 : ∀ u ∈ ys, u.oneCell' = true) (hb : n ≤ 100000000)
    (hK : ∀ g cap w', w'.ownsRow 0 T sz (.slice (some ⟨g, 0, none⟩) (n + 1) cap) (n + 1) (l ++ ys) → (v.ownBlock = some g ∨ w.heap.size ≤ g) → Upd (fun b => v.ownBlock = some b) w w' → wpList Try.prog ops Q rest (a.put o.dst (.slice (some ⟨g, 0, none⟩) (n + 1) cap)) w') :
    wpList Try.prog ops Q (o :: rest) a w :=
  wpList_plain hg fun K hK' => oper_rows w s x t T hop ht z by_ sz hi hz hsz hby v n l hs hv ad ys hl hx hc h1 hb (fun g cap w' r1 r2 r3 => hK' _ _ (hK g cap w' r1 r2 r3))
end Go.Proofs.Ytgjcffjicbmkhaa.GenS
