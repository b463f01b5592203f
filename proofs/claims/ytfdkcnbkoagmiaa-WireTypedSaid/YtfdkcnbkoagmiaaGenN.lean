/- Whole blocks of one-cell elements that grow by append: where the new list lies. No function of the program. -/
import Derived.Test.YtfdkcnbkoagmiaaGenM
namespace Go.Proofs.Ytfdkcnbkoagmiaa.GenN
open Go Go.RowKit Go.Proofs.YtfdkcnbkoagmiaaW.PrintWords Go.Proofs.YtfdkcnbkoagmiaaW.PrintLast Go.Proofs.YtfdkcnbkoagmiaaW.PrintMore Go.Proofs.Ytfdkcnbkoagmiaa.RowU Go.Proofs.Ytfdkcnbkoagmiaa.ArS Go.Proofs.Ytfdkcnbkoagmiaa.ArM Go.Proofs.Ytfdkcnbkoagmiaa.GenM
set_option linter.unusedVariables false
set_option maxRecDepth 100000

/-- What append of one element leaves: the block had room, or a new one was made. -/
def Grew (T : TypeId) (w w' : World) (v v' : Value) (l : List Value) (y : Value) : Prop :=
  (∃ g cap, v = .slice (some ⟨g, 0, none⟩) l.length cap ∧ v' = .slice (some ⟨g, 0, none⟩) (l.length + 1) cap ∧ GenAt T w' g cap (l ++ [y]) ∧ Upd (fun b => b = g) w w') ∨
  (∃ g cap, v' = .slice (some ⟨g, 0, none⟩) (l.length + 1) cap ∧ w.heap.size ≤ g ∧ GenAt T w' g cap (l ++ [y]) ∧ Below w.heap.size w w')
theorem _root_.Go.Proofs.Ytfdkcnbkoagmiaa.GenM.GenAt.of_gv {T : TypeId} {W : World} {g n cap : Nat} {l : List Value} (h : GV T W (.slice (some ⟨g, 0, none⟩) n cap) l) : GenAt T W g cap l ∧ n = l.length := by
  rcases h with ⟨h, _⟩ | ⟨g', c', h, h2⟩
  · cases h
  · simp only [Value.slice.injEq, Option.some.injEq, Addr.mk.injEq, and_true] at h
    obtain ⟨rfl, rfl, rfl⟩ := h
    exact ⟨h2, rfl⟩
theorem oper_gen2 {o : Oper} {a : Act} {K : Act → World → Prop} {Q : Exit → Act → World → Prop} (w : World) (s x : Operand) (t T : TypeId)
    (hop : o.op = Op.call { callee := Callee.builtin Builtin.append, args := #[s, x], argTypes := #[t, t] })
    (ht : Try.prog.underlying t = some (.slice T)) (z : Value) (by_ : Nat) (hi : (Try.prog.info? T).map (fun i => (i.zero, i.size, i.bytes)) = some (some z, 1, by_)) (hz : z.cells.size = 1) (hby : by_ ≤ 100)
    (v : Value) (l : List Value) (hs : a.eval s = v) (hv : GV T w v l) (ad : Addr) (y : Value) (hx : a.eval x = .slice (some ad) 1 1) (hc : w.cell? ad = some y) (h1 : y.oneCell' = true) (hb : l.length ≤ 100000000)
    (hK : ∀ v' w', Grew T w w' v v' l y → K (a.put o.dst v') w') :
    Oper.wp Try.prog o a w K Q := by
  obtain ⟨i, hi', hz'⟩ := Option.map_eq_some_iff.1 hi
  simp only [Prod.mk.injEq] at hz'
  obtain ⟨z0, z1, z2⟩ := hz'
  have hnews : ∀ j u, ([y] : List Value)[j]? = some u → w.cell? (ad.add j) = some u := by
    intro j u hu
    cases j with
    | zero =>
      simp at hu
      subst hu
      have : ad.add 0 = ad := rfl
      rw [this]; exact hc
    | succ j => simp at hu
  have h1' : ∀ u ∈ [y], u.oneCell' = true := fun u hu => by rw [List.mem_singleton.1 hu]; exact h1
  have hm := Nat.mul_le_mul_left (l.length + 1) hby
  have newv : ∀ (v' : Value) (w' : World), GV T w' v' (l ++ [y]) → (∀ k, v'.ownBlock = some k → w.heap.size ≤ k) → ∃ g cap, v' = .slice (some ⟨g, 0, none⟩) (l.length + 1) cap ∧ w.heap.size ≤ g ∧ GenAt T w' g cap (l ++ [y]) := by
    intro v' w' r1 r2
    rcases r1 with ⟨_, h⟩ | ⟨g, cap, rfl, h⟩
    · simp at h
    · exact ⟨g, cap, by rw [List.length_append, List.length_singleton], r2 g rfl, h⟩
  rcases hv with ⟨rfl, rfl⟩ | ⟨g, cap, rfl, hg'⟩
  · obtain ⟨v', w', hrun, ho, hgr, _⟩ := run_append_own (P := Try.prog) w w.heap.size t o.type T i z 1 by_ ht hi' z0 z1 z2 hz (by decide) (.slice none 0 0) 0 [] (World.ownsRow_nil w _ T 1) ad 1 1 [y] (by simp) hnews h1' (by decide) (by simp; omega) (Nat.le_refl _)
    obtain ⟨r1, r2⟩ := GV.of_own ho (by simp)
    obtain ⟨g, cap, e1, e2, e3⟩ := newv v' w' r1 r2
    unfold Oper.wp
    simp [execOp, hop, resolve, invoke, builtin, hs, hx, hrun, Result.andThen]
    exact hK v' w' (.inr ⟨g, cap, e1, e2, e3, (Upd.of_grown (S := fun _ => False) hgr (fun k hk => by cases hk)).below _ (Nat.le_refl _) (fun _ h => h.elim)⟩)
  · have hlt := hg'.lt
    have hget := fun j x hx => hg'.get j x hx
    obtain ⟨B, b1, b2, b3, hown⟩ := GV.own (.inr ⟨g, cap, rfl, hg'⟩ : GV T w (.slice (some ⟨g, 0, none⟩) l.length cap) l)
    by_cases hr : l.length + 1 ≤ cap
    · obtain ⟨w', hrun, hown', hgr⟩ := run_append_fits (P := Try.prog) w B t o.type T i 1 ht hi' z1 g l.length cap l hown ad 1 1 [y] (by simp) hnews h1' hr
      obtain ⟨r1, r2⟩ := GV.of_own hown' (by simp)
      unfold Oper.wp
      simp [execOp, hop, resolve, invoke, builtin, hs, hx, hrun, Result.andThen]
      exact hK _ w' (.inl ⟨g, cap, rfl, rfl, (GenAt.of_gv r1).1, Upd.of_grown hgr (fun k hk => (Option.some.inj hk).symm)⟩)
    · obtain ⟨v', w', hrun, hown', hgr⟩ := run_append_arg_grows (P := Try.prog) w t o.type T i z 1 by_ ht hi' z0 z1 z2 hz (by decide) ⟨g, 0, none⟩ l.length cap l (by simp) (by
        intro j u hu
        have := hget j u hu
        simpa [Addr.add_lit] using this) ad 1 1 [y] (by simp) hnews (by omega) (by unfold maxLen; omega) (by omega)
      obtain ⟨r1, r2⟩ := GV.of_own hown' (by simp)
      obtain ⟨g2, cap2, e1, e2, e3⟩ := newv v' w' r1 r2
      unfold Oper.wp
      simp [execOp, hop, resolve, invoke, builtin, hs, hx, hrun, Result.andThen]
      exact hK v' w' (.inr ⟨g2, cap2, e1, e2, e3, (Upd.of_grown (S := fun _ => False) hgr (fun k hk => by cases hk)).below _ (Nat.le_refl _) (fun _ h => h.elim)⟩)
theorem wpList_gen2 {ops : Array Oper} {rest : List Oper} {o : Oper} {a : Act} {Q : Exit → Act → World → Prop} (w : World) (hg : o.guard = none) (s x : Operand) (t T : TypeId)
    (hop : o.op = Op.call { callee := Callee.builtin Builtin.append, args := #[s, x], argTypes := #[t, t] })
    (ht : Try.prog.underlying t = some (.slice T)) (z : Value) (by_ : Nat) (hi : (Try.prog.info? T).map (fun i => (i.zero, i.size, i.bytes)) = some (some z, 1, by_)) (hz : z.cells.size = 1) (hby : by_ ≤ 100)
    (v : Value) (l : List Value) (hs : a.eval s = v) (hv : GV T w v l) (ad : Addr) (y : Value) (hx : a.eval x = .slice (some ad) 1 1) (hc : w.cell? ad = some y) (h1 : y.oneCell' = true) (hb : l.length ≤ 100000000)
    (hK : ∀ v' w', Grew T w w' v v' l y → wpList Try.prog ops Q rest (a.put o.dst v') w') :
    wpList Try.prog ops Q (o :: rest) a w :=
  wpList_plain hg fun K hK' => oper_gen2 w s x t T hop ht z by_ hi hz hby v l hs hv ad y hx hc h1 hb (fun v' w' r => hK' _ _ (hK v' w' r))
/-- Grew, in what most ask. -/
theorem Grew.gv {T : TypeId} {w w' : World} {v v' : Value} {l : List Value} {y : Value} (h : Grew T w w' v v' l y) : GV T w' v' (l ++ [y]) := by
  rcases h with ⟨g, cap, _, rfl, h, _⟩ | ⟨g, cap, rfl, _, h, _⟩
  · exact .inr ⟨g, cap, by rw [List.length_append, List.length_singleton], h⟩
  · exact .inr ⟨g, cap, by rw [List.length_append, List.length_singleton], h⟩
theorem Grew.upd {T : TypeId} {w w' : World} {v v' : Value} {l : List Value} {y : Value} (h : Grew T w w' v v' l y) : Upd (fun k => v.ownBlock = some k) w w' := by
  rcases h with ⟨g, cap, rfl, _, _, h⟩ | ⟨_, _, _, _, _, h⟩
  · exact h.mono (fun b hb => by subst hb; rfl)
  · exact Upd.of_below h
theorem Grew.block {T : TypeId} {w w' : World} {v v' : Value} {l : List Value} {y : Value} (h : Grew T w w' v v' l y) (k : Nat) (hk : v'.ownBlock = some k) : v.ownBlock = some k ∨ w.heap.size ≤ k := by
  rcases h with ⟨g, cap, rfl, rfl, _, _⟩ | ⟨g, cap, rfl, h, _, _⟩
  · exact .inl hk
  · obtain rfl := Option.some.inj hk; exact .inr h
theorem Grew.form {T : TypeId} {w w' : World} {v v' : Value} {l : List Value} {y : Value} (h : Grew T w w' v v' l y) : ∃ g cap, v' = .slice (some ⟨g, 0, none⟩) (l.length + 1) cap := by
  rcases h with ⟨g, cap, _, rfl, _, _⟩ | ⟨g, cap, rfl, _, _, _⟩
  · exact ⟨g, cap, rfl⟩
  · exact ⟨g, cap, rfl⟩
theorem gen_set {T : TypeId} {W : World} {g cap : Nat} {l : List Value} (h : GenAt T W g cap l) (j : Nat) (hj : j < l.length) (y : Value) : GenAt T (W.setCell ⟨g, j, none⟩ y) g cap (l.set j y) := by
  obtain ⟨cur, h1, h2, h3, h5, h4⟩ := h
  refine ⟨cur.set j y, ?_, by simpa using h2, by simpa using h3, h5, ?_⟩
  · have := blk_set h1 j y
    rw [List.setIfInBounds_toArray] at this
    exact this
  · rw [List.length_set, List.take_set, h4]
theorem gen_frozen {T : TypeId} {W : World} {g cap : Nat} {l : List Value} (h : GenAt T W g cap l) (j : Nat) : W.frozen? ⟨g, j, none⟩ = false := by
  obtain ⟨cur, h1, h2⟩ := h
  exact blk_frozen h1 j
end Go.Proofs.Ytfdkcnbkoagmiaa.GenN
