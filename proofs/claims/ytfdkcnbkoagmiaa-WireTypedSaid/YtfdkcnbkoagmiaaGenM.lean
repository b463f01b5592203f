/- Whole blocks of one-cell elements of any type, that grow by append. No function of the program. -/
import Derived.Test.YtfdkcnbkoagmiaaArM
namespace Go.Proofs.Ytfdkcnbkoagmiaa.GenM
open Go Go.RowKit Go.Proofs.YtfdkcnbkoagmiaaW.PrintWords Go.Proofs.YtfdkcnbkoagmiaaW.PrintLast Go.Proofs.YtfdkcnbkoagmiaaW.PrintMore Go.Proofs.Ytfdkcnbkoagmiaa.RowU Go.Proofs.Ytfdkcnbkoagmiaa.ArS Go.Proofs.Ytfdkcnbkoagmiaa.ArM
set_option linter.unusedVariables false
set_option maxRecDepth 100000

/-- A whole block of type T that begins with a list. -/
def GenAt (T : TypeId) (W : World) (g cap : Nat) (l : List Value) : Prop :=
  ∃ cur : List Value, W.heap[g]? = some (.cells cur.toArray T (0, 0)) ∧ cur.length = cap ∧ l.length ≤ cap ∧ cap ≤ maxLen ∧ cur.take l.length = l
theorem GenAt.get {T : TypeId} {W : World} {g cap : Nat} {l : List Value} (h : GenAt T W g cap l) (j : Nat) (x : Value) (hx : l[j]? = some x) : W.cell? ⟨g, j, none⟩ = some x := by
  obtain ⟨cur, h1, h2, h3, _, h4⟩ := h
  have hj : j < l.length := (List.getElem?_eq_some_iff.1 hx).1
  have : cur.toArray[j]? = some x := by
    have h5 := congrArg (fun r => r[j]?) h4
    simp only [List.getElem?_take, if_pos hj, hx] at h5
    simpa using h5
  exact (blk_cell h1 j).trans this
theorem GenAt.upd {T : TypeId} {S : Nat → Prop} {W W' : World} {g cap : Nat} {l : List Value} (h : GenAt T W g cap l) (hu : Upd S W W') (hg : ¬ S g) : GenAt T W' g cap l := by
  obtain ⟨cur, h1, h2⟩ := h
  exact ⟨cur, blk_upd h1 hu hg, h2⟩
theorem GenAt.lt {T : TypeId} {W : World} {g cap : Nat} {l : List Value} (h : GenAt T W g cap l) : g < W.heap.size := by
  obtain ⟨cur, h1, h2⟩ := h
  exact cell_lt h1
/-- A list of such elements: nil, or a block of its own. -/
def GV (T : TypeId) (W : World) (v : Value) (l : List Value) : Prop := (v = .slice none 0 0 ∧ l = []) ∨ ∃ g cap, v = .slice (some ⟨g, 0, none⟩) l.length cap ∧ GenAt T W g cap l
theorem GV.nil (T : TypeId) (W : World) : GV T W (.slice none 0 0) [] := .inl ⟨rfl, rfl⟩
theorem GV.upd {T : TypeId} {S : Nat → Prop} {W W' : World} {v : Value} {l : List Value} (h : GV T W v l) (hu : Upd S W W') (hg : ∀ k, v.ownBlock = some k → ¬ S k) : GV T W' v l := by
  rcases h with h | ⟨g, cap, rfl, h⟩
  · exact .inl h
  · exact .inr ⟨g, cap, rfl, h.upd hu (hg g rfl)⟩
theorem GV.get {T : TypeId} {W : World} {v : Value} {l : List Value} (h : GV T W v l) (j : Nat) (x : Value) (hx : l[j]? = some x) : ∃ g cap, v = .slice (some ⟨g, 0, none⟩) l.length cap ∧ W.cell? ⟨g, j, none⟩ = some x := by
  rcases h with ⟨rfl, rfl⟩ | ⟨g, cap, rfl, h⟩
  · simp at hx
  · exact ⟨g, cap, rfl, h.get j x hx⟩
theorem GV.lt {T : TypeId} {W : World} {v : Value} {l : List Value} (h : GV T W v l) (k : Nat) (hk : v.ownBlock = some k) : k < W.heap.size := by
  rcases h with ⟨rfl, rfl⟩ | ⟨g, cap, rfl, h⟩
  · cases hk
  · obtain rfl := Option.some.inj hk
    exact h.lt
theorem GV.slice {T : TypeId} {W : World} {v : Value} {l : List Value} (h : GV T W v l) : ∃ A c, v = .slice A l.length c := by
  rcases h with ⟨rfl, rfl⟩ | ⟨g, cap, rfl, h⟩
  · exact ⟨none, 0, rfl⟩
  · exact ⟨_, _, rfl⟩
theorem GV.own {T : TypeId} {W : World} {v : Value} {l : List Value} (h : GV T W v l) : ∃ B, (∀ k, v.ownBlock = some k → B ≤ k) ∧ (∀ k, v.ownBlock = some k → k = B) ∧ B ≤ W.heap.size ∧ W.ownsRow B T 1 v l.length l := by
  rcases h with ⟨rfl, rfl⟩ | ⟨g, cap, rfl, hg⟩
  · exact ⟨W.heap.size, fun k hk => (by cases hk), fun k hk => (by cases hk), Nat.le_refl _, by simp, .inl ⟨rfl, rfl⟩⟩
  · have hlt := hg.lt
    obtain ⟨cur, h1, h2, h3, h4, h5⟩ := hg
    refine ⟨g, fun k hk => ?_, fun k hk => ?_, Nat.le_of_lt hlt, by simp, .inr ⟨g, cap, cur.toArray, rfl, Nat.le_refl _, h1, h3, h4, by simpa using h2, by simpa using h5⟩⟩
    · obtain rfl := Option.some.inj hk; exact Nat.le_refl _
    · exact (Option.some.inj hk).symm
theorem GV.of_own {T : TypeId} {W : World} {base : Nat} {v : Value} {l : List Value} {n : Nat} (h : W.ownsRow base T 1 v n l) (hn : n = l.length) : GV T W v l ∧ ∀ k, v.ownBlock = some k → base ≤ k := by
  subst hn
  obtain ⟨h1, ⟨rfl, h2⟩ | ⟨g, cap, cur, rfl, hb, hg, hn, hm, hc, ht⟩⟩ := h
  · exact ⟨.inl ⟨rfl, List.eq_nil_of_length_eq_zero h2⟩, fun k hk => by cases hk⟩
  · refine ⟨.inr ⟨g, cap, rfl, cur.toList, by simpa using hg, by simpa using hc, hn, hm, by simpa using ht⟩, fun k hk => ?_⟩
    obtain rfl := Option.some.inj hk
    exact hb
/-- append of one element, out of a block made for it. -/
theorem oper_gen {o : Oper} {a : Act} {K : Act → World → Prop} {Q : Exit → Act → World → Prop} (w : World) (s x : Operand) (t T : TypeId)
    (hop : o.op = Op.call { callee := Callee.builtin Builtin.append, args := #[s, x], argTypes := #[t, t] })
    (ht : Try.prog.underlying t = some (.slice T)) (z : Value) (by_ : Nat) (hi : (Try.prog.info? T).map (fun i => (i.zero, i.size, i.bytes)) = some (some z, 1, by_)) (hz : z.cells.size = 1) (hby : by_ ≤ 100)
    (v : Value) (l : List Value) (hs : a.eval s = v) (hv : GV T w v l) (ad : Addr) (y : Value) (hx : a.eval x = .slice (some ad) 1 1) (hc : w.cell? ad = some y) (h1 : y.oneCell' = true) (hb : l.length ≤ 100000000)
    (hK : ∀ v' w', GV T w' v' (l ++ [y]) → (∀ k, v'.ownBlock = some k → (v.ownBlock = some k ∨ w.heap.size ≤ k)) → Upd (fun k => v.ownBlock = some k) w w' → K (a.put o.dst v') w') :
    Oper.wp Try.prog o a w K Q := by
  obtain ⟨i, hi', hz'⟩ := Option.map_eq_some_iff.1 hi
  simp only [Prod.mk.injEq] at hz'
  obtain ⟨z0, z1, z2⟩ := hz'
  have hnews : ∀ j u, ([y] : List Value)[j]? = some u → w.cell? (ad.add j) = some u := by
    intro j u hu
    cases j with
    | zero =>
      simp at hu
      subst hu
      have : ad.add 0 = ad := rfl
      rw [this]; exact hc
    | succ j => simp at hu
  have h1' : ∀ u ∈ [y], u.oneCell' = true := fun u hu => by rw [List.mem_singleton.1 hu]; exact h1
  have hm := Nat.mul_le_mul_left (l.length + 1) hby
  rcases hv with ⟨rfl, rfl⟩ | ⟨g, cap, rfl, hg'⟩
  · obtain ⟨v', w', hrun, ho, hgr, _⟩ := run_append_own (P := Try.prog) w w.heap.size t o.type T i z 1 by_ ht hi' z0 z1 z2 hz (by decide) (.slice none 0 0) 0 [] (World.ownsRow_nil w _ T 1) ad 1 1 [y] (by simp) hnews h1' (by decide) (by simp; omega) (Nat.le_refl _)
    obtain ⟨r1, r2⟩ := GV.of_own ho (by simp)
    unfold Oper.wp
    simp [execOp, hop, resolve, invoke, builtin, hs, hx, hrun, Result.andThen]
    exact hK v' w' r1 (fun k hk => .inr (r2 k hk)) (Upd.of_grown hgr (fun k hk => by cases hk))
  · have hlt := hg'.lt
    have hget := fun j x hx => hg'.get j x hx
    obtain ⟨B, b1, b2, b3, hown⟩ := GV.own (.inr ⟨g, cap, rfl, hg'⟩ : GV T w (.slice (some ⟨g, 0, none⟩) l.length cap) l)
    by_cases hr : l.length + 1 ≤ cap
    · obtain ⟨w', hrun, hown', hgr⟩ := run_append_fits (P := Try.prog) w B t o.type T i 1 ht hi' z1 g l.length cap l hown ad 1 1 [y] (by simp) hnews h1' hr
      obtain ⟨r1, r2⟩ := GV.of_own hown' (by simp)
      unfold Oper.wp
      simp [execOp, hop, resolve, invoke, builtin, hs, hx, hrun, Result.andThen]
      exact hK _ w' r1 (fun k hk => .inl hk) (Upd.of_grown hgr (fun k hk => by rw [← hk]; rfl))
    · obtain ⟨v', w', hrun, hown', hgr⟩ := run_append_arg_grows (P := Try.prog) w t o.type T i z 1 by_ ht hi' z0 z1 z2 hz (by decide) ⟨g, 0, none⟩ l.length cap l (by simp) (by
        intro j u hu
        have := hget j u hu
        simpa [Addr.add_lit] using this) ad 1 1 [y] (by simp) hnews (by omega) (by unfold maxLen; omega) (by omega)
      obtain ⟨r1, r2⟩ := GV.of_own hown' (by simp)
      unfold Oper.wp
      simp [execOp, hop, resolve, invoke, builtin, hs, hx, hrun, Result.andThen]
      exact hK v' w' r1 (fun k hk => .inr (r2 k hk)) (Upd.of_grown hgr (fun k hk => by cases hk))
theorem wpList_gen {ops : Array Oper} {rest : List Oper} {o : Oper} {a : Act} {Q : Exit → Act → World → Prop} (w : World) (hg : o.guard = none) (s x : Operand) (t T : TypeId)
    (hop : o.op = Op.call { callee := Callee.builtin Builtin.append, args := #[s, x], argTypes := #[t, t] })
    (ht : Try.prog.underlying t = some (.slice T)) (z : Value) (by_ : Nat) (hi : (Try.prog.info? T).map (fun i => (i.zero, i.size, i.bytes)) = some (some z, 1, by_)) (hz : z.cells.size = 1) (hby : by_ ≤ 100)
    (v : Value) (l : List Value) (hs : a.eval s = v) (hv : GV T w v l) (ad : Addr) (y : Value) (hx : a.eval x = .slice (some ad) 1 1) (hc : w.cell? ad = some y) (h1 : y.oneCell' = true) (hb : l.length ≤ 100000000)
    (hK : ∀ v' w', GV T w' v' (l ++ [y]) → (∀ k, v'.ownBlock = some k → (v.ownBlock = some k ∨ w.heap.size ≤ k)) → Upd (fun k => v.ownBlock = some k) w w' → wpList Try.prog ops Q rest (a.put o.dst v') w') :
    wpList Try.prog ops Q (o :: rest) a w :=
  wpList_plain hg fun K hK' => oper_gen w s x t T hop ht z by_ hi hz hby v l hs hv ad y hx hc h1 hb (fun v' w' r1 r2 r3 => hK' _ _ (hK v' w' r1 r2 r3))
theorem step_gen {ops : Array Oper} {o : Oper} {a : Act} {K : Act → World → Prop} {Q : Exit → Act → World → Prop} {E : Prop} (w : World) (hg : o.guard = none) (s x : Operand) (t T : TypeId)
    (hop : o.op = Op.call { callee := Callee.builtin Builtin.append, args := #[s, x], argTypes := #[t, t] })
    (ht : Try.prog.underlying t = some (.slice T)) (z : Value) (by_ : Nat) (hi : (Try.prog.info? T).map (fun i => (i.zero, i.size, i.bytes)) = some (some z, 1, by_)) (hz : z.cells.size = 1) (hby : by_ ≤ 100)
    (v : Value) (l : List Value) (hs : a.eval s = v) (hv : GV T w v l) (ad : Addr) (y : Value) (hx : a.eval x = .slice (some ad) 1 1) (hc : w.cell? ad = some y) (h1 : y.oneCell' = true) (hb : l.length ≤ 100000000)
    (hK : ∀ v' w', GV T w' v' (l ++ [y]) → (∀ k, v'.ownBlock = some k → (v.ownBlock = some k ∨ w.heap.size ≤ k)) → Upd (fun k => v.ownBlock = some k) w w' → K (a.put o.dst v') w') :
    if Region.wanted o (yielded ops a.tmps) = true then Oper.wp Try.prog o a w K Q else E := by
  rw [if_pos (by simp [Region.wanted, hg])]
  exact oper_gen w s x t T hop ht z by_ hi hz hby v l hs hv ad y hx hc h1 hb hK
end Go.Proofs.Ytfdkcnbkoagmiaa.GenM
