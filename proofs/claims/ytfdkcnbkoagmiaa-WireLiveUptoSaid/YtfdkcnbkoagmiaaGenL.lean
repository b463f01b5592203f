/- Whole blocks of one-cell elements that grow by append of a list. No function of the program. -/
import Derived.Test.YtfdkcnbkoagmiaaGenN
namespace Go.Proofs.Ytfdkcnbkoagmiaa.GenL
open Go Go.RowKit Go.Proofs.YtfdkcnbkoagmiaaW.PrintWords Go.Proofs.YtfdkcnbkoagmiaaW.PrintLast Go.Proofs.YtfdkcnbkoagmiaaW.PrintMore Go.Proofs.Ytfdkcnbkoagmiaa.RowU Go.Proofs.Ytfdkcnbkoagmiaa.ArS Go.Proofs.Ytfdkcnbkoagmiaa.ArM Go.Proofs.Ytfdkcnbkoagmiaa.GenM Go.Proofs.Ytfdkcnbkoagmiaa.GenN
set_option linter.unusedVariables false
set_option maxRecDepth 100000

/-- What append of a list leaves. -/
def GrewL (T : TypeId) (w w' : World) (v v' : Value) (l ys : List Value) : Prop :=
  GV T w' v' (l ++ ys) ∧ (∀ k, v'.ownBlock = some k → v.ownBlock = some k ∨ w.heap.size ≤ k) ∧ Upd (fun k => v.ownBlock = some k) w w'
theorem oper_genl {o : Oper} {a : Act} {K : Act → World → Prop} {Q : Exit → Act → World → Prop} (w : World) (s x : Operand) (t T : TypeId)
    (hop : o.op = Op.call { callee := Callee.builtin Builtin.append, args := #[s, x], argTypes := #[t, t] })
    (ht : Try.prog.underlying t = some (.slice T)) (z : Value) (by_ : Nat) (hi : (Try.prog.info? T).map (fun i => (i.zero, i.size, i.bytes)) = some (some z, 1, by_)) (hz : z.cells.size = 1) (hby : by_ ≤ 100)
    (v : Value) (l : List Value) (hs : a.eval s = v) (hv : GV T w v l) (ad : Addr) (c : Nat) (ys : List Value) (hx : a.eval x = .slice (some ad) ys.length c) (hc : ∀ j u, ys[j]? = some u → w.cell? (ad.add j) = some u) (h1 : ∀ u ∈ ys, u.oneCell' = true) (h0 : 0 < ys.length) (hb : l.length + ys.length ≤ 1000000000)
    (hK : ∀ v' w', GrewL T w w' v v' l ys → K (a.put o.dst v') w') :
    Oper.wp Try.prog o a w K Q := by
  obtain ⟨i, hi', hz'⟩ := Option.map_eq_some_iff.1 hi
  simp only [Prod.mk.injEq] at hz'
  obtain ⟨z0, z1, z2⟩ := hz'
  have hm := Nat.mul_le_mul_left (l.length + ys.length) hby
  have hm2 := Nat.mul_le_mul_left ys.length hby
  rcases hv with ⟨rfl, rfl⟩ | ⟨g, cap, rfl, hg'⟩
  · obtain ⟨v', w', hrun, ho, hgr, _⟩ := run_append_own (P := Try.prog) w w.heap.size t o.type T i z 1 by_ ht hi' z0 z1 z2 hz (by decide) (.slice none 0 0) 0 [] (World.ownsRow_nil w _ T 1) ad ys.length c ys (by simp) hc h1 (by unfold maxLen; simp only [List.length_nil] at hb; omega) (by simp only [List.length_nil] at hm hb ⊢; omega) (Nat.le_refl _)
    obtain ⟨r1, r2⟩ := GV.of_own ho (by simp)
    unfold Oper.wp
    simp [execOp, hop, resolve, invoke, builtin, hs, hx, hrun, Result.andThen]
    exact hK v' w' ⟨r1, fun k hk => .inr (r2 k hk), Upd.of_grown hgr (fun k hk => by cases hk)⟩
  · have hlt := hg'.lt
    have hget := fun j x hx => hg'.get j x hx
    obtain ⟨B, b1, b2, b3, hown⟩ := GV.own (.inr ⟨g, cap, rfl, hg'⟩ : GV T w (.slice (some ⟨g, 0, none⟩) l.length cap) l)
    by_cases hr : l.length + ys.length ≤ cap
    · obtain ⟨w', hrun, hown', hgr⟩ := run_append_fits (P := Try.prog) w B t o.type T i 1 ht hi' z1 g l.length cap l hown ad ys.length c ys (by simp) hc h1 hr
      obtain ⟨r1, r2⟩ := GV.of_own hown' (by simp)
      unfold Oper.wp
      simp [execOp, hop, resolve, invoke, builtin, hs, hx, hrun, Result.andThen]
      exact hK _ w' ⟨r1, fun k hk => .inl hk, Upd.of_grown hgr (fun k hk => by rw [← hk]; rfl)⟩
    · obtain ⟨v', w', hrun, hown', hgr⟩ := run_append_arg_grows (P := Try.prog) w t o.type T i z 1 by_ ht hi' z0 z1 z2 hz (by decide) ⟨g, 0, none⟩ l.length cap l (by simp) (by
        intro j u hu
        have := hget j u hu
        simpa [Addr.add_lit] using this) ad ys.length c ys (by simp) hc (by omega) (by unfold maxLen; omega) (by omega)
      obtain ⟨r1, r2⟩ := GV.of_own hown' (by simp)
      unfold Oper.wp
      simp [execOp, hop, resolve, invoke, builtin, hs, hx, hrun, Result.andThen]
      exact hK v' w' ⟨r1, fun k hk => .inr (r2 k hk), Upd.of_grown hgr (fun k hk => by cases hk)⟩
/-- .. of an empty list. -/
theorem oper_gen0 {o : Oper} {a : Act} {K : Act → World → Prop} {Q : Exit → Act → World → Prop} (w : World) (s x : Operand) (t T : TypeId)
    (hop : o.op = Op.call { callee := Callee.builtin Builtin.append, args := #[s, x], argTypes := #[t, t] })
    (ht : Try.prog.underlying t = some (.slice T)) (z : Value) (by_ : Nat) (hi : (Try.prog.info? T).map (fun i => (i.zero, i.size, i.bytes)) = some (some z, 1, by_))
    (v : Value) (l : List Value) (hs : a.eval s = v) (hv : GV T w v l) (A : Option Addr) (c : Nat) (hx : a.eval x = .slice A 0 c)
    (hK : ∀ v' w', GrewL T w w' v v' l [] → K (a.put o.dst v') w') :
    Oper.wp Try.prog o a w K Q := by
  obtain ⟨i, hi', hz'⟩ := Option.map_eq_some_iff.1 hi
  simp only [Prod.mk.injEq] at hz'
  obtain ⟨z0, z1, z2⟩ := hz'
  have hrun : (Builtin.append_ #[t, t] o.type #[v, .slice A 0 c]).run Try.prog w = .ok v w := by
    rcases hv with ⟨rfl, rfl⟩ | ⟨g, cap, rfl, cur, h1, h2, h3, h4, h5⟩
    · cases A <;> simp [Builtin.append_, run_underlying ht, sizeOf, typeInfo, hi', Builtin.lenOf, Builtin.firstCells, storeCells, loadCells, loadCellsFrom]
    · cases A <;> simp [Builtin.append_, run_underlying ht, sizeOf, typeInfo, hi', Builtin.lenOf, Builtin.firstCells, storeCells, loadCells, loadCellsFrom, h3]
  unfold Oper.wp
  simp [execOp, hop, resolve, invoke, builtin, hs, hx, hrun, Result.andThen]
  exact hK v w ⟨by rw [List.append_nil]; exact hv, fun k hk => .inl hk, Upd.refl _ _⟩
/-- Bytes behind bytes. -/
theorem wpList_bytes {ops : Array Oper} {rest : List Oper} {o : Oper} {a : Act} {Q : Exit → Act → World → Prop} (w : World) (hg : o.guard = none) (s x : Operand)
    (hop : o.op = Op.call { callee := Callee.builtin Builtin.append, args := #[s, x], argTypes := #[26, 26] })
    (v : Value) (l : List Value) (hs : a.eval s = v) (hv : GV 5 w v l) (A : Option Addr) (c : Nat) (ys : List Int) (hx : a.eval x = .slice A ys.length c) (hC : (Kd.int .u8).C w A ys.length ys) (hb : l.length + ys.length ≤ 1000000000)
    (hK : ∀ v' w', GrewL 5 w w' v v' l (ys.map (Value.int .u8)) → wpList Try.prog ops Q rest (a.put o.dst v') w') :
    wpList Try.prog ops Q (o :: rest) a w := by
  refine wpList_plain hg fun K hK' => ?_
  by_cases h0 : 0 < ys.length
  · obtain ⟨ad, rfl, hcell⟩ := hC.2.2 h0
    refine oper_genl w s x 26 5 hop Try.underlying26 (.int .u8 0) 1 (by kernel_rfl) rfl (by decide) v l hs hv ad c (ys.map (Value.int .u8)) (by rw [List.length_map]; exact hx) (fun j u hu => ?_) (fun u hu => ?_) (by rw [List.length_map]; exact h0) (by rw [List.length_map]; exact hb) (fun v' w' r => hK' _ _ (hK v' w' r))
    · rw [List.getElem?_map] at hu
      obtain ⟨q, hq, rfl⟩ := Option.map_eq_some_iff.1 hu
      obtain ⟨cs, c1, c2, c3⟩ := hcell j q hq
      have c4 : cs = [Value.int .u8 q] := c2
      subst c4
      have := c3 0 _ rfl
      rw [show (Kd.int .u8).sz = 1 from rfl, Nat.mul_one, Nat.add_zero] at this
      exact this
    · obtain ⟨q, _, rfl⟩ := List.mem_map.1 hu
      rfl
  · obtain rfl : ys = [] := List.length_eq_zero_iff.1 (by omega)
    exact oper_gen0 w s x 26 5 hop Try.underlying26 (.int .u8 0) 1 (by kernel_rfl) v l hs hv A c hx (fun v' w' r => hK' _ _ (hK v' w' r))
end Go.Proofs.Ytfdkcnbkoagmiaa.GenL
