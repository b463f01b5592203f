/- append onto a list of bytes that is the call's own, or has no room. No function of the program. -/
import Derived.Test.YtdflblegdfpdpaaDoorAppF
namespace Go.Proofs.YtdflblegdfpdpaaDoor.AppG
open Go Go.RowKit Go.Proofs.YtdflblegdfpdpaaDoorW.PrintWords Go.Proofs.YtdflblegdfpdpaaDoorW.PrintLast Go.Proofs.YtdflblegdfpdpaaDoorW.PrintMore Go.Proofs.YtdflblegdfpdpaaDoor.AppF
set_option linter.unusedVariables false
set_option maxRecDepth 100000

/-- The call's own row, or a list without room. -/
def Own (W : World) (base : Nat) (v : Value) (l : List Int) : Prop :=
  Kd.R (Kd.int .u8) 5 W base (fun _ => True) v l ∨ ∃ ad, v = .slice (some ad) l.length l.length ∧ Kd.C (Kd.int .u8) W (some ad) l.length l
theorem Own.reads {W : World} {base : Nat} {v : Value} {l : List Int} (h : Own W base v l) : ∃ A c, v = .slice A l.length c ∧ l.length ≤ c ∧ Kd.C (Kd.int .u8) W A l.length l := by
  rcases h with h | ⟨ad, rfl, hC⟩
  · exact Kd.R_reads h
  · exact ⟨_, _, rfl, Nat.le_refl _, hC⟩
theorem Own.below {W W' : World} {base : Nat} {v : Value} {l : List Int} (h : Own W base v l) (hb : Below W.heap.size W W') : Own W' base v l := by
  rcases h with h | ⟨ad, rfl, hC⟩
  · exact .inl (Kd.R_below h hb)
  · exact .inr ⟨ad, rfl, Kd.C_below hC hb⟩
theorem wpList_append_any {ops : Array Oper} {rest : List Oper} {o : Oper} {a : Act} {w0 W : World} {Q : Exit → Act → World → Prop} (base : Nat)
    (hg : o.guard = none) (s x : Operand) (hop : o.op = Op.call { callee := Callee.builtin Builtin.append, args := #[s, x], argTypes := #[22, 22] })
    (v : Value) (l1 : List Int) (hs : a.eval s = v) (HO : Own W base v l1)
    (Ax : Option Addr) (c : Nat) (l2 : List Int) (hx : a.eval x = .slice Ax l2.length c) (hC2 : Kd.C (Kd.int .u8) W Ax l2.length l2) (HB : Below base w0 W) (hbase : base ≤ W.heap.size) (h0 : 0 < l2.length) (hb : l1.length + l2.length ≤ 100000000000000) (l3 : List Int) (h3 : l3 = l1 ++ l2)
    (hK : ∀ v' w', Own w' base v' l3 → Below base w0 w' → wpList Tryd.prog ops Q rest (a.put o.dst v') w') :
    wpList Tryd.prog ops Q (o :: rest) a W := by
  subst h3
  rcases HO with HO | ⟨As, rfl, hC1⟩
  · refine Kd.R_append_rows (Kd.int .u8) (w0 := w0) base hg s x 22 5 (.int .u8 0) 1 hop Tryd.underlying22 PB.spi rfl (by decide) (by omega) v l1 l2 _ _ _ (fun _ => True) (fun _ => False) hs hx ?aO ?aR (fun _ _ h => h) (fun _ h => h.elim) ?aF ?aB ?aS ?aL ?_
    case aO => exact HO
    case aR => exact hC2
    case aF => exact fun _ _ => trivial
    case aB => exact HB
    case aS => exact hbase
    case aL => omega
    intro v' w' ho hb' _ _
    exact hK v' w' (.inl ho) hb'
  · obtain ⟨ad, hAx, _⟩ := Kd.at_int hC2 (0 : Int) (by omega) (by omega)
    subst hAx
    obtain ⟨i, hi, z0, z1, z2⟩ := infoB
    refine wpList_append_grows W hg s x 22 hop 5 i (.int .u8 0) 1 1 Tryd.underlying22 hi z0 z1 z2 rfl (by decide) (some As) l1.length l1.length (l1.map (Value.int .u8)) hs (fun h => by cases h) (by simp) (fun b hb' => by obtain rfl := Option.some.inj hb'; exact cells_of hC1)
      ad l2.length c (l2.map (Value.int .u8)) hx (by simp) (cells_of hC2) (fun u hu => by obtain ⟨y, _, rfl⟩ := List.mem_map.1 hu; rfl) (by omega) (by unfold maxLen; omega) (by omega) ?_
    intro v' w' ho hgr
    have hB : Below W.heap.size W w' := (Below.refl _ W).grown hgr (Nat.le_refl _) (by intro k hk; simp at hk)
    have ho' : w'.ownsRow W.heap.size 5 1 v' (l1 ++ l2).length (encs (Value.int .u8) (l1 ++ l2)) := by
      rw [List.length_append, show encs (Value.int .u8) (l1 ++ l2) = l1.map (Value.int .u8) ++ l2.map (Value.int .u8) by simp [encs]]
      exact ho
    exact hK v' w' (.inl (Kd.R_lower (Kd.R_of_own (h1 := fun _ => rfl) ho' (ok := fun _ => True) (fun _ _ => trivial)) hbase))
      (HB.trans ⟨hB.os, hB.tape, hB.output, hB.size, fun k hk => hB.block k (Nat.lt_of_lt_of_le hk hbase)⟩)
end Go.Proofs.YtdflblegdfpdpaaDoor.AppG
