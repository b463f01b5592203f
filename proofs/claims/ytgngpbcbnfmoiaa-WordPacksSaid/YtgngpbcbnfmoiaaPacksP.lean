/- WordPacks: true at every script; the machine's call answers it. -/
import Derived.Test.YtgngpbcbnfmoiaaPJm
import Derived.Test.YtgngpbcbnfmoiaaArgsW
namespace Go.Proofs.Ytgngpbcbnfmoiaa.PacksP
open Go Go.RowKit Go.Proofs.YtgngpbcbnfmoiaaW.PrintWords Go.Proofs.YtgngpbcbnfmoiaaW.PrintLast Go.Proofs.YtgngpbcbnfmoiaaW.PrintMore Go.Proofs.Ytgngpbcbnfmoiaa.PJ Go.Proofs.Ytgngpbcbnfmoiaa.ArgsW Go.Proofs.Ytgngpbcbnfmoiaa.Open

theorem o_op : Opens Try.prog 71 k71 (fun y => PQ.goodOp y.f1 y.f4 y.f5 y.f6 y.f7 y.f8) :=
  fun F => (at_iso (fun x : S71 => (x.f0, x.f1, x.f2, x.f3, x.f4, x.f5, x.f6, x.f7, x.f8)) (fun t => ⟨t.1, t.2.1, t.2.2.1, t.2.2.2.1, t.2.2.2.2.1, t.2.2.2.2.2.1, t.2.2.2.2.2.2.1, t.2.2.2.2.2.2.2.1, t.2.2.2.2.2.2.2.2⟩) (fun _ => rfl)
    ((opens_struct Try.underlying71 rfl (by kernel_rfl) (fields2 rfl o_int (fields2 rfl o_int (fields2 rfl o_int (fields2 rfl o_int (fields2 rfl o_i64 (fields2 rfl o_i64 (fields2 rfl o_u64 (fields2 rfl o_bytes (fields1 rfl o_words))))))))) F))).good_imp
    (fun _ h => ⟨h.2.1, h.2.2.2.2.1, h.2.2.2.2.2.1, h.2.2.2.2.2.2.1, h.2.2.2.2.2.2.2.1, h.2.2.2.2.2.2.2.2⟩)
theorem o_ops : Opens Try.prog 49 (Kd.slice 71 k71) (GoodL 104 (fun y => PQ.goodOp y.f1 y.f4 y.f5 y.f6 y.f7 y.f8)) :=
  opens_slice Try.underlying49 (by kernel_rfl) (by kernel_rfl) o_op

theorem upTo_ev (l : List S71) (lo hi : Int) (hn : l.length < 9223372036854775807) (hp : ∀ y ∈ l, lo ≤ y.f0 → y.f0 ≤ hi → PQ.larderlaw1_plays.f y.f0 y.f1 y.f2 y.f3 y.f4 y.f5 y.f6 y.f7 y.f8 = some true) (d : Nat) :
    ∀ i : Nat, i + d = l.length → Ev (fun k => larderlaw1_upTo.l0 k l lo hi i) true := by
  induction d with
  | zero =>
    intro i hi'
    refine Ev.step (f := fun _ => some true) (fun k => ?_) (Ev.now true)
    simp only [larderlaw1_upTo.l0]
    rw [if_neg (by omega)]
  | succ d ih =>
    intro i hi'
    have hlt : i < l.length := by omega
    have hw : wrap64 ((i : Int) + 1) = ((i + 1 : Nat) : Int) := by unfold wrap64; omega
    have hrd : rd_T71 l (i : Int) = l[i] := by unfold rd_T71; rw [Int.toNat_natCast, List.getD_eq_getElem?_getD, List.getElem?_eq_getElem hlt]; rfl
    refine Ev.step (f := fun k => larderlaw1_upTo.l0 k l lo hi ((i + 1 : Nat) : Int)) (fun k => ?_) (ih (i + 1) (by omega))
    simp only [larderlaw1_upTo.l0]
    rw [if_pos (by omega), if_pos (by omega), hrd, hw]
    by_cases c1 : l[i].f0 ≥ lo
    · rw [if_pos c1]
      by_cases c2 : l[i].f0 ≤ hi
      · rw [if_pos c2, hp _ (List.getElem_mem hlt) c1 c2, Option.bind_some, if_pos rfl]
      · rw [if_neg c2]
    · rw [if_neg c1]

theorem walk (y : List S71) (v : Value) (W : World) (hK : (Kd.slice 71 k71).K W y [v]) (hg : GoodL 104 (fun y => PQ.goodOp y.f1 y.f4 y.f5 y.f6 y.f7 y.f8) y) :
    Calls Try.prog 10 #[v] W fun e w' => e = .returned (.bool true) ∧ Below W.heap.size W w' := by
  obtain ⟨A, c, hv, hl, hC⟩ := hK
  obtain rfl : v = .slice A y.length c := by simpa using hv
  have h := upTo_ev y 3 5 (by have := hg.1; omega) (fun o ho h1 h2 => if_pos ⟨by omega, hg.2 o ho⟩) y.length 0 (by omega)
  obtain ⟨k, hk⟩ := Ev.rounds (Ev.congr (g := fun k => larderlaw1_WordPacks.f k y) (fun k => by
    unfold larderlaw1_WordPacks.f larderlaw1_upTo.f
    cases larderlaw1_upTo.l0 k y 3 5 0 <;> rfl) h)
  exact larderlaw1_WordPacks.calls k A c y true W hC hl hk
end Go.Proofs.Ytgngpbcbnfmoiaa.PacksP
