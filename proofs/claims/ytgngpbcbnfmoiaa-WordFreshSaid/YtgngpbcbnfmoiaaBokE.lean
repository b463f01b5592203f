/- Book.plain walked: the lists of bytes hold their marks. -/
import Derived.Test.YtgngpbcbnfmoiaaBokD
import Derived.Test.YtgngpbcbnfmoiaaBokC
import Derived.Deep.RegionHeld3
namespace Go.Proofs.Ytgngpbcbnfmoiaa.BokE
open Go Go.RowKit Go.Proofs.YtgngpbcbnfmoiaaW.PrintWords Go.Proofs.YtgngpbcbnfmoiaaW.PrintLast Go.Proofs.YtgngpbcbnfmoiaaW.PrintMore Go.Proofs.Ytgngpbcbnfmoiaa.PF Go.Proofs.Ytgngpbcbnfmoiaa.RowU Go.Proofs.Ytgngpbcbnfmoiaa.ArS Go.Proofs.Ytgngpbcbnfmoiaa.ArM Go.Proofs.Ytgngpbcbnfmoiaa.GenM Go.Proofs.Ytgngpbcbnfmoiaa.GenN Go.Proofs.Ytgngpbcbnfmoiaa.BokA Go.Proofs.Ytgngpbcbnfmoiaa.BokT Go.Proofs.Ytgngpbcbnfmoiaa.BokB
set_option linter.unusedVariables false
set_option maxRecDepth 100000

theorem _root_.Go.Proofs.Ytgngpbcbnfmoiaa.BokA.Bk.below {W W' : World} {g off : Nat} {ow : Own} {vB vBo : Value} {eB : List Ent} {aB : Nat} {vW vWo : Value} {eW : List Ent} {aW turn done used : Nat} (h : Bk W g off ow vB vBo eB aB vW vWo eW aW turn done used) (hb : Below W.heap.size W W') : Bk W' g off ow vB vBo eB aB vW vWo eW aW turn done used :=
  h.move (S := none_) (Upd.of_below hb) (fun h => h) (fun _ _ h => h)
/-- A table's list i, as the code reads it: the table's block, the numbers' block, the list. -/
theorem tb_at {k : Nat} {Tt Te : TypeId} {el : Nat → Nat → Value} {W : World} {ow : Own} {v vo : Value} {es : List Ent} {a U : Nat} (h : Tb k Tt Te el W ow v vo es a U) {i : Nat} (hi : i < es.length) :
    ∃ gt ct go co m n Ae ce, v = .slice (some ⟨gt, 0, none⟩) es.length ct ∧ vo = .slice (some ⟨go, 0, none⟩) es.length co ∧ es[i]? = some ⟨.slice Ae n ce, m, n⟩ ∧ n ≤ 6000000 ∧ m ≤ 1000000000000000 ∧ W.cell? ⟨gt, i, none⟩ = some (.slice Ae n ce) ∧ W.cell? ⟨go, i, none⟩ = some (.int .i64 (m : Int)) ∧ GV Te W (.slice Ae n ce) (mkL el m n) := by
  obtain ⟨⟨x, m, n⟩, he⟩ : ∃ e, es[i]? = some e := ⟨_, List.getElem?_eq_getElem hi⟩
  obtain ⟨h1, h2, h3⟩ := h.ent _ (List.mem_of_getElem? he)
  obtain ⟨Ae, ce, hx⟩ := h1.slice
  rw [mkL_len] at hx
  have hx : x = .slice Ae n ce := hx
  subst hx
  obtain ⟨gt, ct, e1, c1⟩ := h.tab.get i _ (vsOf_get he)
  obtain ⟨go, co, e2, c2⟩ := h.of_.get i _ (msOf_get he)
  rw [vsOf_len] at e1
  rw [msOf_len] at e2
  exact ⟨gt, ct, go, co, m, n, Ae, ce, e1, e2, he, h2, h3, c1, c2, h1⟩
theorem gv_some {Te : TypeId} {W : World} {A : Option Addr} {n c : Nat} {l : List Value} (h : GV Te W (.slice A n c) l) (hn : 0 < n) : ∃ ge, A = some ⟨ge, 0, none⟩ ∧ GenAt Te W ge c l ∧ n = l.length := by
  rcases h with ⟨h1, _⟩ | ⟨g, cap, h1, h2⟩
  · simp only [Value.slice.injEq] at h1; omega
  · simp only [Value.slice.injEq] at h1
    obtain ⟨rfl, rfl, rfl⟩ := h1
    exact ⟨g, rfl, h2, rfl⟩
set_option maxHeartbeats 8000000 in
theorem plain.calls {W : World} {g off : Nat} {ow : Own} {vB vBo : Value} {eB : List Ent} {aB : Nat} {vW vWo : Value} {eW : List Ent} {aW turn done used : Nat} (h : Bk W g off ow vB vBo eB aB vW vWo eW aW turn done used) :
    Calls Try.prog 72 #[.pointer (some ⟨g, off, none⟩)] W fun e w' => e = .returned (.bool true) ∧ Below W.heap.size W w' := by
  have HB := Aside0.mk h
  obtain ⟨A0, c0, hvB⟩ := h.tB.tab.slice
  rw [vsOf_len] at hvB
  have HL : Aside0 (eB.length ≤ 140000) := ⟨cnt_fit h.tB h.us⟩
  have hlen := HL.out
  subst hvB
  clear h
  go_enter Try.func72, Try.ntmps72
  go_wp2_with fail
  go_loopw [3] (fun i wr => ∃ k : Nat, k ≤ eB.length ∧ i = .int .i64 k ∧ Aside0 (Below W.heap.size W wr)) (fun i _ => eB.length - (intOf i).toNat)
  case atStart => exact ⟨0, by omega, rfl, ⟨Below.refl _ _⟩⟩
  case round =>
    obtain ⟨i, hi, rfl, H0⟩ := hrel
    rename World => wr
    have hx0 : wr.cell? ⟨g, off, none⟩ = some (.slice A0 eB.length c0) := (HB.out.below H0.out).hd.cell 0 (by omega)
    by_cases hlt : i < eB.length
    · have hlt' : (i : Int) < eB.length := by omega
      have hi0 : (0 : Int) ≤ (i : Int) := by omega
      go_wp2_with fail
      clear hx0
      obtain ⟨gt, ct, go, co, m, n, Ae, ce, e1, e2, -, hn, hm, c1, c2, hgv⟩ := tb_at HB.out.tB hlt
      simp only [Value.slice.injEq, true_and] at e1
      obtain ⟨rfl, rfl⟩ := e1
      subst e2
      have HR : Aside0 (∀ w', Below W.heap.size W w' → w'.cell? ⟨g, off, none⟩ = some (.slice (some ⟨gt, 0, none⟩) eB.length c0) ∧ w'.cell? ⟨gt, i, none⟩ = some (.slice Ae n ce) ∧ w'.cell? ⟨g, off + 1, none⟩ = some (.slice (some ⟨go, 0, none⟩) eB.length co) ∧ w'.cell? ⟨go, i, none⟩ = some (.int .i64 (m : Int)) ∧ GV 5 w' (.slice Ae n ce) (mkL elB m n)) := ⟨fun w' hb => ⟨(HB.out.below hb).hd.cell 0 (by omega), (hb.cell (World.block_lt_of_cell? _ _ c1)).trans c1, (HB.out.below hb).hd.cell 1 (by omega), (hb.cell (World.block_lt_of_cell? _ _ c2)).trans c2, hgv.upd (S := none_) (Upd.of_below hb) (fun _ _ h => h)⟩⟩
      clear c1 c2 hgv
      go_loopw [4] (fun k wr => ∃ j : Nat, j ≤ n ∧ k = .int .i64 j ∧ Aside0 (Below W.heap.size W wr)) (fun k _ => n - (intOf k).toNat)
      case atStart => exact ⟨0, by omega, rfl, H0⟩
      case round =>
        obtain ⟨k, hk, rfl, HK⟩ := hrel
        clear H0
        rename World => wk
        obtain ⟨hx0, hx1, hx2, hx3, hx4⟩ := HR.out wk HK.out
        have HG := Aside0.mk hx4
        clear hx2 hx3 hx4
        by_cases hkl : k < n
        · have hkl' : (k : Int) < n := by omega
          have hk0 : (0 : Int) ≤ (k : Int) := by omega
          obtain ⟨ge, rfl, hge, -⟩ := gv_some HG.out (by omega)
          have HAt := Aside0.mk (fun w => at_all m k hm (by omega) w)
          simp only [elB] at HAt
          have HNM := Aside0.mk (And.intro hn hm)
          have HGE := Aside0.mk hge
          clear hm hge
          go_wp2_with fail
          clear hx0 hx1
          have HS : Aside0 (∀ w', Below W.heap.size W w' → w'.cell? ⟨g, off, none⟩ = some (.slice (some ⟨gt, 0, none⟩) eB.length c0) ∧ w'.cell? ⟨gt, i, none⟩ = some (.slice (some ⟨ge, 0, none⟩) n ce) ∧ w'.cell? ⟨ge, k, none⟩ = some (.int .u8 (atN m k : Int)) ∧ w'.cell? ⟨g, off + 1, none⟩ = some (.slice (some ⟨go, 0, none⟩) eB.length co) ∧ w'.cell? ⟨go, i, none⟩ = some (.int .i64 (m : Int))) := ⟨fun w' hb => by
            obtain ⟨a1, a2, a3, a4, a5⟩ := HR.out w' hb
            exact ⟨a1, a2, (GenAt.of_gv a5).1.get k _ (mkL_get elB m hkl), a3, a4⟩⟩
          have HK0 := Aside0.mk (HS.out wk HK.out)
          go_region_held3 (fun w' => w'.cell? ⟨g, off, none⟩ = some (.slice (some ⟨gt, 0, none⟩) eB.length c0) ∧ w'.cell? ⟨gt, i, none⟩ = some (.slice (some ⟨ge, 0, none⟩) n ce) ∧ w'.cell? ⟨ge, k, none⟩ = some (.int .u8 (atN m k : Int)) ∧ w'.cell? ⟨g, off + 1, none⟩ = some (.slice (some ⟨go, 0, none⟩) eB.length co) ∧ w'.cell? ⟨go, i, none⟩ = some (.int .i64 (m : Int))) (first | exact HK1.out | exact HK0.out) (first | (go_at_call 60; refine (HAt.out _).mono ?_; rintro e w2 ⟨rfl, hb⟩; have H2 := Aside0.mk (below_next HK.out (below_next (Below.refl wk.heap.size wk).drew hb)); have HK1 := Aside0.mk (HS.out w2 H2.out); clear hb))
          go_wp2_with fail
          exact ⟨⟨k + 1, by omega, by rw [Int.natCast_succ], H2⟩, by simp only [intOf]; omega⟩
        · obtain rfl : k = n := by omega
          go_wp2_with fail
          clear hx0 hx1
          exact ⟨⟨i + 1, by omega, by rw [Int.natCast_succ], HK⟩, by simp only [intOf]; omega⟩
    · obtain rfl : i = eB.length := by omega
      clear hlt
      go_wp2_with fail
      clear hx0
      go_loopw [5] (fun i wr => i = .int .i64 0 ∧ Aside0 (Below W.heap.size W wr)) (fun _ _ => 0)
      case atStart => exact ⟨rfl, H0⟩
      case round =>
        obtain ⟨rfl, H1⟩ := hrel
        clear H0
        rename World => wq
        have hx3 : wq.cell? ⟨g, off + 3, none⟩ = some (.slice none 0 0) := (HB.out.below H1.out).hd.cell 3 (by omega)
        go_wp2_with fail
        go_ret
        exact ⟨rfl, H1.out⟩
end Go.Proofs.Ytgngpbcbnfmoiaa.BokE
