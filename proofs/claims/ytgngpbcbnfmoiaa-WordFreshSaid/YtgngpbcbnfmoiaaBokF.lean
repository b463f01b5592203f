/- Book.kept, told, holds walked. -/
import Derived.Test.YtgngpbcbnfmoiaaBokE
import Derived.Deep.RegionHeld3
namespace Go.Proofs.Ytgngpbcbnfmoiaa.BokF
open Go Go.RowKit Go.Proofs.YtgngpbcbnfmoiaaW.PrintWords Go.Proofs.YtgngpbcbnfmoiaaW.PrintLast Go.Proofs.YtgngpbcbnfmoiaaW.PrintMore Go.Proofs.Ytgngpbcbnfmoiaa.PF Go.Proofs.Ytgngpbcbnfmoiaa.RowU Go.Proofs.Ytgngpbcbnfmoiaa.ArS Go.Proofs.Ytgngpbcbnfmoiaa.ArM Go.Proofs.Ytgngpbcbnfmoiaa.GenM Go.Proofs.Ytgngpbcbnfmoiaa.GenN Go.Proofs.Ytgngpbcbnfmoiaa.BokA Go.Proofs.Ytgngpbcbnfmoiaa.BokT Go.Proofs.Ytgngpbcbnfmoiaa.BokB Go.Proofs.Ytgngpbcbnfmoiaa.BokE
set_option linter.unusedVariables false
set_option maxRecDepth 100000

set_option maxHeartbeats 8000000 in
theorem kept.calls {W : World} {g off : Nat} {ow : Own} {vB vBo : Value} {eB : List Ent} {aB : Nat} {vW vWo : Value} {eW : List Ent} {aW turn done used : Nat} (h : Bk W g off ow vB vBo eB aB vW vWo eW aW turn done used) :
    Calls Try.prog 73 #[.pointer (some ⟨g, off, none⟩)] W fun e w' => e = .returned (.bool true) ∧ Below W.heap.size W w' := by
  have HB := Aside0.mk h
  obtain ⟨A0, c0, hvW⟩ := h.tW.tab.slice
  rw [vsOf_len] at hvW
  have HL : Aside0 (eW.length ≤ 140000) := ⟨cnt_fit h.tW h.us⟩
  have hlen := HL.out
  subst hvW
  clear h
  go_enter Try.func73, Try.ntmps73
  go_wp2_with fail
  go_loopw [3] (fun i wr => ∃ k : Nat, k ≤ eW.length ∧ i = .int .i64 k ∧ Aside0 (Below W.heap.size W wr)) (fun i _ => eW.length - (intOf i).toNat)
  case atStart => exact ⟨0, by omega, rfl, ⟨Below.refl _ _⟩⟩
  case round =>
    obtain ⟨i, hi, rfl, H0⟩ := hrel
    rename World => wr
    have hx0 : wr.cell? ⟨g, off + 6, none⟩ = some (.slice A0 eW.length c0) := (HB.out.below H0.out).hd.cell 6 (by omega)
    by_cases hlt : i < eW.length
    · have hlt' : (i : Int) < eW.length := by omega
      have hi0 : (0 : Int) ≤ (i : Int) := by omega
      go_wp2_with fail
      clear hx0
      obtain ⟨gt, ct, go, co, m, n, Ae, ce, e1, e2, -, hn, hm, c1, c2, hgv⟩ := tb_at HB.out.tW hlt
      simp only [Value.slice.injEq, true_and] at e1
      obtain ⟨rfl, rfl⟩ := e1
      subst e2
      have HR : Aside0 (∀ w', Below W.heap.size W w' → w'.cell? ⟨g, off + 6, none⟩ = some (.slice (some ⟨gt, 0, none⟩) eW.length c0) ∧ w'.cell? ⟨gt, i, none⟩ = some (.slice Ae n ce) ∧ w'.cell? ⟨g, off + 7, none⟩ = some (.slice (some ⟨go, 0, none⟩) eW.length co) ∧ w'.cell? ⟨go, i, none⟩ = some (.int .i64 (m : Int)) ∧ GV 23 w' (.slice Ae n ce) (mkL elW m n)) := ⟨fun w' hb => ⟨(HB.out.below hb).hd.cell 6 (by omega), (hb.cell (World.block_lt_of_cell? _ _ c1)).trans c1, (HB.out.below hb).hd.cell 7 (by omega), (hb.cell (World.block_lt_of_cell? _ _ c2)).trans c2, hgv.upd (S := none_) (Upd.of_below hb) (fun _ _ h => h)⟩⟩
      clear c1 c2 hgv
      go_loopw [4] (fun k wr => ∃ j : Nat, j ≤ n ∧ k = .int .i64 j ∧ Aside0 (Below W.heap.size W wr)) (fun k _ => n - (intOf k).toNat)
      case atStart => exact ⟨0, by omega, rfl, H0⟩
      case round =>
        obtain ⟨k, hk, rfl, HK⟩ := hrel
        clear H0
        rename World => wk
        obtain ⟨hx0, hx1, hx2, hx3, hx4⟩ := HR.out wk HK.out
        have HG := Aside0.mk hx4
        clear hx2 hx3 hx4
        by_cases hkl : k < n
        · have hkl' : (k : Int) < n := by omega
          have hk0 : (0 : Int) ≤ (k : Int) := by omega
          obtain ⟨ge, rfl, hge, -⟩ := gv_some HG.out (by omega)
          have HAt := Aside0.mk (fun w => wm_all m hm w)
          have HNM := Aside0.mk (And.intro hn hm)
          have HGE := Aside0.mk hge
          clear hm hge
          go_wp2_with fail
          clear hx0 hx1
          have HS : Aside0 (∀ w', Below W.heap.size W w' → w'.cell? ⟨g, off + 6, none⟩ = some (.slice (some ⟨gt, 0, none⟩) eW.length c0) ∧ w'.cell? ⟨gt, i, none⟩ = some (.slice (some ⟨ge, 0, none⟩) n ce) ∧ w'.cell? ⟨ge, k, none⟩ = some (.int .u64 (wmN m : Int)) ∧ w'.cell? ⟨g, off + 7, none⟩ = some (.slice (some ⟨go, 0, none⟩) eW.length co) ∧ w'.cell? ⟨go, i, none⟩ = some (.int .i64 (m : Int))) := ⟨fun w' hb => by
            obtain ⟨a1, a2, a3, a4, a5⟩ := HR.out w' hb
            exact ⟨a1, a2, (GenAt.of_gv a5).1.get k _ (mkL_get elW m hkl), a3, a4⟩⟩
          have HK0 := Aside0.mk (HS.out wk HK.out)
          go_region_held3 (fun w' => w'.cell? ⟨g, off + 6, none⟩ = some (.slice (some ⟨gt, 0, none⟩) eW.length c0) ∧ w'.cell? ⟨gt, i, none⟩ = some (.slice (some ⟨ge, 0, none⟩) n ce) ∧ w'.cell? ⟨ge, k, none⟩ = some (.int .u64 (wmN m : Int)) ∧ w'.cell? ⟨g, off + 7, none⟩ = some (.slice (some ⟨go, 0, none⟩) eW.length co) ∧ w'.cell? ⟨go, i, none⟩ = some (.int .i64 (m : Int))) (first | exact HK1.out | exact HK0.out) (first | (go_at_call 64; refine (HAt.out _).mono ?_; rintro e w2 ⟨rfl, hb⟩; have H2 := Aside0.mk (below_next HK.out (below_next (Below.refl wk.heap.size wk).drew hb)); have HK1 := Aside0.mk (HS.out w2 H2.out); clear hb))
          go_wp2_with fail
          exact ⟨⟨k + 1, by omega, by rw [Int.natCast_succ], H2⟩, by simp only [intOf]; omega⟩
        · obtain rfl : k = n := by omega
          go_wp2_with fail
          clear hx0 hx1
          exact ⟨⟨i + 1, by omega, by rw [Int.natCast_succ], HK⟩, by simp only [intOf]; omega⟩
    · obtain rfl : i = eW.length := by omega
      clear hlt
      go_wp2_with fail
      clear hx0
      go_loopw [5] (fun i wr => i = .int .i64 0 ∧ Aside0 (Below W.heap.size W wr)) (fun _ _ => 0)
      case atStart => exact ⟨rfl, H0⟩
      case round =>
        obtain ⟨rfl, H1⟩ := hrel
        clear H0
        rename World => wq0
        have hx3 : wq0.cell? ⟨g, off + 9, none⟩ = some (.slice none 0 0) := (HB.out.below H1.out).hd.cell 9 (by omega)
        go_wp2_with fail
        clear hx3
        go_loopw [9] (fun i wr => i = .int .i64 0 ∧ Aside0 (Below W.heap.size W wr)) (fun _ _ => 0)
        case atStart => exact ⟨rfl, H1⟩
        case round =>
          obtain ⟨rfl, H2⟩ := hrel
          clear H1
          rename World => wq1
          have hx3 : wq1.cell? ⟨g, off + 12, none⟩ = some (.slice none 0 0) := (HB.out.below H2.out).hd.cell 12 (by omega)
          go_wp2_with fail
          clear hx3
          go_loopw [13] (fun i wr => i = .int .i64 0 ∧ Aside0 (Below W.heap.size W wr)) (fun _ _ => 0)
          case atStart => exact ⟨rfl, H2⟩
          case round =>
            obtain ⟨rfl, H3⟩ := hrel
            clear H2
            rename World => wq2
            have hx3 : wq2.cell? ⟨g, off + 15, none⟩ = some (.slice none 0 0) := (HB.out.below H3.out).hd.cell 15 (by omega)
            go_wp2_with fail
            clear hx3
            go_ret
            exact ⟨rfl, H3.out⟩
set_option maxHeartbeats 8000000 in
theorem told.calls {W : World} {g off : Nat} {ow : Own} {vB vBo : Value} {eB : List Ent} {aB : Nat} {vW vWo : Value} {eW : List Ent} {aW turn done used : Nat} (h : Bk W g off ow vB vBo eB aB vW vWo eW aW turn done used) :
    Calls Try.prog 74 #[.pointer (some ⟨g, off, none⟩)] W fun e w' => e = .returned (.bool true) ∧ Below W.heap.size W w' := by
  have HB := Aside0.mk h
  have H0 : Aside0 (Below W.heap.size W W) := ⟨Below.refl _ _⟩
  clear h
  go_enter Try.func74, Try.ntmps74
  go_wp2_with fail
  go_loopw [3] (fun i wr => i = .int .i64 0 ∧ Aside0 (Below W.heap.size W wr)) (fun _ _ => 0)
  case atStart => exact ⟨rfl, H0⟩
  case round =>
    obtain ⟨rfl, H1⟩ := hrel
    clear H0
    rename World => wq0
    have hx3 : wq0.cell? ⟨g, off + 18, none⟩ = some (.slice none 0 0) := (HB.out.below H1.out).hd.cell 18 (by omega)
    go_wp2_with fail
    clear hx3
    go_loopw [7] (fun i wr => i = .int .i64 0 ∧ Aside0 (Below W.heap.size W wr)) (fun _ _ => 0)
    case atStart => exact ⟨rfl, H1⟩
    case round =>
      obtain ⟨rfl, H2⟩ := hrel
      clear H1
      rename World => wq1
      have hx3 : wq1.cell? ⟨g, off + 21, none⟩ = some (.slice none 0 0) := (HB.out.below H2.out).hd.cell 21 (by omega)
      go_wp2_with fail
      clear hx3
      go_loopw [11] (fun i wr => i = .int .i64 0 ∧ Aside0 (Below W.heap.size W wr)) (fun _ _ => 0)
      case atStart => exact ⟨rfl, H2⟩
      case round =>
        obtain ⟨rfl, H3⟩ := hrel
        clear H2
        rename World => wq2
        have hx3 : wq2.cell? ⟨g, off + 24, none⟩ = some (.slice none 0 0) := (HB.out.below H3.out).hd.cell 24 (by omega)
        go_wp2_with fail
        clear hx3
        go_loopw [15] (fun i wr => i = .int .i64 0 ∧ Aside0 (Below W.heap.size W wr)) (fun _ _ => 0)
        case atStart => exact ⟨rfl, H3⟩
        case round =>
          obtain ⟨rfl, H4⟩ := hrel
          clear H3
          rename World => wq3
          have hx3 : wq3.cell? ⟨g, off + 27, none⟩ = some (.slice none 0 0) := (HB.out.below H4.out).hd.cell 27 (by omega)
          go_wp2_with fail
          clear hx3
          go_ret
          exact ⟨rfl, H4.out⟩
set_option maxHeartbeats 4000000 in
theorem holds.calls {W : World} {g off : Nat} {ow : Own} {vB vBo : Value} {eB : List Ent} {aB : Nat} {vW vWo : Value} {eW : List Ent} {aW turn done used : Nat} (h : Bk W g off ow vB vBo eB aB vW vWo eW aW turn done used) :
    Calls Try.prog 62 #[.pointer (some ⟨g, off, none⟩)] W fun e w' => e = .returned (.bool true) ∧ Below W.heap.size W w' := by
  have HB := Aside0.mk h
  clear h
  go_enter Try.func62, Try.ntmps62
  go_wp2_with fail
  refine (BokE.plain.calls HB.out).mono ?_
  rintro e w2 ⟨rfl, hb⟩
  have H2 := Aside0.mk hb
  clear hb
  go_wp2_with fail
  refine (kept.calls (HB.out.below H2.out)).mono ?_
  rintro e w3 ⟨rfl, hb⟩
  have H3 := Aside0.mk (below_next H2.out hb)
  clear hb
  go_wp2_with fail
  refine (told.calls (HB.out.below H3.out)).mono ?_
  rintro e w4 ⟨rfl, hb⟩
  have H4 := Aside0.mk (below_next H3.out hb)
  clear hb
  go_wp2_with fail
  go_ret
  exact ⟨rfl, H4.out⟩
end Go.Proofs.Ytgngpbcbnfmoiaa.BokF
