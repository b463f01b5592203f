/- Book.grow, Look walked. -/
import Derived.Test.YtgngpbcbnfmoiaaBokI
import Derived.Test.YtgngpbcbnfmoiaaBokH
namespace Go.Proofs.Ytgngpbcbnfmoiaa.BokJ
open Go Go.RowKit Go.Proofs.YtgngpbcbnfmoiaaW.PrintWords Go.Proofs.YtgngpbcbnfmoiaaW.PrintLast Go.Proofs.YtgngpbcbnfmoiaaW.PrintMore Go.Proofs.Ytgngpbcbnfmoiaa.PF Go.Proofs.Ytgngpbcbnfmoiaa.RowU Go.Proofs.Ytgngpbcbnfmoiaa.ArS Go.Proofs.Ytgngpbcbnfmoiaa.ArM Go.Proofs.Ytgngpbcbnfmoiaa.GenM Go.Proofs.Ytgngpbcbnfmoiaa.GenN Go.Proofs.Ytgngpbcbnfmoiaa.BokA Go.Proofs.Ytgngpbcbnfmoiaa.BokT Go.Proofs.Ytgngpbcbnfmoiaa.BokB Go.Proofs.Ytgngpbcbnfmoiaa.BokE Go.Proofs.Ytgngpbcbnfmoiaa.BokF Go.Proofs.Ytgngpbcbnfmoiaa.BokG Go.Proofs.Ytgngpbcbnfmoiaa.BokS
set_option linter.unusedVariables false
set_option maxRecDepth 100000
/-- A cell is written with what it held, or with a number of the book's own. -/
theorem bk_store {W : World} {g off : Nat} {ow : Own} {vB vBo : Value} {eB : List Ent} {aB : Nat} {vW vWo : Value} {eW : List Ent} {aW turn done used : Nat} (h : Bk W g off ow vB vBo eB aB vW vWo eW aW turn done used) (j : Nat) (hj : j < 33) (v : Value) {done' : Nat} (hc : ∀ i, i < 33 → putC (bkC vB vBo aB vW vWo aW turn done used) j v i = bkC vB vBo aB vW vWo aW turn done' used i) :
    Bk (W.setCell ⟨g, off + j, none⟩ v) g off ow vB vBo eB aB vW vWo eW aW turn done' used ∧ BkS W (W.setCell ⟨g, off + j, none⟩ v) g off ow ow nix := by
  have hu := put_upd W g (off + j) v
  have hne : ∀ b, ow b ≠ none → ¬ (fun b => b = g) b := fun b hb e => by have e : b = g := e; subst e; exact hb h.ng
  exact ⟨⟨(h.hd.put j hj v).congr hc, h.tB.move hu (fun b t hb => hne b (by rw [hb]; simp)) (Own.le.refl _) (Nat.le_refl _), h.tW.move hu (fun b t hb => hne b (by rw [hb]; simp)) (Own.le.refl _) (Nat.le_refl _), fun b hb => Nat.lt_of_lt_of_le (h.lt b hb) hu.size, h.ng, h.us⟩, ⟨hu.mono (fun b hb => .inl hb), fun b hb => .inl hb, fun i hi => set_keep h.hd.blk (by omega)⟩⟩
set_option maxHeartbeats 4000000 in
theorem growRows.calls {W : World} {g off : Nat} {ow : Own} {vB vBo : Value} {eB : List Ent} {aB : Nat} {vW vWo : Value} {eW : List Ent} {aW turn done used : Nat} (h : Bk W g off ow vB vBo eB aB vW vWo eW aW turn done used) :
    Calls Try.prog 76 #[.pointer (some ⟨g, off, none⟩)] W fun e w' => e = .returned (.tuple #[]) ∧ Bk w' g off ow vB vBo eB aB vW vWo eW aW turn done used ∧ BkS W w' g off ow ow nix := by
  have HB := Aside0.mk h
  have HE := Aside0.mk (bk_store h 5 (by omega) (.int .i64 0) (done' := done) (fun i hi => by
    unfold putC
    by_cases h1 : i = 5
    · subst h1; rfl
    · rw [if_neg h1]))
  have hx0 : W.cell? ⟨g, off + 3, none⟩ = some (.slice none 0 0) := h.hd.cell 3 (by omega)
  have hx2 : W.cell? ⟨g, off + 5, none⟩ = some (.int .i64 0) := h.hd.cell 5 (by omega)
  obtain ⟨cur, T, hbk⟩ := h.hd.blk
  have hfz := blk_frozen hbk (off + 5)
  clear h
  go_enter Try.func76, Try.ntmps76
  go_wp2_with fail
  go_loopw [3] (fun i wr => i = .int .i64 0 ∧ Aside0 (wr = W)) (fun _ _ => 0)
  case atStart => exact ⟨rfl, ⟨rfl⟩⟩
  case round =>
    obtain ⟨rfl, H1⟩ := hrel
    have h1 := H1.out
    subst h1
    go_wp2_with fail
    go_end0
    exact ⟨rfl, HE.out.1, HE.out.2⟩
set_option maxHeartbeats 4000000 in
theorem growScored.calls {W : World} {g off : Nat} {ow : Own} {vB vBo : Value} {eB : List Ent} {aB : Nat} {vW vWo : Value} {eW : List Ent} {aW turn done used : Nat} (h : Bk W g off ow vB vBo eB aB vW vWo eW aW turn done used) :
    Calls Try.prog 78 #[.pointer (some ⟨g, off, none⟩)] W fun e w' => e = .returned (.tuple #[]) ∧ Bk w' g off ow vB vBo eB aB vW vWo eW aW turn done used ∧ BkS W w' g off ow ow nix := by
  have HB := Aside0.mk h
  have HE := Aside0.mk (bk_store h 11 (by omega) (.int .i64 0) (done' := done) (fun i hi => by
    unfold putC
    by_cases h1 : i = 11
    · subst h1; rfl
    · rw [if_neg h1]))
  have hx0 : W.cell? ⟨g, off + 9, none⟩ = some (.slice none 0 0) := h.hd.cell 9 (by omega)
  have hx2 : W.cell? ⟨g, off + 11, none⟩ = some (.int .i64 0) := h.hd.cell 11 (by omega)
  obtain ⟨cur, T, hbk⟩ := h.hd.blk
  have hfz := blk_frozen hbk (off + 11)
  clear h
  go_enter Try.func78, Try.ntmps78
  go_wp2_with fail
  go_loopw [3] (fun i wr => i = .int .i64 0 ∧ Aside0 (wr = W)) (fun _ _ => 0)
  case atStart => exact ⟨rfl, ⟨rfl⟩⟩
  case round =>
    obtain ⟨rfl, H1⟩ := hrel
    have h1 := H1.out
    subst h1
    go_wp2_with fail
    go_end0
    exact ⟨rfl, HE.out.1, HE.out.2⟩
set_option maxHeartbeats 4000000 in
theorem growPairs.calls {W : World} {g off : Nat} {ow : Own} {vB vBo : Value} {eB : List Ent} {aB : Nat} {vW vWo : Value} {eW : List Ent} {aW turn done used : Nat} (h : Bk W g off ow vB vBo eB aB vW vWo eW aW turn done used) :
    Calls Try.prog 79 #[.pointer (some ⟨g, off, none⟩)] W fun e w' => e = .returned (.tuple #[]) ∧ Bk w' g off ow vB vBo eB aB vW vWo eW aW turn done used ∧ BkS W w' g off ow ow nix := by
  have HB := Aside0.mk h
  have HE := Aside0.mk (bk_store h 14 (by omega) (.int .i64 0) (done' := done) (fun i hi => by
    unfold putC
    by_cases h1 : i = 14
    · subst h1; rfl
    · rw [if_neg h1]))
  have hx0 : W.cell? ⟨g, off + 12, none⟩ = some (.slice none 0 0) := h.hd.cell 12 (by omega)
  have hx2 : W.cell? ⟨g, off + 14, none⟩ = some (.int .i64 0) := h.hd.cell 14 (by omega)
  obtain ⟨cur, T, hbk⟩ := h.hd.blk
  have hfz := blk_frozen hbk (off + 14)
  clear h
  go_enter Try.func79, Try.ntmps79
  go_wp2_with fail
  go_loopw [3] (fun i wr => i = .int .i64 0 ∧ Aside0 (wr = W)) (fun _ _ => 0)
  case atStart => exact ⟨rfl, ⟨rfl⟩⟩
  case round =>
    obtain ⟨rfl, H1⟩ := hrel
    have h1 := H1.out
    subst h1
    go_wp2_with fail
    go_end0
    exact ⟨rfl, HE.out.1, HE.out.2⟩
set_option maxHeartbeats 4000000 in
theorem growRepl.calls {W : World} {g off : Nat} {ow : Own} {vB vBo : Value} {eB : List Ent} {aB : Nat} {vW vWo : Value} {eW : List Ent} {aW turn done used : Nat} (h : Bk W g off ow vB vBo eB aB vW vWo eW aW turn done used) :
    Calls Try.prog 80 #[.pointer (some ⟨g, off, none⟩)] W fun e w' => e = .returned (.tuple #[]) ∧ Bk w' g off ow vB vBo eB aB vW vWo eW aW turn done used ∧ BkS W w' g off ow ow nix := by
  have HB := Aside0.mk h
  have HE := Aside0.mk (bk_store h 17 (by omega) (.int .i64 0) (done' := done) (fun i hi => by
    unfold putC
    by_cases h1 : i = 17
    · subst h1; rfl
    · rw [if_neg h1]))
  have hx0 : W.cell? ⟨g, off + 15, none⟩ = some (.slice none 0 0) := h.hd.cell 15 (by omega)
  have hx2 : W.cell? ⟨g, off + 17, none⟩ = some (.int .i64 0) := h.hd.cell 17 (by omega)
  obtain ⟨cur, T, hbk⟩ := h.hd.blk
  have hfz := blk_frozen hbk (off + 17)
  clear h
  go_enter Try.func80, Try.ntmps80
  go_wp2_with fail
  go_loopw [3] (fun i wr => i = .int .i64 0 ∧ Aside0 (wr = W)) (fun _ _ => 0)
  case atStart => exact ⟨rfl, ⟨rfl⟩⟩
  case round =>
    obtain ⟨rfl, H1⟩ := hrel
    have h1 := H1.out
    subst h1
    go_wp2_with fail
    go_end0
    exact ⟨rfl, HE.out.1, HE.out.2⟩
set_option maxHeartbeats 4000000 in
theorem growPlaces.calls {W : World} {g off : Nat} {ow : Own} {vB vBo : Value} {eB : List Ent} {aB : Nat} {vW vWo : Value} {eW : List Ent} {aW turn done used : Nat} (h : Bk W g off ow vB vBo eB aB vW vWo eW aW turn done used) :
    Calls Try.prog 81 #[.pointer (some ⟨g, off, none⟩)] W fun e w' => e = .returned (.tuple #[]) ∧ Bk w' g off ow vB vBo eB aB vW vWo eW aW turn done used ∧ BkS W w' g off ow ow nix := by
  have HB := Aside0.mk h
  have HE := Aside0.mk (bk_store h 20 (by omega) (.int .i64 0) (done' := done) (fun i hi => by
    unfold putC
    by_cases h1 : i = 20
    · subst h1; rfl
    · rw [if_neg h1]))
  have hx0 : W.cell? ⟨g, off + 18, none⟩ = some (.slice none 0 0) := h.hd.cell 18 (by omega)
  have hx2 : W.cell? ⟨g, off + 20, none⟩ = some (.int .i64 0) := h.hd.cell 20 (by omega)
  obtain ⟨cur, T, hbk⟩ := h.hd.blk
  have hfz := blk_frozen hbk (off + 20)
  clear h
  go_enter Try.func81, Try.ntmps81
  go_wp2_with fail
  go_loopw [3] (fun i wr => i = .int .i64 0 ∧ Aside0 (wr = W)) (fun _ _ => 0)
  case atStart => exact ⟨rfl, ⟨rfl⟩⟩
  case round =>
    obtain ⟨rfl, H1⟩ := hrel
    have h1 := H1.out
    subst h1
    go_wp2_with fail
    go_end0
    exact ⟨rfl, HE.out.1, HE.out.2⟩
set_option maxHeartbeats 4000000 in
theorem growActs.calls {W : World} {g off : Nat} {ow : Own} {vB vBo : Value} {eB : List Ent} {aB : Nat} {vW vWo : Value} {eW : List Ent} {aW turn done used : Nat} (h : Bk W g off ow vB vBo eB aB vW vWo eW aW turn done used) :
    Calls Try.prog 82 #[.pointer (some ⟨g, off, none⟩)] W fun e w' => e = .returned (.tuple #[]) ∧ Bk w' g off ow vB vBo eB aB vW vWo eW aW turn done used ∧ BkS W w' g off ow ow nix := by
  have HB := Aside0.mk h
  have HE := Aside0.mk (bk_store h 23 (by omega) (.int .i64 0) (done' := done) (fun i hi => by
    unfold putC
    by_cases h1 : i = 23
    · subst h1; rfl
    · rw [if_neg h1]))
  have hx0 : W.cell? ⟨g, off + 21, none⟩ = some (.slice none 0 0) := h.hd.cell 21 (by omega)
  have hx2 : W.cell? ⟨g, off + 23, none⟩ = some (.int .i64 0) := h.hd.cell 23 (by omega)
  obtain ⟨cur, T, hbk⟩ := h.hd.blk
  have hfz := blk_frozen hbk (off + 23)
  clear h
  go_enter Try.func82, Try.ntmps82
  go_wp2_with fail
  go_loopw [3] (fun i wr => i = .int .i64 0 ∧ Aside0 (wr = W)) (fun _ _ => 0)
  case atStart => exact ⟨rfl, ⟨rfl⟩⟩
  case round =>
    obtain ⟨rfl, H1⟩ := hrel
    have h1 := H1.out
    subst h1
    go_wp2_with fail
    go_end0
    exact ⟨rfl, HE.out.1, HE.out.2⟩
set_option maxHeartbeats 4000000 in
theorem growEnts.calls {W : World} {g off : Nat} {ow : Own} {vB vBo : Value} {eB : List Ent} {aB : Nat} {vW vWo : Value} {eW : List Ent} {aW turn done used : Nat} (h : Bk W g off ow vB vBo eB aB vW vWo eW aW turn done used) :
    Calls Try.prog 83 #[.pointer (some ⟨g, off, none⟩)] W fun e w' => e = .returned (.tuple #[]) ∧ Bk w' g off ow vB vBo eB aB vW vWo eW aW turn done used ∧ BkS W w' g off ow ow nix := by
  have HB := Aside0.mk h
  have HE := Aside0.mk (bk_store h 26 (by omega) (.int .i64 0) (done' := done) (fun i hi => by
    unfold putC
    by_cases h1 : i = 26
    · subst h1; rfl
    · rw [if_neg h1]))
  have hx0 : W.cell? ⟨g, off + 24, none⟩ = some (.slice none 0 0) := h.hd.cell 24 (by omega)
  have hx2 : W.cell? ⟨g, off + 26, none⟩ = some (.int .i64 0) := h.hd.cell 26 (by omega)
  obtain ⟨cur, T, hbk⟩ := h.hd.blk
  have hfz := blk_frozen hbk (off + 26)
  clear h
  go_enter Try.func83, Try.ntmps83
  go_wp2_with fail
  go_loopw [3] (fun i wr => i = .int .i64 0 ∧ Aside0 (wr = W)) (fun _ _ => 0)
  case atStart => exact ⟨rfl, ⟨rfl⟩⟩
  case round =>
    obtain ⟨rfl, H1⟩ := hrel
    have h1 := H1.out
    subst h1
    go_wp2_with fail
    go_end0
    exact ⟨rfl, HE.out.1, HE.out.2⟩
set_option maxHeartbeats 4000000 in
theorem growCmds.calls {W : World} {g off : Nat} {ow : Own} {vB vBo : Value} {eB : List Ent} {aB : Nat} {vW vWo : Value} {eW : List Ent} {aW turn done used : Nat} (h : Bk W g off ow vB vBo eB aB vW vWo eW aW turn done used) :
    Calls Try.prog 84 #[.pointer (some ⟨g, off, none⟩)] W fun e w' => e = .returned (.tuple #[]) ∧ Bk w' g off ow vB vBo eB aB vW vWo eW aW turn done used ∧ BkS W w' g off ow ow nix := by
  have HB := Aside0.mk h
  have HE := Aside0.mk (bk_store h 29 (by omega) (.int .i64 0) (done' := done) (fun i hi => by
    unfold putC
    by_cases h1 : i = 29
    · subst h1; rfl
    · rw [if_neg h1]))
  have hx0 : W.cell? ⟨g, off + 27, none⟩ = some (.slice none 0 0) := h.hd.cell 27 (by omega)
  have hx2 : W.cell? ⟨g, off + 29, none⟩ = some (.int .i64 0) := h.hd.cell 29 (by omega)
  obtain ⟨cur, T, hbk⟩ := h.hd.blk
  have hfz := blk_frozen hbk (off + 29)
  clear h
  go_enter Try.func84, Try.ntmps84
  go_wp2_with fail
  go_loopw [3] (fun i wr => i = .int .i64 0 ∧ Aside0 (wr = W)) (fun _ _ => 0)
  case atStart => exact ⟨rfl, ⟨rfl⟩⟩
  case round =>
    obtain ⟨rfl, H1⟩ := hrel
    have h1 := H1.out
    subst h1
    go_wp2_with fail
    go_end0
    exact ⟨rfl, HE.out.1, HE.out.2⟩
set_option maxHeartbeats 8000000 in
theorem grow.calls {W : World} {g off : Nat} {ow : Own} {vB vBo : Value} {eB : List Ent} {aB : Nat} {vW vWo : Value} {eW : List Ent} {aW turn done used : Nat} (h : Bk W g off ow vB vBo eB aB vW vWo eW aW turn done used) :
    Calls Try.prog 63 #[.pointer (some ⟨g, off, none⟩)] W fun e w' => e = .returned (.tuple #[]) ∧ ∃ ow' vB' vBo' eB' vW' vWo' eW', Bk w' g off ow' vB' vBo' eB' eB'.length vW' vWo' eW' eW'.length turn turn used ∧ BkS W w' g off ow ow' nix := by
  have HB := Aside0.mk h
  clear h
  go_enter Try.func63, Try.ntmps63
  go_wp2_with fail
  refine (BokH.growBytes.calls HB.out).mono ?_
  rintro e w1 ⟨rfl, ow1, vB1, vBo1, eB1, hB, hS⟩
  have H1 := Aside0.mk (And.intro hB hS)
  clear hB hS
  go_wp2_with fail
  refine (growRows.calls H1.out.1).mono ?_
  rintro e w2 ⟨rfl, hB, hS⟩
  have H2 := Aside0.mk (And.intro hB (H1.out.2.trans hS (fun b hb => hb.elim)))
  clear hB hS H1
  go_wp2_with fail
  refine (BokI.growWords.calls H2.out.1).mono ?_
  rintro e w3 ⟨rfl, ow3, vW3, vWo3, eW3, hB, hS⟩
  have H3 := Aside0.mk (And.intro hB (H2.out.2.trans hS (fun b hb => hb.elim)))
  clear hB hS H2
  go_wp2_with fail
  refine (growScored.calls H3.out.1).mono ?_
  rintro e w4 ⟨rfl, hB, hS⟩
  have H4 := Aside0.mk (And.intro hB (H3.out.2.trans hS (fun b hb => hb.elim)))
  clear hB hS H3
  go_wp2_with fail
  refine (growPairs.calls H4.out.1).mono ?_
  rintro e w5 ⟨rfl, hB, hS⟩
  have H5 := Aside0.mk (And.intro hB (H4.out.2.trans hS (fun b hb => hb.elim)))
  clear hB hS H4
  go_wp2_with fail
  refine (growRepl.calls H5.out.1).mono ?_
  rintro e w6 ⟨rfl, hB, hS⟩
  have H6 := Aside0.mk (And.intro hB (H5.out.2.trans hS (fun b hb => hb.elim)))
  clear hB hS H5
  go_wp2_with fail
  refine (growPlaces.calls H6.out.1).mono ?_
  rintro e w7 ⟨rfl, hB, hS⟩
  have H7 := Aside0.mk (And.intro hB (H6.out.2.trans hS (fun b hb => hb.elim)))
  clear hB hS H6
  go_wp2_with fail
  refine (growActs.calls H7.out.1).mono ?_
  rintro e w8 ⟨rfl, hB, hS⟩
  have H8 := Aside0.mk (And.intro hB (H7.out.2.trans hS (fun b hb => hb.elim)))
  clear hB hS H7
  go_wp2_with fail
  refine (growEnts.calls H8.out.1).mono ?_
  rintro e w9 ⟨rfl, hB, hS⟩
  have H9 := Aside0.mk (And.intro hB (H8.out.2.trans hS (fun b hb => hb.elim)))
  clear hB hS H8
  go_wp2_with fail
  refine (growCmds.calls H9.out.1).mono ?_
  rintro e w10 ⟨rfl, hB, hS⟩
  have H10 := Aside0.mk (And.intro hB (H9.out.2.trans hS (fun b hb => hb.elim)))
  clear hB hS H9
  have hx0 : w10.cell? ⟨g, off + 30, none⟩ = some (.int .i64 (turn : Int)) := H10.out.1.hd.cell 30 (by omega)
  have hx2 : w10.cell? ⟨g, off + 31, none⟩ = some (.int .i64 (done : Int)) := H10.out.1.hd.cell 31 (by omega)
  obtain ⟨cur, T, hbk⟩ := H10.out.1.hd.blk
  have hfz := blk_frozen hbk (off + 31)
  have HE := Aside0.mk (bk_store H10.out.1 31 (by omega) (.int .i64 (turn : Int)) (done' := turn) (fun i hi => by
    unfold putC bkC
    by_cases h1 : i = 31
    · subst h1; simp
    · simp [h1]))
  go_wp2_with fail
  go_end0
  exact ⟨rfl, ow3, _, _, _, _, _, _, HE.out.1, H10.out.2.trans HE.out.2 (fun b hb => hb.elim)⟩
set_option maxHeartbeats 8000000 in
theorem look.calls {W : World} {g off : Nat} {ow : Own} {vB vBo : Value} {eB : List Ent} {aB : Nat} {vW vWo : Value} {eW : List Ent} {aW turn done used : Nat} (h : Bk W g off ow vB vBo eB aB vW vWo eW aW turn done used) :
    Calls Try.prog 48 #[.pointer (some ⟨g, off, none⟩)] W fun e w' => e = .returned (.bool true) ∧ ∃ ow' vB' vBo' eB' aB' vW' vWo' eW' aW' done', Bk w' g off ow' vB' vBo' eB' aB' vW' vWo' eW' aW' turn done' used ∧ BkS W w' g off ow ow' nix := by
  have HB := Aside0.mk h
  clear h
  go_enter Try.func48, Try.ntmps48
  go_wp2_with fail
  refine (BokF.holds.calls HB.out).mono ?_
  rintro e w1 ⟨rfl, hb⟩
  have H1 : Aside0 (Bk w1 g off ow vB vBo eB aB vW vWo eW aW turn done used ∧ BkS W w1 g off ow ow nix) := ⟨HB.out.below hb, ⟨Upd.of_below hb, fun b hb => .inl hb, fun j hj => keep_upd (S := none_) HB.out.hd (Upd.of_below hb) (fun h => h) j hj⟩⟩
  clear hb
  have hx0 : w1.cell? ⟨g, off + 30, none⟩ = some (.int .i64 (turn : Int)) := H1.out.1.hd.cell 30 (by omega)
  have hx2 : w1.cell? ⟨g, off + 31, none⟩ = some (.int .i64 (done : Int)) := H1.out.1.hd.cell 31 (by omega)
  by_cases hdt : done = turn
  · have hdt' : ((done : Int) == (turn : Int)) = true := by rw [hdt]; simp
    have HF : Aside0 (∀ w', Below w1.heap.size w1 w' → Bk w' g off ow vB vBo eB aB vW vWo eW aW turn done used ∧ BkS W w' g off ow ow nix) := ⟨fun w' hb => ⟨H1.out.1.below hb, H1.out.2.trans (Y := nix) ⟨Upd.of_below hb, fun b hb => .inl hb, fun j hj => keep_upd (S := none_) H1.out.1.hd (Upd.of_below hb) (fun h => h) j hj⟩ (fun b hb => hb.elim)⟩⟩
    clear hdt
    go_wp2_with fail
    go_quiet (fail)
    go_wp2_with fail
    go_ret
    exact ⟨rfl, ow, _, _, _, _, _, _, _, _, _, HF.out _ (pw_below_drewN (Below.refl _ _) _)⟩
  · have hdt' : ((done : Int) == (turn : Int)) = false := beq_eq_false_iff_ne.2 (by omega)
    have HF : Aside0 (∀ w', Below w1.heap.size w1 w' → Bk w' g off ow vB vBo eB aB vW vWo eW aW turn done used ∧ BkS W w' g off ow ow nix) := ⟨fun w' hb => ⟨H1.out.1.below hb, H1.out.2.trans (Y := nix) ⟨Upd.of_below hb, fun b hb => .inl hb, fun j hj => keep_upd (S := none_) H1.out.1.hd (Upd.of_below hb) (fun h => h) j hj⟩ (fun b hb => hb.elim)⟩⟩
    clear hdt
    go_wp2_with fail
    go_quiet (fail)
    go_wp2_with fail
    refine (grow.calls (HF.out _ (pw_below_drewN (Below.refl _ _) _)).1).mono ?_
    rintro e w2 ⟨rfl, ow2, vB2, vBo2, eB2, vW2, vWo2, eW2, hB, hS⟩
    have H2 := Aside0.mk (And.intro hB ((HF.out _ (pw_below_drewN (Below.refl _ _) _)).2.trans hS (fun b hb => hb.elim)))
    clear hB hS
    go_wp2_with fail
    refine (BokF.holds.calls H2.out.1).mono ?_
    rintro e w3 ⟨rfl, hb⟩
    have H3 : Aside0 (Bk w3 g off ow2 vB2 vBo2 eB2 eB2.length vW2 vWo2 eW2 eW2.length turn turn used ∧ BkS W w3 g off ow ow2 nix) := ⟨H2.out.1.below hb, H2.out.2.trans (Y := nix) ⟨Upd.of_below hb, fun b hb => .inl hb, fun j hj => keep_upd (S := none_) H2.out.1.hd (Upd.of_below hb) (fun h => h) j hj⟩ (fun b hb => hb.elim)⟩
    clear hb
    go_wp2_with fail
    go_ret
    exact ⟨rfl, ow2, _, _, _, _, _, _, _, _, _, H3.out⟩
end Go.Proofs.Ytgngpbcbnfmoiaa.BokJ
