/- Layer 8: the parser's methods with an append in a region that draws its order: whole, contentFeed. The orders by drive2.py. -/
import Derived.Test.YtfdkcnbkoagmiaaParA
import Derived.StillTailTactics
import Derived.Deep.DeepMust
namespace Go.Proofs.Ytfdkcnbkoagmiaa.ParB
open Go Go.RowKit Go.Proofs.YtfdkcnbkoagmiaaW.PrintWords Go.Proofs.YtfdkcnbkoagmiaaW.PrintLast Go.Proofs.YtfdkcnbkoagmiaaW.PrintMore Go.Proofs.Ytfdkcnbkoagmiaa.RowU Go.Proofs.Ytfdkcnbkoagmiaa.ArS Go.Proofs.Ytfdkcnbkoagmiaa.ArM Go.Proofs.Ytfdkcnbkoagmiaa.GenM Go.Proofs.Ytfdkcnbkoagmiaa.GenN Go.Proofs.Ytfdkcnbkoagmiaa.OwnL Go.Proofs.Ytfdkcnbkoagmiaa.ParM Go.Proofs.Ytfdkcnbkoagmiaa.ParA
open Go.Proofs.Ytfdkcnbkoagmiaa.ParS (St PS)
set_option linter.unusedVariables false
set_option maxRecDepth 100000


section
variable {w : World} {g : Nat} {p : PS} {va vc vo : Value} {Oa Oc Oo : Nat → Nat}
set_option maxHeartbeats 8000000 in
theorem whole.calls (h : PM w g p va vc vo Oa Oc Oo) (hol : p.out.length ≤ 90000000) :
    Calls Try.prog 54 #[ptr g] w fun e w' => e = .returned (.tuple #[]) ∧ PQ w w' (PO g Oa Oc Oo) g (ParS.whole p) := by
  obtain ⟨Aa, ca, rfl⟩ := h.ar.slice
  have H := Aside0.mk h
  have hd0 := h.hd
  have hmf := hmf_
  by_cases hz : p.args = []
  · have HW : Aside0 (ParS.whole p = { p with args := [], cur := [], held := 0, st := .begin }) := ⟨by unfold ParS.whole; rw [if_pos hz]⟩
    have hl0 : p.args.length = 0 := by rw [hz]; rfl
    rw [hl0] at hd0
    have ex0 := (blk_cell hd0 8).trans (show _ = some (.slice Aa 0 ca : Value) from rfl)
    have ex1 := (blk_cell hd0 8).trans (show _ = some (.slice Aa 0 ca : Value) from rfl)
    have ef0 := blk_frozen hd0 8
    have eh0 := blk_set hd0 8 (.slice none 0 0)
    have ex2 := (blk_cell eh0 9).trans (show _ = some (vc : Value) from rfl)
    have ef1 := blk_frozen eh0 9
    have eh1 := blk_set eh0 9 (.slice none 0 0)
    have ex3 := (blk_cell eh1 2).trans (show _ = some (.int .i64 p.held : Value) from rfl)
    have ef2 := blk_frozen eh1 2
    have eh2 := blk_set eh1 2 (.int .i64 0)
    have ex4 := (blk_cell eh2 0).trans (show _ = some (fnV g p.st : Value) from rfl)
    have ef3 := blk_frozen eh2 0
    have eh3 := blk_set eh2 0 (fnV g .begin)
    have EZ := Aside0.mk eh3
    clear eh0 eh1 eh2 eh3
    clear h hd0 hz hl0
    go_enter Try.func54, Try.ntmps54
    go_wp2_with fail
    go_end0
    have hz : ∀ a, Oo a ≠ 0 → ¬ a = g := fun a ha e => by have := H.out.one a; rw [if_pos e] at this; omega
    rw [HW.out]
    exact ⟨rfl, .slice none 0 0, .slice none 0 0, vo, fun _ => 0, fun _ => 0, Oo, ⟨EZ.out, LAt.nil _ _ _, fun _ => rfl, CmR.fit.upd H.out.ou (by ((repeat (refine up1 ?_ _ _)); exact Upd.refl _ _)) hz, fun a => by have := H.out.one a; (try dsimp only); omega⟩, fun a _ => by unfold PO; (try dsimp only); omega, Upd.mono (by ((repeat (refine up1 ?_ _ _)); exact Upd.refl _ _)) (fun a ha => by subst ha; unfold PO; rw [if_pos rfl]; omega)⟩
  · have HW : Aside0 (ParS.whole p = { p with out := p.out ++ [p.args], args := [], cur := [], held := 0, st := .begin }) := ⟨by unfold ParS.whole; rw [if_neg hz]⟩
    have hl0 : 0 < (p.args.length : Int) := by have := List.length_pos_iff.2 hz; omega
    have hx8w : w.cell? ⟨g, 8, none⟩ = some (.slice Aa p.args.length ca) := (blk_cell hd0 8).trans rfl
    obtain ⟨vs, O1, hgv, hel, hO1⟩ := h.ou
    have HVS : Aside0 (vs.length ≤ 100000000) := ⟨by rw [hel.len]; omega⟩
    have HG := Aside0.mk hgv
    have HE1 := Aside0.mk hel
    have HO1 := Aside0.mk hO1
    obtain ⟨Ao, co, rfl⟩ := hgv.slice
    have hx11 : w.cell? ⟨g, 11, none⟩ = some (.slice Ao vs.length co) := (blk_cell hd0 11).trans rfl
    have hx11a : (w.alloc (.cells #[.slice Aa p.args.length ca] 22)).cell? ⟨g, 11, none⟩ = some (.slice Ao vs.length co) := (blk_cell (blk_below hd0 (below_alloc (Below.refl _ w) _)) 11).trans rfl
    clear h hd0 hz hgv hel hO1 hol
    go_enter Try.func54, Try.ntmps54
    go_wp2_with fail
    refine wp_region_held_drew (S := fun _ => True) (by kernel_rfl) (by trivial) (fun hHeld => ?_)
    refine wpAnyH_take (i := 0) (oi := ({ dst := some 8, op := Go.Op.move (Go.Operand.tmp 0), type := 34, pos := "parser.go:75", after := #[], guard := none } : Oper)) (v := ?vq1) rfl (by kernel_rfl) (by kernel_rfl) (by kernel_rfl) (fun _ _ _ h => h) (Or.inl ⟨by rfl, ?hyq1⟩) (by first | trivial | assumption) ?restq1
    case hyq1 => (intro w hSw; (try dsimp only at hSw); go_simp; (try with_reducible rfl))
    (try simp only [Act.put, List.setIfInBounds_toArray, List.set_cons_zero, List.set_cons_succ])
    refine wpAnyH_take (i := 1) (oi := ({ dst := some 9, op := Go.Op.move (Go.Operand.tmp 0), type := 34, pos := "parser.go:75", after := #[], guard := none } : Oper)) (v := ?vq2) rfl (by kernel_rfl) (by kernel_rfl) (by kernel_rfl) (fun _ _ _ h => h) (Or.inl ⟨by rfl, ?hyq2⟩) (by first | trivial | assumption) ?restq2
    case hyq2 => (intro w hSw; (try dsimp only at hSw); go_simp; (try with_reducible rfl))
    (try simp only [Act.put, List.setIfInBounds_toArray, List.set_cons_zero, List.set_cons_succ])
    refine wpAnyH_take (i := 2) (oi := ({ dst := some 10, op := Go.Op.nilCheck (Go.Operand.tmp 9), type := 0, pos := "parser.go:75", after := #[{ on := 1, ground := Go.Ground.data }], guard := none } : Oper)) (v := ?vq3) rfl (by kernel_rfl) (by kernel_rfl) (by kernel_rfl) (fun _ _ _ h => h) (Or.inl ⟨by rfl, ?hyq3⟩) (by first | trivial | assumption) ?restq3
    case hyq3 => (intro w hSw; (try dsimp only at hSw); go_simp; (try with_reducible rfl))
    (try simp only [Act.put, List.setIfInBounds_toArray, List.set_cons_zero, List.set_cons_succ])
    refine wpAnyH_take (i := 3) (oi := ({ dst := some 11, op := Go.Op.fieldAddr 84 (Go.Operand.tmp 10) 11, type := 0, pos := "parser.go:75", after := #[{ on := 2, ground := Go.Ground.data }], guard := none } : Oper)) (v := ?vq4) rfl (by kernel_rfl) (by kernel_rfl) (by kernel_rfl) (fun _ _ _ h => h) (Or.inl ⟨by rfl, ?hyq4⟩) (by first | trivial | assumption) ?restq4
    case hyq4 => (intro w hSw; (try dsimp only at hSw); go_simp; (try with_reducible rfl))
    (try simp only [Act.put, List.setIfInBounds_toArray, List.set_cons_zero, List.set_cons_succ])
    refine wpAnyH_take (i := 5) (oi := ({ dst := some 13, op := Go.Op.move (Go.Operand.tmp 0), type := 34, pos := "parser.go:75", after := #[], guard := none } : Oper)) (v := ?vq5) rfl (by kernel_rfl) (by kernel_rfl) (by kernel_rfl) (fun _ _ _ h => h) (Or.inl ⟨by rfl, ?hyq5⟩) (by first | trivial | assumption) ?restq5
    case hyq5 => (intro w hSw; (try dsimp only at hSw); go_simp; (try with_reducible rfl))
    (try simp only [Act.put, List.setIfInBounds_toArray, List.set_cons_zero, List.set_cons_succ])
    refine wpAnyH_take (i := 6) (oi := ({ dst := some 14, op := Go.Op.nilCheck (Go.Operand.tmp 13), type := 0, pos := "parser.go:75", after := #[{ on := 5, ground := Go.Ground.data }], guard := none } : Oper)) (v := ?vq6) rfl (by kernel_rfl) (by kernel_rfl) (by kernel_rfl) (fun _ _ _ h => h) (Or.inl ⟨by rfl, ?hyq6⟩) (by first | trivial | assumption) ?restq6
    case hyq6 => (intro w hSw; (try dsimp only at hSw); go_simp; (try with_reducible rfl))
    (try simp only [Act.put, List.setIfInBounds_toArray, List.set_cons_zero, List.set_cons_succ])
    refine wpAnyH_take (i := 7) (oi := ({ dst := some 15, op := Go.Op.fieldAddr 84 (Go.Operand.tmp 14) 8, type := 0, pos := "parser.go:75", after := #[{ on := 6, ground := Go.Ground.data }], guard := none } : Oper)) (v := ?vq7) rfl (by kernel_rfl) (by kernel_rfl) (by kernel_rfl) (fun _ _ _ h => h) (Or.inl ⟨by rfl, ?hyq7⟩) (by first | trivial | assumption) ?restq7
    case hyq7 => (intro w hSw; (try dsimp only at hSw); go_simp; (try with_reducible rfl))
    (try simp only [Act.put, List.setIfInBounds_toArray, List.set_cons_zero, List.set_cons_succ])
    refine wpAnyH_ready (rs := [4, 8]) (by kernel_rfl) (by simp) ?_
    refine AllReadyH.cons (o := ({ dst := some 12, op := Go.Op.load 36 (Go.Operand.tmp 11), type := 36, pos := "parser.go:75", after := #[{ on := 3, ground := Go.Ground.data }], guard := none } : Oper)) rfl (fun K hK => ?_) ?_
    · go_simp
      refine hK.out _ _ (by trivial) (fun hHeld => ?_)
      clear hK K
      (try simp only [Act.put, List.setIfInBounds_toArray, List.set_cons_zero, List.set_cons_succ])
      refine wpAnyH_ready (rs := [8]) (by kernel_rfl) (by simp) ?_
      refine AllReadyH.cons (o := ({ dst := some 16, op := Go.Op.load 22 (Go.Operand.tmp 15), type := 22, pos := "parser.go:75", after := #[{ on := 7, ground := Go.Ground.data }], guard := none } : Oper)) rfl (fun K hK => ?_) ?_
      · go_simp
        refine hK.out _ _ (by trivial) (fun hHeld => ?_)
        clear hK K
        (try simp only [Act.put, List.setIfInBounds_toArray, List.set_cons_zero, List.set_cons_succ])
        refine wpAnyH_ready (rs := [9]) (by kernel_rfl) (by simp) ?_
        refine AllReadyH.cons (o := ({ dst := some 17, op := Go.Op.buildSlice 36 1 #[(0, Go.Operand.tmp 16)], type := 36, pos := "parser.go:75", after := #[{ on := 8, ground := Go.Ground.data }], guard := none } : Oper)) rfl (fun K hK => ?_) ?_
        · go_simp
          refine hK.out _ _ (by trivial) (fun hHeld => ?_)
          clear hK K
          (try simp only [Act.put, List.setIfInBounds_toArray, List.set_cons_zero, List.set_cons_succ])
          refine wpAnyH_ready (rs := [10]) (by kernel_rfl) (by simp) ?_
          refine AllReadyH.cons (o := ({ dst := some 18, op := Go.Op.call { callee := Go.Callee.builtin Go.Builtin.append, args := #[Go.Operand.tmp 12, Go.Operand.tmp 17], argTypes := #[36, 36] }, type := 36, pos := "parser.go:75", after := #[{ on := 4, ground := Go.Ground.data }, { on := 9, ground := Go.Ground.data }], guard := none } : Oper)) rfl (fun K hK => ?_) ?_
          · (refine step_gen2 _ rfl (.tmp 12) (.tmp 17) 36 22 rfl Try.underlying36 (.slice none 0 0) 24 (by kernel_rfl) rfl (by decide) (.slice Ao vs.length co) vs rfl ?hv ⟨_, 0, none⟩ (.slice Aa p.args.length ca) rfl ?hc rfl ?hb ?_; go_must ((case hv => exact HG.out.upd (S := none_) (Upd.of_below (below_alloc (Below.refl _ w).drew _)) (fun _ _ h => h))); go_must ((case hc => exact cell_one_new _ _ _ 0 _ rfl)); go_must ((case hb => exact HVS.out)); intro v2 w2 hr; obtain ⟨g2, c2, e2⟩ := hr.form; subst e2; have G2 := Aside0.mk (outGrew H.out HE1.out HO1.out (below_alloc (Below.refl _ w).drew _) hr); clear hr hx11 hx8w hx11a; have hd2 := G2.out.1; have ex0 := (blk_cell hd2 11).trans (show _ = some (.slice Ao vs.length co : Value) from rfl); have ef0 := blk_frozen hd2 11; have eh0 := blk_set hd2 11 (.slice (some ⟨g2, 0, none⟩) (vs.length + 1) c2); have ex1 := (blk_cell eh0 8).trans (show _ = some (.slice Aa p.args.length ca : Value) from rfl); have ef1 := blk_frozen eh0 8; have eh1 := blk_set eh0 8 (.slice none 0 0); have ex2 := (blk_cell eh1 9).trans (show _ = some (vc : Value) from rfl); have ef2 := blk_frozen eh1 9; have eh2 := blk_set eh1 9 (.slice none 0 0); have ex3 := (blk_cell eh2 2).trans (show _ = some (.int .i64 p.held : Value) from rfl); have ef3 := blk_frozen eh2 2; have eh3 := blk_set eh2 2 (.int .i64 0); have ex4 := (blk_cell eh3 0).trans (show _ = some (fnV g p.st : Value) from rfl); have ef4 := blk_frozen eh3 0; have eh4 := blk_set eh3 0 (fnV g .begin); have EZ := Aside0.mk eh4; clear eh0 eh1 eh2 eh3 eh4; clear hd2)
            refine hK.out _ _ (by trivial) (fun hHeld => ?_)
            clear hK K
            (try simp only [Act.put, List.setIfInBounds_toArray, List.set_cons_zero, List.set_cons_succ])
            refine wpAnyH_take (i := 11) (oi := ({ dst := some 19, op := Go.Op.nilCheck (Go.Operand.tmp 8), type := 0, pos := "parser.go:75", after := #[{ on := 0, ground := Go.Ground.data }, { on := 0, ground := Go.Ground.phase }, { on := 1, ground := Go.Ground.phase }, { on := 2, ground := Go.Ground.phase }, { on := 3, ground := Go.Ground.phase }, { on := 4, ground := Go.Ground.phase }, { on := 5, ground := Go.Ground.phase }, { on := 6, ground := Go.Ground.phase }, { on := 7, ground := Go.Ground.phase }, { on := 8, ground := Go.Ground.phase }, { on := 9, ground := Go.Ground.phase }, { on := 10, ground := Go.Ground.phase }], guard := none } : Oper)) (v := ?vq8) rfl (by kernel_rfl) (by kernel_rfl) (by kernel_rfl) (fun _ _ _ h => h) (Or.inl ⟨by rfl, ?hyq8⟩) (by first | trivial | assumption) ?restq8
            case hyq8 => (intro w hSw; (try dsimp only at hSw); go_simp; (try with_reducible rfl))
            (try simp only [Act.put, List.setIfInBounds_toArray, List.set_cons_zero, List.set_cons_succ])
            refine wpAnyH_take (i := 12) (oi := ({ dst := some 20, op := Go.Op.fieldAddr 84 (Go.Operand.tmp 19) 11, type := 0, pos := "parser.go:75", after := #[{ on := 11, ground := Go.Ground.data }, { on := 0, ground := Go.Ground.phase }, { on := 1, ground := Go.Ground.phase }, { on := 2, ground := Go.Ground.phase }, { on := 3, ground := Go.Ground.phase }, { on := 4, ground := Go.Ground.phase }, { on := 5, ground := Go.Ground.phase }, { on := 6, ground := Go.Ground.phase }, { on := 7, ground := Go.Ground.phase }, { on := 8, ground := Go.Ground.phase }, { on := 9, ground := Go.Ground.phase }, { on := 10, ground := Go.Ground.phase }], guard := none } : Oper)) (v := ?vq9) rfl (by kernel_rfl) (by kernel_rfl) (by kernel_rfl) (fun _ _ _ h => h) (Or.inl ⟨by rfl, ?hyq9⟩) (by first | trivial | assumption) ?restq9
            case hyq9 => (intro w hSw; (try dsimp only at hSw); go_simp; (try with_reducible rfl))
            (try simp only [Act.put, List.setIfInBounds_toArray, List.set_cons_zero, List.set_cons_succ])
            refine wpAnyH_ready (rs := [13]) (by kernel_rfl) (by simp) ?_
            refine AllReadyH.cons (o := ({ dst := none, op := Go.Op.store 36 (Go.Operand.tmp 20) (Go.Operand.tmp 18), type := 0, pos := "parser.go:75", after := #[{ on := 12, ground := Go.Ground.data }, { on := 10, ground := Go.Ground.data }, { on := 10, ground := Go.Ground.chain }, { on := 0, ground := Go.Ground.phase }, { on := 1, ground := Go.Ground.phase }, { on := 2, ground := Go.Ground.phase }, { on := 3, ground := Go.Ground.phase }, { on := 4, ground := Go.Ground.phase }, { on := 5, ground := Go.Ground.phase }, { on := 6, ground := Go.Ground.phase }, { on := 7, ground := Go.Ground.phase }, { on := 8, ground := Go.Ground.phase }, { on := 9, ground := Go.Ground.phase }, { on := 10, ground := Go.Ground.phase }], guard := none } : Oper)) rfl (fun K hK => ?_) ?_
            · go_simp
              refine hK.out _ _ (by trivial) (fun hHeld => ?_)
              clear hK K
              (try simp only [Act.put, List.setIfInBounds_toArray, List.set_cons_zero, List.set_cons_succ])
              refine wpAnyH_done (by kernel_rfl) ?_ _
              go_wp2_with fail
              go_end0
              exact ⟨rfl, G2.out.2 _ _ (by ((repeat (refine up1 ?_ _ _)); exact Upd.refl _ _)) (EZ.out.trans (by rw [HW.out]; rfl)) (by rw [HW.out]) (by rw [HW.out]) (by rw [HW.out]; rfl)⟩
            exact AllReadyH.nil
          exact AllReadyH.nil
        exact AllReadyH.nil
      exact AllReadyH.nil
    refine AllReadyH.cons (o := ({ dst := some 16, op := Go.Op.load 22 (Go.Operand.tmp 15), type := 22, pos := "parser.go:75", after := #[{ on := 7, ground := Go.Ground.data }], guard := none } : Oper)) rfl (fun K hK => ?_) ?_
    · go_simp
      refine hK.out _ _ (by trivial) (fun hHeld => ?_)
      clear hK K
      (try simp only [Act.put, List.setIfInBounds_toArray, List.set_cons_zero, List.set_cons_succ])
      refine wpAnyH_ready (rs := [4, 9]) (by kernel_rfl) (by simp) ?_
      refine AllReadyH.cons (o := ({ dst := some 12, op := Go.Op.load 36 (Go.Operand.tmp 11), type := 36, pos := "parser.go:75", after := #[{ on := 3, ground := Go.Ground.data }], guard := none } : Oper)) rfl (fun K hK => ?_) ?_
      · go_simp
        refine hK.out _ _ (by trivial) (fun hHeld => ?_)
        clear hK K
        (try simp only [Act.put, List.setIfInBounds_toArray, List.set_cons_zero, List.set_cons_succ])
        refine wpAnyH_ready (rs := [9]) (by kernel_rfl) (by simp) ?_
        refine AllReadyH.cons (o := ({ dst := some 17, op := Go.Op.buildSlice 36 1 #[(0, Go.Operand.tmp 16)], type := 36, pos := "parser.go:75", after := #[{ on := 8, ground := Go.Ground.data }], guard := none } : Oper)) rfl (fun K hK => ?_) ?_
        · go_simp
          refine hK.out _ _ (by trivial) (fun hHeld => ?_)
          clear hK K
          (try simp only [Act.put, List.setIfInBounds_toArray, List.set_cons_zero, List.set_cons_succ])
          refine wpAnyH_ready (rs := [10]) (by kernel_rfl) (by simp) ?_
          refine AllReadyH.cons (o := ({ dst := some 18, op := Go.Op.call { callee := Go.Callee.builtin Go.Builtin.append, args := #[Go.Operand.tmp 12, Go.Operand.tmp 17], argTypes := #[36, 36] }, type := 36, pos := "parser.go:75", after := #[{ on := 4, ground := Go.Ground.data }, { on := 9, ground := Go.Ground.data }], guard := none } : Oper)) rfl (fun K hK => ?_) ?_
          · (refine step_gen2 _ rfl (.tmp 12) (.tmp 17) 36 22 rfl Try.underlying36 (.slice none 0 0) 24 (by kernel_rfl) rfl (by decide) (.slice Ao vs.length co) vs rfl ?hv ⟨_, 0, none⟩ (.slice Aa p.args.length ca) rfl ?hc rfl ?hb ?_; go_must ((case hv => exact HG.out.upd (S := none_) (Upd.of_below (below_alloc (Below.refl _ w).drew _)) (fun _ _ h => h))); go_must ((case hc => exact cell_one_new _ _ _ 0 _ rfl)); go_must ((case hb => exact HVS.out)); intro v2 w2 hr; obtain ⟨g2, c2, e2⟩ := hr.form; subst e2; have G2 := Aside0.mk (outGrew H.out HE1.out HO1.out (below_alloc (Below.refl _ w).drew _) hr); clear hr hx11 hx8w hx11a; have hd2 := G2.out.1; have ex0 := (blk_cell hd2 11).trans (show _ = some (.slice Ao vs.length co : Value) from rfl); have ef0 := blk_frozen hd2 11; have eh0 := blk_set hd2 11 (.slice (some ⟨g2, 0, none⟩) (vs.length + 1) c2); have ex1 := (blk_cell eh0 8).trans (show _ = some (.slice Aa p.args.length ca : Value) from rfl); have ef1 := blk_frozen eh0 8; have eh1 := blk_set eh0 8 (.slice none 0 0); have ex2 := (blk_cell eh1 9).trans (show _ = some (vc : Value) from rfl); have ef2 := blk_frozen eh1 9; have eh2 := blk_set eh1 9 (.slice none 0 0); have ex3 := (blk_cell eh2 2).trans (show _ = some (.int .i64 p.held : Value) from rfl); have ef3 := blk_frozen eh2 2; have eh3 := blk_set eh2 2 (.int .i64 0); have ex4 := (blk_cell eh3 0).trans (show _ = some (fnV g p.st : Value) from rfl); have ef4 := blk_frozen eh3 0; have eh4 := blk_set eh3 0 (fnV g .begin); have EZ := Aside0.mk eh4; clear eh0 eh1 eh2 eh3 eh4; clear hd2)
            refine hK.out _ _ (by trivial) (fun hHeld => ?_)
            clear hK K
            (try simp only [Act.put, List.setIfInBounds_toArray, List.set_cons_zero, List.set_cons_succ])
            refine wpAnyH_take (i := 11) (oi := ({ dst := some 19, op := Go.Op.nilCheck (Go.Operand.tmp 8), type := 0, pos := "parser.go:75", after := #[{ on := 0, ground := Go.Ground.data }, { on := 0, ground := Go.Ground.phase }, { on := 1, ground := Go.Ground.phase }, { on := 2, ground := Go.Ground.phase }, { on := 3, ground := Go.Ground.phase }, { on := 4, ground := Go.Ground.phase }, { on := 5, ground := Go.Ground.phase }, { on := 6, ground := Go.Ground.phase }, { on := 7, ground := Go.Ground.phase }, { on := 8, ground := Go.Ground.phase }, { on := 9, ground := Go.Ground.phase }, { on := 10, ground := Go.Ground.phase }], guard := none } : Oper)) (v := ?vq10) rfl (by kernel_rfl) (by kernel_rfl) (by kernel_rfl) (fun _ _ _ h => h) (Or.inl ⟨by rfl, ?hyq10⟩) (by first | trivial | assumption) ?restq10
            case hyq10 => (intro w hSw; (try dsimp only at hSw); go_simp; (try with_reducible rfl))
            (try simp only [Act.put, List.setIfInBounds_toArray, List.set_cons_zero, List.set_cons_succ])
            refine wpAnyH_take (i := 12) (oi := ({ dst := some 20, op := Go.Op.fieldAddr 84 (Go.Operand.tmp 19) 11, type := 0, pos := "parser.go:75", after := #[{ on := 11, ground := Go.Ground.data }, { on := 0, ground := Go.Ground.phase }, { on := 1, ground := Go.Ground.phase }, { on := 2, ground := Go.Ground.phase }, { on := 3, ground := Go.Ground.phase }, { on := 4, ground := Go.Ground.phase }, { on := 5, ground := Go.Ground.phase }, { on := 6, ground := Go.Ground.phase }, { on := 7, ground := Go.Ground.phase }, { on := 8, ground := Go.Ground.phase }, { on := 9, ground := Go.Ground.phase }, { on := 10, ground := Go.Ground.phase }], guard := none } : Oper)) (v := ?vq11) rfl (by kernel_rfl) (by kernel_rfl) (by kernel_rfl) (fun _ _ _ h => h) (Or.inl ⟨by rfl, ?hyq11⟩) (by first | trivial | assumption) ?restq11
            case hyq11 => (intro w hSw; (try dsimp only at hSw); go_simp; (try with_reducible rfl))
            (try simp only [Act.put, List.setIfInBounds_toArray, List.set_cons_zero, List.set_cons_succ])
            refine wpAnyH_ready (rs := [13]) (by kernel_rfl) (by simp) ?_
            refine AllReadyH.cons (o := ({ dst := none, op := Go.Op.store 36 (Go.Operand.tmp 20) (Go.Operand.tmp 18), type := 0, pos := "parser.go:75", after := #[{ on := 12, ground := Go.Ground.data }, { on := 10, ground := Go.Ground.data }, { on := 10, ground := Go.Ground.chain }, { on := 0, ground := Go.Ground.phase }, { on := 1, ground := Go.Ground.phase }, { on := 2, ground := Go.Ground.phase }, { on := 3, ground := Go.Ground.phase }, { on := 4, ground := Go.Ground.phase }, { on := 5, ground := Go.Ground.phase }, { on := 6, ground := Go.Ground.phase }, { on := 7, ground := Go.Ground.phase }, { on := 8, ground := Go.Ground.phase }, { on := 9, ground := Go.Ground.phase }, { on := 10, ground := Go.Ground.phase }], guard := none } : Oper)) rfl (fun K hK => ?_) ?_
            · go_simp
              refine hK.out _ _ (by trivial) (fun hHeld => ?_)
              clear hK K
              (try simp only [Act.put, List.setIfInBounds_toArray, List.set_cons_zero, List.set_cons_succ])
              refine wpAnyH_done (by kernel_rfl) ?_ _
              go_wp2_with fail
              go_end0
              exact ⟨rfl, G2.out.2 _ _ (by ((repeat (refine up1 ?_ _ _)); exact Upd.refl _ _)) (EZ.out.trans (by rw [HW.out]; rfl)) (by rw [HW.out]) (by rw [HW.out]) (by rw [HW.out]; rfl)⟩
            exact AllReadyH.nil
          exact AllReadyH.nil
        exact AllReadyH.nil
      refine AllReadyH.cons (o := ({ dst := some 17, op := Go.Op.buildSlice 36 1 #[(0, Go.Operand.tmp 16)], type := 36, pos := "parser.go:75", after := #[{ on := 8, ground := Go.Ground.data }], guard := none } : Oper)) rfl (fun K hK => ?_) ?_
      · go_simp
        refine hK.out _ _ (by trivial) (fun hHeld => ?_)
        clear hK K
        (try simp only [Act.put, List.setIfInBounds_toArray, List.set_cons_zero, List.set_cons_succ])
        refine wpAnyH_ready (rs := [4]) (by kernel_rfl) (by simp) ?_
        refine AllReadyH.cons (o := ({ dst := some 12, op := Go.Op.load 36 (Go.Operand.tmp 11), type := 36, pos := "parser.go:75", after := #[{ on := 3, ground := Go.Ground.data }], guard := none } : Oper)) rfl (fun K hK => ?_) ?_
        · go_simp
          refine hK.out _ _ (by trivial) (fun hHeld => ?_)
          clear hK K
          (try simp only [Act.put, List.setIfInBounds_toArray, List.set_cons_zero, List.set_cons_succ])
          refine wpAnyH_ready (rs := [10]) (by kernel_rfl) (by simp) ?_
          refine AllReadyH.cons (o := ({ dst := some 18, op := Go.Op.call { callee := Go.Callee.builtin Go.Builtin.append, args := #[Go.Operand.tmp 12, Go.Operand.tmp 17], argTypes := #[36, 36] }, type := 36, pos := "parser.go:75", after := #[{ on := 4, ground := Go.Ground.data }, { on := 9, ground := Go.Ground.data }], guard := none } : Oper)) rfl (fun K hK => ?_) ?_
          · (refine step_gen2 _ rfl (.tmp 12) (.tmp 17) 36 22 rfl Try.underlying36 (.slice none 0 0) 24 (by kernel_rfl) rfl (by decide) (.slice Ao vs.length co) vs rfl ?hv ⟨_, 0, none⟩ (.slice Aa p.args.length ca) rfl ?hc rfl ?hb ?_; go_must ((case hv => exact HG.out.upd (S := none_) (Upd.of_below (below_alloc (Below.refl _ w).drew _)) (fun _ _ h => h))); go_must ((case hc => exact cell_one_new _ _ _ 0 _ rfl)); go_must ((case hb => exact HVS.out)); intro v2 w2 hr; obtain ⟨g2, c2, e2⟩ := hr.form; subst e2; have G2 := Aside0.mk (outGrew H.out HE1.out HO1.out (below_alloc (Below.refl _ w).drew _) hr); clear hr hx11 hx8w hx11a; have hd2 := G2.out.1; have ex0 := (blk_cell hd2 11).trans (show _ = some (.slice Ao vs.length co : Value) from rfl); have ef0 := blk_frozen hd2 11; have eh0 := blk_set hd2 11 (.slice (some ⟨g2, 0, none⟩) (vs.length + 1) c2); have ex1 := (blk_cell eh0 8).trans (show _ = some (.slice Aa p.args.length ca : Value) from rfl); have ef1 := blk_frozen eh0 8; have eh1 := blk_set eh0 8 (.slice none 0 0); have ex2 := (blk_cell eh1 9).trans (show _ = some (vc : Value) from rfl); have ef2 := blk_frozen eh1 9; have eh2 := blk_set eh1 9 (.slice none 0 0); have ex3 := (blk_cell eh2 2).trans (show _ = some (.int .i64 p.held : Value) from rfl); have ef3 := blk_frozen eh2 2; have eh3 := blk_set eh2 2 (.int .i64 0); have ex4 := (blk_cell eh3 0).trans (show _ = some (fnV g p.st : Value) from rfl); have ef4 := blk_frozen eh3 0; have eh4 := blk_set eh3 0 (fnV g .begin); have EZ := Aside0.mk eh4; clear eh0 eh1 eh2 eh3 eh4; clear hd2)
            refine hK.out _ _ (by trivial) (fun hHeld => ?_)
            clear hK K
            (try simp only [Act.put, List.setIfInBounds_toArray, List.set_cons_zero, List.set_cons_succ])
            refine wpAnyH_take (i := 11) (oi := ({ dst := some 19, op := Go.Op.nilCheck (Go.Operand.tmp 8), type := 0, pos := "parser.go:75", after := #[{ on := 0, ground := Go.Ground.data }, { on := 0, ground := Go.Ground.phase }, { on := 1, ground := Go.Ground.phase }, { on := 2, ground := Go.Ground.phase }, { on := 3, ground := Go.Ground.phase }, { on := 4, ground := Go.Ground.phase }, { on := 5, ground := Go.Ground.phase }, { on := 6, ground := Go.Ground.phase }, { on := 7, ground := Go.Ground.phase }, { on := 8, ground := Go.Ground.phase }, { on := 9, ground := Go.Ground.phase }, { on := 10, ground := Go.Ground.phase }], guard := none } : Oper)) (v := ?vq12) rfl (by kernel_rfl) (by kernel_rfl) (by kernel_rfl) (fun _ _ _ h => h) (Or.inl ⟨by rfl, ?hyq12⟩) (by first | trivial | assumption) ?restq12
            case hyq12 => (intro w hSw; (try dsimp only at hSw); go_simp; (try with_reducible rfl))
            (try simp only [Act.put, List.setIfInBounds_toArray, List.set_cons_zero, List.set_cons_succ])
            refine wpAnyH_take (i := 12) (oi := ({ dst := some 20, op := Go.Op.fieldAddr 84 (Go.Operand.tmp 19) 11, type := 0, pos := "parser.go:75", after := #[{ on := 11, ground := Go.Ground.data }, { on := 0, ground := Go.Ground.phase }, { on := 1, ground := Go.Ground.phase }, { on := 2, ground := Go.Ground.phase }, { on := 3, ground := Go.Ground.phase }, { on := 4, ground := Go.Ground.phase }, { on := 5, ground := Go.Ground.phase }, { on := 6, ground := Go.Ground.phase }, { on := 7, ground := Go.Ground.phase }, { on := 8, ground := Go.Ground.phase }, { on := 9, ground := Go.Ground.phase }, { on := 10, ground := Go.Ground.phase }], guard := none } : Oper)) (v := ?vq13) rfl (by kernel_rfl) (by kernel_rfl) (by kernel_rfl) (fun _ _ _ h => h) (Or.inl ⟨by rfl, ?hyq13⟩) (by first | trivial | assumption) ?restq13
            case hyq13 => (intro w hSw; (try dsimp only at hSw); go_simp; (try with_reducible rfl))
            (try simp only [Act.put, List.setIfInBounds_toArray, List.set_cons_zero, List.set_cons_succ])
            refine wpAnyH_ready (rs := [13]) (by kernel_rfl) (by simp) ?_
            refine AllReadyH.cons (o := ({ dst := none, op := Go.Op.store 36 (Go.Operand.tmp 20) (Go.Operand.tmp 18), type := 0, pos := "parser.go:75", after := #[{ on := 12, ground := Go.Ground.data }, { on := 10, ground := Go.Ground.data }, { on := 10, ground := Go.Ground.chain }, { on := 0, ground := Go.Ground.phase }, { on := 1, ground := Go.Ground.phase }, { on := 2, ground := Go.Ground.phase }, { on := 3, ground := Go.Ground.phase }, { on := 4, ground := Go.Ground.phase }, { on := 5, ground := Go.Ground.phase }, { on := 6, ground := Go.Ground.phase }, { on := 7, ground := Go.Ground.phase }, { on := 8, ground := Go.Ground.phase }, { on := 9, ground := Go.Ground.phase }, { on := 10, ground := Go.Ground.phase }], guard := none } : Oper)) rfl (fun K hK => ?_) ?_
            · go_simp
              refine hK.out _ _ (by trivial) (fun hHeld => ?_)
              clear hK K
              (try simp only [Act.put, List.setIfInBounds_toArray, List.set_cons_zero, List.set_cons_succ])
              refine wpAnyH_done (by kernel_rfl) ?_ _
              go_wp2_with fail
              go_end0
              exact ⟨rfl, G2.out.2 _ _ (by ((repeat (refine up1 ?_ _ _)); exact Upd.refl _ _)) (EZ.out.trans (by rw [HW.out]; rfl)) (by rw [HW.out]) (by rw [HW.out]) (by rw [HW.out]; rfl)⟩
            exact AllReadyH.nil
          exact AllReadyH.nil
        exact AllReadyH.nil
      exact AllReadyH.nil
    exact AllReadyH.nil

set_option maxHeartbeats 8000000 in
theorem contF.calls : StepC .contF := by
  intro w g p va vc vo Oa Oc Oo c h hi hs h0 h1 hol
  have hl : live p.st = true := by rw [hs]; rfl
  have hcu : BtR w vc p.cur Oc := by have := h.cu; rw [hl] at this; exact this
  have H := Aside0.mk h
  have HL := Aside0.mk hl
  have HOL := Aside0.mk hol
  have hd0 := h.hd
  have hmf := hmf_
  have harg := hi.args
  show Calls Try.prog 97 _ _ _
  by_cases hc : c = 10
  · subst hc
    obtain ⟨vs, O1, hgv, hel, hO1⟩ := h.ar
    have HVS : Aside0 (vs.length ≤ 100000000) := ⟨by rw [hel.len]; omega⟩
    have hvl := hel.len
    have HG := Aside0.mk hgv
    have HE1 := Aside0.mk hel
    have HO1 := Aside0.mk hO1
    obtain ⟨Aa, ca, rfl⟩ := hgv.slice
    obtain ⟨Ac, cc, rfl, _⟩ := hcu.slice
    have hx9 : w.cell? ⟨g, 9, none⟩ = some (.slice Ac p.cur.length cc) := (blk_cell hd0 9).trans rfl
    have hx8 : w.cell? ⟨g, 8, none⟩ = some (.slice Aa vs.length ca) := (blk_cell hd0 8).trans rfl
    have hx8a : (w.alloc (.cells #[.slice Ac p.cur.length cc] 26)).cell? ⟨g, 8, none⟩ = some (.slice Aa vs.length ca) := (blk_cell (blk_below hd0 (below_alloc (Below.refl _ w) _)) 8).trans rfl
    by_cases hz : ((p.args.length + 1 : Nat) : Int) = p.want
    · have HW : Aside0 (ParS.step p 10 = (ParS.whole { p with args := p.args ++ [p.cur], st := .dollar }, 0)) := ⟨by unfold ParS.step; rw [hs]; show ParS.contFB p 10 = _; unfold ParS.contFB; rw [if_neg (by decide), if_pos hz]⟩
      have hz1 : ((vs.length + 1 : Nat) : Int) = p.want := by rw [hvl]; exact hz
      have hz2 : (vs.length : Int) + 1 = p.want := by omega
      clear h hd0 hz hgv hel hO1 hol hcu hi hs hl hvl harg
      go_enter Try.func97, Try.ntmps97
      go_wp2_with fail
      refine wp_region_held_drew (S := fun _ => True) (by kernel_rfl) (by trivial) (fun hHeld => ?_)
      refine wpAnyH_take (i := 0) (oi := ({ dst := some 7, op := Go.Op.move (Go.Operand.tmp 0), type := 34, pos := "parser.go:179", after := #[], guard := none } : Oper)) (v := ?vq1) rfl (by kernel_rfl) (by kernel_rfl) (by kernel_rfl) (fun _ _ _ h => h) (Or.inl ⟨by rfl, ?hyq1⟩) (by first | trivial | assumption) ?restq1
      case hyq1 => (intro w hSw; (try dsimp only at hSw); go_simp; (try with_reducible rfl))
      (try simp only [Act.put, List.setIfInBounds_toArray, List.set_cons_zero, List.set_cons_succ])
      refine wpAnyH_take (i := 1) (oi := ({ dst := some 8, op := Go.Op.move (Go.Operand.tmp 0), type := 34, pos := "parser.go:179", after := #[], guard := none } : Oper)) (v := ?vq2) rfl (by kernel_rfl) (by kernel_rfl) (by kernel_rfl) (fun _ _ _ h => h) (Or.inl ⟨by rfl, ?hyq2⟩) (by first | trivial | assumption) ?restq2
      case hyq2 => (intro w hSw; (try dsimp only at hSw); go_simp; (try with_reducible rfl))
      (try simp only [Act.put, List.setIfInBounds_toArray, List.set_cons_zero, List.set_cons_succ])
      refine wpAnyH_take (i := 2) (oi := ({ dst := some 9, op := Go.Op.nilCheck (Go.Operand.tmp 8), type := 0, pos := "parser.go:179", after := #[{ on := 1, ground := Go.Ground.data }], guard := none } : Oper)) (v := ?vq3) rfl (by kernel_rfl) (by kernel_rfl) (by kernel_rfl) (fun _ _ _ h => h) (Or.inl ⟨by rfl, ?hyq3⟩) (by first | trivial | assumption) ?restq3
      case hyq3 => (intro w hSw; (try dsimp only at hSw); go_simp; (try with_reducible rfl))
      (try simp only [Act.put, List.setIfInBounds_toArray, List.set_cons_zero, List.set_cons_succ])
      refine wpAnyH_take (i := 3) (oi := ({ dst := some 10, op := Go.Op.fieldAddr 84 (Go.Operand.tmp 9) 8, type := 0, pos := "parser.go:179", after := #[{ on := 2, ground := Go.Ground.data }], guard := none } : Oper)) (v := ?vq4) rfl (by kernel_rfl) (by kernel_rfl) (by kernel_rfl) (fun _ _ _ h => h) (Or.inl ⟨by rfl, ?hyq4⟩) (by first | trivial | assumption) ?restq4
      case hyq4 => (intro w hSw; (try dsimp only at hSw); go_simp; (try with_reducible rfl))
      (try simp only [Act.put, List.setIfInBounds_toArray, List.set_cons_zero, List.set_cons_succ])
      refine wpAnyH_take (i := 5) (oi := ({ dst := some 12, op := Go.Op.move (Go.Operand.tmp 0), type := 34, pos := "parser.go:179", after := #[], guard := none } : Oper)) (v := ?vq5) rfl (by kernel_rfl) (by kernel_rfl) (by kernel_rfl) (fun _ _ _ h => h) (Or.inl ⟨by rfl, ?hyq5⟩) (by first | trivial | assumption) ?restq5
      case hyq5 => (intro w hSw; (try dsimp only at hSw); go_simp; (try with_reducible rfl))
      (try simp only [Act.put, List.setIfInBounds_toArray, List.set_cons_zero, List.set_cons_succ])
      refine wpAnyH_take (i := 6) (oi := ({ dst := some 13, op := Go.Op.nilCheck (Go.Operand.tmp 12), type := 0, pos := "parser.go:179", after := #[{ on := 5, ground := Go.Ground.data }], guard := none } : Oper)) (v := ?vq6) rfl (by kernel_rfl) (by kernel_rfl) (by kernel_rfl) (fun _ _ _ h => h) (Or.inl ⟨by rfl, ?hyq6⟩) (by first | trivial | assumption) ?restq6
      case hyq6 => (intro w hSw; (try dsimp only at hSw); go_simp; (try with_reducible rfl))
      (try simp only [Act.put, List.setIfInBounds_toArray, List.set_cons_zero, List.set_cons_succ])
      refine wpAnyH_take (i := 7) (oi := ({ dst := some 14, op := Go.Op.fieldAddr 84 (Go.Operand.tmp 13) 9, type := 0, pos := "parser.go:179", after := #[{ on := 6, ground := Go.Ground.data }], guard := none } : Oper)) (v := ?vq7) rfl (by kernel_rfl) (by kernel_rfl) (by kernel_rfl) (fun _ _ _ h => h) (Or.inl ⟨by rfl, ?hyq7⟩) (by first | trivial | assumption) ?restq7
      case hyq7 => (intro w hSw; (try dsimp only at hSw); go_simp; (try with_reducible rfl))
      (try simp only [Act.put, List.setIfInBounds_toArray, List.set_cons_zero, List.set_cons_succ])
      refine wpAnyH_ready (rs := [4, 8]) (by kernel_rfl) (by simp) ?_
      refine AllReadyH.cons (o := ({ dst := some 11, op := Go.Op.load 22 (Go.Operand.tmp 10), type := 22, pos := "parser.go:179", after := #[{ on := 3, ground := Go.Ground.data }], guard := none } : Oper)) rfl (fun K hK => ?_) ?_
      · go_simp
        refine hK.out _ _ (by trivial) (fun hHeld => ?_)
        clear hK K
        (try simp only [Act.put, List.setIfInBounds_toArray, List.set_cons_zero, List.set_cons_succ])
        refine wpAnyH_ready (rs := [8]) (by kernel_rfl) (by simp) ?_
        refine AllReadyH.cons (o := ({ dst := some 15, op := Go.Op.load 26 (Go.Operand.tmp 14), type := 26, pos := "parser.go:179", after := #[{ on := 7, ground := Go.Ground.data }], guard := none } : Oper)) rfl (fun K hK => ?_) ?_
        · go_simp
          refine hK.out _ _ (by trivial) (fun hHeld => ?_)
          clear hK K
          (try simp only [Act.put, List.setIfInBounds_toArray, List.set_cons_zero, List.set_cons_succ])
          refine wpAnyH_ready (rs := [9]) (by kernel_rfl) (by simp) ?_
          refine AllReadyH.cons (o := ({ dst := some 16, op := Go.Op.buildSlice 22 1 #[(0, Go.Operand.tmp 15)], type := 22, pos := "parser.go:179", after := #[{ on := 8, ground := Go.Ground.data }], guard := none } : Oper)) rfl (fun K hK => ?_) ?_
          · go_simp
            refine hK.out _ _ (by trivial) (fun hHeld => ?_)
            clear hK K
            (try simp only [Act.put, List.setIfInBounds_toArray, List.set_cons_zero, List.set_cons_succ])
            refine wpAnyH_ready (rs := [10]) (by kernel_rfl) (by simp) ?_
            refine AllReadyH.cons (o := ({ dst := some 17, op := Go.Op.call { callee := Go.Callee.builtin Go.Builtin.append, args := #[Go.Operand.tmp 11, Go.Operand.tmp 16], argTypes := #[22, 22] }, type := 22, pos := "parser.go:179", after := #[{ on := 4, ground := Go.Ground.data }, { on := 9, ground := Go.Ground.data }], guard := none } : Oper)) rfl (fun K hK => ?_) ?_
            · (refine step_gen2 _ rfl (.tmp 11) (.tmp 16) 22 26 rfl Try.underlying22 (.slice none 0 0) 24 (by kernel_rfl) rfl (by decide) (.slice Aa vs.length ca) vs rfl ?hv ⟨_, 0, none⟩ (.slice Ac p.cur.length cc) rfl ?hc rfl ?hb ?_; go_must ((case hv => exact HG.out.upd (S := none_) (Upd.of_below (below_alloc (Below.refl _ w).drew _)) (fun _ _ h => h))); go_must ((case hc => exact cell_one_new _ _ _ 0 _ rfl)); go_must ((case hb => exact HVS.out)); intro v2 w2 hr; obtain ⟨g2, c2, e2⟩ := hr.form; subst e2; have G2 := Aside0.mk (argsGrew H.out HL.out HE1.out HO1.out (below_alloc (Below.refl _ w).drew _) hr); clear hr hx9 hx8 hx8a; have hd2 := G2.out.1; have ex0 := (blk_cell hd2 8).trans (show _ = some (.slice Aa vs.length ca : Value) from rfl); have ef0 := blk_frozen hd2 8; have eh0 := blk_set hd2 8 (.slice (some ⟨g2, 0, none⟩) (vs.length + 1) c2); have ex1 := (blk_cell eh0 0).trans (show _ = some (fnV g p.st : Value) from rfl); have ef1 := blk_frozen eh0 0; have eh1 := blk_set eh0 0 (fnV g .dollar); have EZ := Aside0.mk eh1; clear eh0 eh1; have HK := Aside0.mk (And.intro ((blk_cell EZ.out 8).trans (show _ = some (Value.slice (some ⟨g2, 0, none⟩) (vs.length + 1) c2) from rfl)) ((blk_cell EZ.out 7).trans (show _ = some (Value.int .i64 p.want) from rfl))); clear hd2)
              refine hK.out _ _ (by trivial) (fun hHeld => ?_)
              clear hK K
              (try simp only [Act.put, List.setIfInBounds_toArray, List.set_cons_zero, List.set_cons_succ])
              refine wpAnyH_take (i := 11) (oi := ({ dst := some 18, op := Go.Op.nilCheck (Go.Operand.tmp 7), type := 0, pos := "parser.go:179", after := #[{ on := 0, ground := Go.Ground.data }, { on := 0, ground := Go.Ground.phase }, { on := 1, ground := Go.Ground.phase }, { on := 2, ground := Go.Ground.phase }, { on := 3, ground := Go.Ground.phase }, { on := 4, ground := Go.Ground.phase }, { on := 5, ground := Go.Ground.phase }, { on := 6, ground := Go.Ground.phase }, { on := 7, ground := Go.Ground.phase }, { on := 8, ground := Go.Ground.phase }, { on := 9, ground := Go.Ground.phase }, { on := 10, ground := Go.Ground.phase }], guard := none } : Oper)) (v := ?vq8) rfl (by kernel_rfl) (by kernel_rfl) (by kernel_rfl) (fun _ _ _ h => h) (Or.inl ⟨by rfl, ?hyq8⟩) (by first | trivial | assumption) ?restq8
              case hyq8 => (intro w hSw; (try dsimp only at hSw); go_simp; (try with_reducible rfl))
              (try simp only [Act.put, List.setIfInBounds_toArray, List.set_cons_zero, List.set_cons_succ])
              refine wpAnyH_take (i := 12) (oi := ({ dst := some 19, op := Go.Op.fieldAddr 84 (Go.Operand.tmp 18) 8, type := 0, pos := "parser.go:179", after := #[{ on := 11, ground := Go.Ground.data }, { on := 0, ground := Go.Ground.phase }, { on := 1, ground := Go.Ground.phase }, { on := 2, ground := Go.Ground.phase }, { on := 3, ground := Go.Ground.phase }, { on := 4, ground := Go.Ground.phase }, { on := 5, ground := Go.Ground.phase }, { on := 6, ground := Go.Ground.phase }, { on := 7, ground := Go.Ground.phase }, { on := 8, ground := Go.Ground.phase }, { on := 9, ground := Go.Ground.phase }, { on := 10, ground := Go.Ground.phase }], guard := none } : Oper)) (v := ?vq9) rfl (by kernel_rfl) (by kernel_rfl) (by kernel_rfl) (fun _ _ _ h => h) (Or.inl ⟨by rfl, ?hyq9⟩) (by first | trivial | assumption) ?restq9
              case hyq9 => (intro w hSw; (try dsimp only at hSw); go_simp; (try with_reducible rfl))
              (try simp only [Act.put, List.setIfInBounds_toArray, List.set_cons_zero, List.set_cons_succ])
              refine wpAnyH_ready (rs := [13]) (by kernel_rfl) (by simp) ?_
              refine AllReadyH.cons (o := ({ dst := none, op := Go.Op.store 22 (Go.Operand.tmp 19) (Go.Operand.tmp 17), type := 0, pos := "parser.go:179", after := #[{ on := 12, ground := Go.Ground.data }, { on := 10, ground := Go.Ground.data }, { on := 10, ground := Go.Ground.chain }, { on := 0, ground := Go.Ground.phase }, { on := 1, ground := Go.Ground.phase }, { on := 2, ground := Go.Ground.phase }, { on := 3, ground := Go.Ground.phase }, { on := 4, ground := Go.Ground.phase }, { on := 5, ground := Go.Ground.phase }, { on := 6, ground := Go.Ground.phase }, { on := 7, ground := Go.Ground.phase }, { on := 8, ground := Go.Ground.phase }, { on := 9, ground := Go.Ground.phase }, { on := 10, ground := Go.Ground.phase }], guard := none } : Oper)) rfl (fun K hK => ?_) ?_
              · go_simp
                refine hK.out _ _ (by trivial) (fun hHeld => ?_)
                clear hK K
                (try simp only [Act.put, List.setIfInBounds_toArray, List.set_cons_zero, List.set_cons_succ])
                refine wpAnyH_done (by kernel_rfl) ?_ _
                go_wp2_with fail
                go_region_held3 (fun w' => w'.cell? ⟨g, 8, none⟩ = some (Value.slice (some ⟨g2, 0, none⟩) (vs.length + 1) c2) ∧ w'.cell? ⟨g, 7, none⟩ = some (Value.int .i64 p.want)) (first | exact HK.out | go_keep) (fail)
                go_wp2_with (go_at_call 54; obtain ⟨Oa', b1, b2, b3⟩ := G2.out.2 _ { p with args := p.args ++ [p.cur], st := .dollar } (by ((repeat (refine up1 ?_ _ _)); exact Upd.refl _ _)) (EZ.out.trans (by rfl)) rfl rfl rfl; have H3 := Aside0.mk (And.intro b1 (And.intro b2 b3)); clear b1 b2 b3; refine (whole.calls (H3.out.1.upd (S := none_) (by first | exact Upd.refl _ _ | exact (Upd.refl _ _).drew) (fun _ _ h => h)) HOL.out).mono ?_; rintro e w4 ⟨rfl, hq⟩; have H4 := Aside0.mk (PQ.trans (H3.out.1.upd (S := none_) (by first | exact Upd.refl _ _ | exact (Upd.refl _ _).drew) (fun _ _ h => h)) H3.out.2.1 (by first | exact H3.out.2.2 | exact H3.out.2.2.drew) hq); clear hq)
                go_ret
                rw [HW.out]
                exact ⟨rfl, H4.out⟩
              exact AllReadyH.nil
            exact AllReadyH.nil
          exact AllReadyH.nil
        exact AllReadyH.nil
      refine AllReadyH.cons (o := ({ dst := some 15, op := Go.Op.load 26 (Go.Operand.tmp 14), type := 26, pos := "parser.go:179", after := #[{ on := 7, ground := Go.Ground.data }], guard := none } : Oper)) rfl (fun K hK => ?_) ?_
      · go_simp
        refine hK.out _ _ (by trivial) (fun hHeld => ?_)
        clear hK K
        (try simp only [Act.put, List.setIfInBounds_toArray, List.set_cons_zero, List.set_cons_succ])
        refine wpAnyH_ready (rs := [4, 9]) (by kernel_rfl) (by simp) ?_
        refine AllReadyH.cons (o := ({ dst := some 11, op := Go.Op.load 22 (Go.Operand.tmp 10), type := 22, pos := "parser.go:179", after := #[{ on := 3, ground := Go.Ground.data }], guard := none } : Oper)) rfl (fun K hK => ?_) ?_
        · go_simp
          refine hK.out _ _ (by trivial) (fun hHeld => ?_)
          clear hK K
          (try simp only [Act.put, List.setIfInBounds_toArray, List.set_cons_zero, List.set_cons_succ])
          refine wpAnyH_ready (rs := [9]) (by kernel_rfl) (by simp) ?_
          refine AllReadyH.cons (o := ({ dst := some 16, op := Go.Op.buildSlice 22 1 #[(0, Go.Operand.tmp 15)], type := 22, pos := "parser.go:179", after := #[{ on := 8, ground := Go.Ground.data }], guard := none } : Oper)) rfl (fun K hK => ?_) ?_
          · go_simp
            refine hK.out _ _ (by trivial) (fun hHeld => ?_)
            clear hK K
            (try simp only [Act.put, List.setIfInBounds_toArray, List.set_cons_zero, List.set_cons_succ])
            refine wpAnyH_ready (rs := [10]) (by kernel_rfl) (by simp) ?_
            refine AllReadyH.cons (o := ({ dst := some 17, op := Go.Op.call { callee := Go.Callee.builtin Go.Builtin.append, args := #[Go.Operand.tmp 11, Go.Operand.tmp 16], argTypes := #[22, 22] }, type := 22, pos := "parser.go:179", after := #[{ on := 4, ground := Go.Ground.data }, { on := 9, ground := Go.Ground.data }], guard := none } : Oper)) rfl (fun K hK => ?_) ?_
            · (refine step_gen2 _ rfl (.tmp 11) (.tmp 16) 22 26 rfl Try.underlying22 (.slice none 0 0) 24 (by kernel_rfl) rfl (by decide) (.slice Aa vs.length ca) vs rfl ?hv ⟨_, 0, none⟩ (.slice Ac p.cur.length cc) rfl ?hc rfl ?hb ?_; go_must ((case hv => exact HG.out.upd (S := none_) (Upd.of_below (below_alloc (Below.refl _ w).drew _)) (fun _ _ h => h))); go_must ((case hc => exact cell_one_new _ _ _ 0 _ rfl)); go_must ((case hb => exact HVS.out)); intro v2 w2 hr; obtain ⟨g2, c2, e2⟩ := hr.form; subst e2; have G2 := Aside0.mk (argsGrew H.out HL.out HE1.out HO1.out (below_alloc (Below.refl _ w).drew _) hr); clear hr hx9 hx8 hx8a; have hd2 := G2.out.1; have ex0 := (blk_cell hd2 8).trans (show _ = some (.slice Aa vs.length ca : Value) from rfl); have ef0 := blk_frozen hd2 8; have eh0 := blk_set hd2 8 (.slice (some ⟨g2, 0, none⟩) (vs.length + 1) c2); have ex1 := (blk_cell eh0 0).trans (show _ = some (fnV g p.st : Value) from rfl); have ef1 := blk_frozen eh0 0; have eh1 := blk_set eh0 0 (fnV g .dollar); have EZ := Aside0.mk eh1; clear eh0 eh1; have HK := Aside0.mk (And.intro ((blk_cell EZ.out 8).trans (show _ = some (Value.slice (some ⟨g2, 0, none⟩) (vs.length + 1) c2) from rfl)) ((blk_cell EZ.out 7).trans (show _ = some (Value.int .i64 p.want) from rfl))); clear hd2)
              refine hK.out _ _ (by trivial) (fun hHeld => ?_)
              clear hK K
              (try simp only [Act.put, List.setIfInBounds_toArray, List.set_cons_zero, List.set_cons_succ])
              refine wpAnyH_take (i := 11) (oi := ({ dst := some 18, op := Go.Op.nilCheck (Go.Operand.tmp 7), type := 0, pos := "parser.go:179", after := #[{ on := 0, ground := Go.Ground.data }, { on := 0, ground := Go.Ground.phase }, { on := 1, ground := Go.Ground.phase }, { on := 2, ground := Go.Ground.phase }, { on := 3, ground := Go.Ground.phase }, { on := 4, ground := Go.Ground.phase }, { on := 5, ground := Go.Ground.phase }, { on := 6, ground := Go.Ground.phase }, { on := 7, ground := Go.Ground.phase }, { on := 8, ground := Go.Ground.phase }, { on := 9, ground := Go.Ground.phase }, { on := 10, ground := Go.Ground.phase }], guard := none } : Oper)) (v := ?vq10) rfl (by kernel_rfl) (by kernel_rfl) (by kernel_rfl) (fun _ _ _ h => h) (Or.inl ⟨by rfl, ?hyq10⟩) (by first | trivial | assumption) ?restq10
              case hyq10 => (intro w hSw; (try dsimp only at hSw); go_simp; (try with_reducible rfl))
              (try simp only [Act.put, List.setIfInBounds_toArray, List.set_cons_zero, List.set_cons_succ])
              refine wpAnyH_take (i := 12) (oi := ({ dst := some 19, op := Go.Op.fieldAddr 84 (Go.Operand.tmp 18) 8, type := 0, pos := "parser.go:179", after := #[{ on := 11, ground := Go.Ground.data }, { on := 0, ground := Go.Ground.phase }, { on := 1, ground := Go.Ground.phase }, { on := 2, ground := Go.Ground.phase }, { on := 3, ground := Go.Ground.phase }, { on := 4, ground := Go.Ground.phase }, { on := 5, ground := Go.Ground.phase }, { on := 6, ground := Go.Ground.phase }, { on := 7, ground := Go.Ground.phase }, { on := 8, ground := Go.Ground.phase }, { on := 9, ground := Go.Ground.phase }, { on := 10, ground := Go.Ground.phase }], guard := none } : Oper)) (v := ?vq11) rfl (by kernel_rfl) (by kernel_rfl) (by kernel_rfl) (fun _ _ _ h => h) (Or.inl ⟨by rfl, ?hyq11⟩) (by first | trivial | assumption) ?restq11
              case hyq11 => (intro w hSw; (try dsimp only at hSw); go_simp; (try with_reducible rfl))
              (try simp only [Act.put, List.setIfInBounds_toArray, List.set_cons_zero, List.set_cons_succ])
              refine wpAnyH_ready (rs := [13]) (by kernel_rfl) (by simp) ?_
              refine AllReadyH.cons (o := ({ dst := none, op := Go.Op.store 22 (Go.Operand.tmp 19) (Go.Operand.tmp 17), type := 0, pos := "parser.go:179", after := #[{ on := 12, ground := Go.Ground.data }, { on := 10, ground := Go.Ground.data }, { on := 10, ground := Go.Ground.chain }, { on := 0, ground := Go.Ground.phase }, { on := 1, ground := Go.Ground.phase }, { on := 2, ground := Go.Ground.phase }, { on := 3, ground := Go.Ground.phase }, { on := 4, ground := Go.Ground.phase }, { on := 5, ground := Go.Ground.phase }, { on := 6, ground := Go.Ground.phase }, { on := 7, ground := Go.Ground.phase }, { on := 8, ground := Go.Ground.phase }, { on := 9, ground := Go.Ground.phase }, { on := 10, ground := Go.Ground.phase }], guard := none } : Oper)) rfl (fun K hK => ?_) ?_
              · go_simp
                refine hK.out _ _ (by trivial) (fun hHeld => ?_)
                clear hK K
                (try simp only [Act.put, List.setIfInBounds_toArray, List.set_cons_zero, List.set_cons_succ])
                refine wpAnyH_done (by kernel_rfl) ?_ _
                go_wp2_with fail
                go_region_held3 (fun w' => w'.cell? ⟨g, 8, none⟩ = some (Value.slice (some ⟨g2, 0, none⟩) (vs.length + 1) c2) ∧ w'.cell? ⟨g, 7, none⟩ = some (Value.int .i64 p.want)) (first | exact HK.out | go_keep) (fail)
                go_wp2_with (go_at_call 54; obtain ⟨Oa', b1, b2, b3⟩ := G2.out.2 _ { p with args := p.args ++ [p.cur], st := .dollar } (by ((repeat (refine up1 ?_ _ _)); exact Upd.refl _ _)) (EZ.out.trans (by rfl)) rfl rfl rfl; have H3 := Aside0.mk (And.intro b1 (And.intro b2 b3)); clear b1 b2 b3; refine (whole.calls (H3.out.1.upd (S := none_) (by first | exact Upd.refl _ _ | exact (Upd.refl _ _).drew) (fun _ _ h => h)) HOL.out).mono ?_; rintro e w4 ⟨rfl, hq⟩; have H4 := Aside0.mk (PQ.trans (H3.out.1.upd (S := none_) (by first | exact Upd.refl _ _ | exact (Upd.refl _ _).drew) (fun _ _ h => h)) H3.out.2.1 (by first | exact H3.out.2.2 | exact H3.out.2.2.drew) hq); clear hq)
                go_ret
                rw [HW.out]
                exact ⟨rfl, H4.out⟩
              exact AllReadyH.nil
            exact AllReadyH.nil
          exact AllReadyH.nil
        refine AllReadyH.cons (o := ({ dst := some 16, op := Go.Op.buildSlice 22 1 #[(0, Go.Operand.tmp 15)], type := 22, pos := "parser.go:179", after := #[{ on := 8, ground := Go.Ground.data }], guard := none } : Oper)) rfl (fun K hK => ?_) ?_
        · go_simp
          refine hK.out _ _ (by trivial) (fun hHeld => ?_)
          clear hK K
          (try simp only [Act.put, List.setIfInBounds_toArray, List.set_cons_zero, List.set_cons_succ])
          refine wpAnyH_ready (rs := [4]) (by kernel_rfl) (by simp) ?_
          refine AllReadyH.cons (o := ({ dst := some 11, op := Go.Op.load 22 (Go.Operand.tmp 10), type := 22, pos := "parser.go:179", after := #[{ on := 3, ground := Go.Ground.data }], guard := none } : Oper)) rfl (fun K hK => ?_) ?_
          · go_simp
            refine hK.out _ _ (by trivial) (fun hHeld => ?_)
            clear hK K
            (try simp only [Act.put, List.setIfInBounds_toArray, List.set_cons_zero, List.set_cons_succ])
            refine wpAnyH_ready (rs := [10]) (by kernel_rfl) (by simp) ?_
            refine AllReadyH.cons (o := ({ dst := some 17, op := Go.Op.call { callee := Go.Callee.builtin Go.Builtin.append, args := #[Go.Operand.tmp 11, Go.Operand.tmp 16], argTypes := #[22, 22] }, type := 22, pos := "parser.go:179", after := #[{ on := 4, ground := Go.Ground.data }, { on := 9, ground := Go.Ground.data }], guard := none } : Oper)) rfl (fun K hK => ?_) ?_
            · (refine step_gen2 _ rfl (.tmp 11) (.tmp 16) 22 26 rfl Try.underlying22 (.slice none 0 0) 24 (by kernel_rfl) rfl (by decide) (.slice Aa vs.length ca) vs rfl ?hv ⟨_, 0, none⟩ (.slice Ac p.cur.length cc) rfl ?hc rfl ?hb ?_; go_must ((case hv => exact HG.out.upd (S := none_) (Upd.of_below (below_alloc (Below.refl _ w).drew _)) (fun _ _ h => h))); go_must ((case hc => exact cell_one_new _ _ _ 0 _ rfl)); go_must ((case hb => exact HVS.out)); intro v2 w2 hr; obtain ⟨g2, c2, e2⟩ := hr.form; subst e2; have G2 := Aside0.mk (argsGrew H.out HL.out HE1.out HO1.out (below_alloc (Below.refl _ w).drew _) hr); clear hr hx9 hx8 hx8a; have hd2 := G2.out.1; have ex0 := (blk_cell hd2 8).trans (show _ = some (.slice Aa vs.length ca : Value) from rfl); have ef0 := blk_frozen hd2 8; have eh0 := blk_set hd2 8 (.slice (some ⟨g2, 0, none⟩) (vs.length + 1) c2); have ex1 := (blk_cell eh0 0).trans (show _ = some (fnV g p.st : Value) from rfl); have ef1 := blk_frozen eh0 0; have eh1 := blk_set eh0 0 (fnV g .dollar); have EZ := Aside0.mk eh1; clear eh0 eh1; have HK := Aside0.mk (And.intro ((blk_cell EZ.out 8).trans (show _ = some (Value.slice (some ⟨g2, 0, none⟩) (vs.length + 1) c2) from rfl)) ((blk_cell EZ.out 7).trans (show _ = some (Value.int .i64 p.want) from rfl))); clear hd2)
              refine hK.out _ _ (by trivial) (fun hHeld => ?_)
              clear hK K
              (try simp only [Act.put, List.setIfInBounds_toArray, List.set_cons_zero, List.set_cons_succ])
              refine wpAnyH_take (i := 11) (oi := ({ dst := some 18, op := Go.Op.nilCheck (Go.Operand.tmp 7), type := 0, pos := "parser.go:179", after := #[{ on := 0, ground := Go.Ground.data }, { on := 0, ground := Go.Ground.phase }, { on := 1, ground := Go.Ground.phase }, { on := 2, ground := Go.Ground.phase }, { on := 3, ground := Go.Ground.phase }, { on := 4, ground := Go.Ground.phase }, { on := 5, ground := Go.Ground.phase }, { on := 6, ground := Go.Ground.phase }, { on := 7, ground := Go.Ground.phase }, { on := 8, ground := Go.Ground.phase }, { on := 9, ground := Go.Ground.phase }, { on := 10, ground := Go.Ground.phase }], guard := none } : Oper)) (v := ?vq12) rfl (by kernel_rfl) (by kernel_rfl) (by kernel_rfl) (fun _ _ _ h => h) (Or.inl ⟨by rfl, ?hyq12⟩) (by first | trivial | assumption) ?restq12
              case hyq12 => (intro w hSw; (try dsimp only at hSw); go_simp; (try with_reducible rfl))
              (try simp only [Act.put, List.setIfInBounds_toArray, List.set_cons_zero, List.set_cons_succ])
              refine wpAnyH_take (i := 12) (oi := ({ dst := some 19, op := Go.Op.fieldAddr 84 (Go.Operand.tmp 18) 8, type := 0, pos := "parser.go:179", after := #[{ on := 11, ground := Go.Ground.data }, { on := 0, ground := Go.Ground.phase }, { on := 1, ground := Go.Ground.phase }, { on := 2, ground := Go.Ground.phase }, { on := 3, ground := Go.Ground.phase }, { on := 4, ground := Go.Ground.phase }, { on := 5, ground := Go.Ground.phase }, { on := 6, ground := Go.Ground.phase }, { on := 7, ground := Go.Ground.phase }, { on := 8, ground := Go.Ground.phase }, { on := 9, ground := Go.Ground.phase }, { on := 10, ground := Go.Ground.phase }], guard := none } : Oper)) (v := ?vq13) rfl (by kernel_rfl) (by kernel_rfl) (by kernel_rfl) (fun _ _ _ h => h) (Or.inl ⟨by rfl, ?hyq13⟩) (by first | trivial | assumption) ?restq13
              case hyq13 => (intro w hSw; (try dsimp only at hSw); go_simp; (try with_reducible rfl))
              (try simp only [Act.put, List.setIfInBounds_toArray, List.set_cons_zero, List.set_cons_succ])
              refine wpAnyH_ready (rs := [13]) (by kernel_rfl) (by simp) ?_
              refine AllReadyH.cons (o := ({ dst := none, op := Go.Op.store 22 (Go.Operand.tmp 19) (Go.Operand.tmp 17), type := 0, pos := "parser.go:179", after := #[{ on := 12, ground := Go.Ground.data }, { on := 10, ground := Go.Ground.data }, { on := 10, ground := Go.Ground.chain }, { on := 0, ground := Go.Ground.phase }, { on := 1, ground := Go.Ground.phase }, { on := 2, ground := Go.Ground.phase }, { on := 3, ground := Go.Ground.phase }, { on := 4, ground := Go.Ground.phase }, { on := 5, ground := Go.Ground.phase }, { on := 6, ground := Go.Ground.phase }, { on := 7, ground := Go.Ground.phase }, { on := 8, ground := Go.Ground.phase }, { on := 9, ground := Go.Ground.phase }, { on := 10, ground := Go.Ground.phase }], guard := none } : Oper)) rfl (fun K hK => ?_) ?_
              · go_simp
                refine hK.out _ _ (by trivial) (fun hHeld => ?_)
                clear hK K
                (try simp only [Act.put, List.setIfInBounds_toArray, List.set_cons_zero, List.set_cons_succ])
                refine wpAnyH_done (by kernel_rfl) ?_ _
                go_wp2_with fail
                go_region_held3 (fun w' => w'.cell? ⟨g, 8, none⟩ = some (Value.slice (some ⟨g2, 0, none⟩) (vs.length + 1) c2) ∧ w'.cell? ⟨g, 7, none⟩ = some (Value.int .i64 p.want)) (first | exact HK.out | go_keep) (fail)
                go_wp2_with (go_at_call 54; obtain ⟨Oa', b1, b2, b3⟩ := G2.out.2 _ { p with args := p.args ++ [p.cur], st := .dollar } (by ((repeat (refine up1 ?_ _ _)); exact Upd.refl _ _)) (EZ.out.trans (by rfl)) rfl rfl rfl; have H3 := Aside0.mk (And.intro b1 (And.intro b2 b3)); clear b1 b2 b3; refine (whole.calls (H3.out.1.upd (S := none_) (by first | exact Upd.refl _ _ | exact (Upd.refl _ _).drew) (fun _ _ h => h)) HOL.out).mono ?_; rintro e w4 ⟨rfl, hq⟩; have H4 := Aside0.mk (PQ.trans (H3.out.1.upd (S := none_) (by first | exact Upd.refl _ _ | exact (Upd.refl _ _).drew) (fun _ _ h => h)) H3.out.2.1 (by first | exact H3.out.2.2 | exact H3.out.2.2.drew) hq); clear hq)
                go_ret
                rw [HW.out]
                exact ⟨rfl, H4.out⟩
              exact AllReadyH.nil
            exact AllReadyH.nil
          exact AllReadyH.nil
        exact AllReadyH.nil
      exact AllReadyH.nil
    · have HW : Aside0 (ParS.step p 10 = ({ p with args := p.args ++ [p.cur], st := .dollar }, 0)) := ⟨by unfold ParS.step; rw [hs]; show ParS.contFB p 10 = _; unfold ParS.contFB; rw [if_neg (by decide), if_neg hz]⟩
      have hz1 : ¬ ((vs.length + 1 : Nat) : Int) = p.want := by rw [hvl]; exact hz
      have hz2 : ¬ (vs.length : Int) + 1 = p.want := by omega
      clear h hd0 hz hgv hel hO1 hol hcu hi hs hl hvl harg
      go_enter Try.func97, Try.ntmps97
      go_wp2_with fail
      refine wp_region_held_drew (S := fun _ => True) (by kernel_rfl) (by trivial) (fun hHeld => ?_)
      refine wpAnyH_take (i := 0) (oi := ({ dst := some 7, op := Go.Op.move (Go.Operand.tmp 0), type := 34, pos := "parser.go:179", after := #[], guard := none } : Oper)) (v := ?vr1) rfl (by kernel_rfl) (by kernel_rfl) (by kernel_rfl) (fun _ _ _ h => h) (Or.inl ⟨by rfl, ?hyr1⟩) (by first | trivial | assumption) ?restr1
      case hyr1 => (intro w hSw; (try dsimp only at hSw); go_simp; (try with_reducible rfl))
      (try simp only [Act.put, List.setIfInBounds_toArray, List.set_cons_zero, List.set_cons_succ])
      refine wpAnyH_take (i := 1) (oi := ({ dst := some 8, op := Go.Op.move (Go.Operand.tmp 0), type := 34, pos := "parser.go:179", after := #[], guard := none } : Oper)) (v := ?vr2) rfl (by kernel_rfl) (by kernel_rfl) (by kernel_rfl) (fun _ _ _ h => h) (Or.inl ⟨by rfl, ?hyr2⟩) (by first | trivial | assumption) ?restr2
      case hyr2 => (intro w hSw; (try dsimp only at hSw); go_simp; (try with_reducible rfl))
      (try simp only [Act.put, List.setIfInBounds_toArray, List.set_cons_zero, List.set_cons_succ])
      refine wpAnyH_take (i := 2) (oi := ({ dst := some 9, op := Go.Op.nilCheck (Go.Operand.tmp 8), type := 0, pos := "parser.go:179", after := #[{ on := 1, ground := Go.Ground.data }], guard := none } : Oper)) (v := ?vr3) rfl (by kernel_rfl) (by kernel_rfl) (by kernel_rfl) (fun _ _ _ h => h) (Or.inl ⟨by rfl, ?hyr3⟩) (by first | trivial | assumption) ?restr3
      case hyr3 => (intro w hSw; (try dsimp only at hSw); go_simp; (try with_reducible rfl))
      (try simp only [Act.put, List.setIfInBounds_toArray, List.set_cons_zero, List.set_cons_succ])
      refine wpAnyH_take (i := 3) (oi := ({ dst := some 10, op := Go.Op.fieldAddr 84 (Go.Operand.tmp 9) 8, type := 0, pos := "parser.go:179", after := #[{ on := 2, ground := Go.Ground.data }], guard := none } : Oper)) (v := ?vr4) rfl (by kernel_rfl) (by kernel_rfl) (by kernel_rfl) (fun _ _ _ h => h) (Or.inl ⟨by rfl, ?hyr4⟩) (by first | trivial | assumption) ?restr4
      case hyr4 => (intro w hSw; (try dsimp only at hSw); go_simp; (try with_reducible rfl))
      (try simp only [Act.put, List.setIfInBounds_toArray, List.set_cons_zero, List.set_cons_succ])
      refine wpAnyH_take (i := 5) (oi := ({ dst := some 12, op := Go.Op.move (Go.Operand.tmp 0), type := 34, pos := "parser.go:179", after := #[], guard := none } : Oper)) (v := ?vr5) rfl (by kernel_rfl) (by kernel_rfl) (by kernel_rfl) (fun _ _ _ h => h) (Or.inl ⟨by rfl, ?hyr5⟩) (by first | trivial | assumption) ?restr5
      case hyr5 => (intro w hSw; (try dsimp only at hSw); go_simp; (try with_reducible rfl))
      (try simp only [Act.put, List.setIfInBounds_toArray, List.set_cons_zero, List.set_cons_succ])
      refine wpAnyH_take (i := 6) (oi := ({ dst := some 13, op := Go.Op.nilCheck (Go.Operand.tmp 12), type := 0, pos := "parser.go:179", after := #[{ on := 5, ground := Go.Ground.data }], guard := none } : Oper)) (v := ?vr6) rfl (by kernel_rfl) (by kernel_rfl) (by kernel_rfl) (fun _ _ _ h => h) (Or.inl ⟨by rfl, ?hyr6⟩) (by first | trivial | assumption) ?restr6
      case hyr6 => (intro w hSw; (try dsimp only at hSw); go_simp; (try with_reducible rfl))
      (try simp only [Act.put, List.setIfInBounds_toArray, List.set_cons_zero, List.set_cons_succ])
      refine wpAnyH_take (i := 7) (oi := ({ dst := some 14, op := Go.Op.fieldAddr 84 (Go.Operand.tmp 13) 9, type := 0, pos := "parser.go:179", after := #[{ on := 6, ground := Go.Ground.data }], guard := none } : Oper)) (v := ?vr7) rfl (by kernel_rfl) (by kernel_rfl) (by kernel_rfl) (fun _ _ _ h => h) (Or.inl ⟨by rfl, ?hyr7⟩) (by first | trivial | assumption) ?restr7
      case hyr7 => (intro w hSw; (try dsimp only at hSw); go_simp; (try with_reducible rfl))
      (try simp only [Act.put, List.setIfInBounds_toArray, List.set_cons_zero, List.set_cons_succ])
      refine wpAnyH_ready (rs := [4, 8]) (by kernel_rfl) (by simp) ?_
      refine AllReadyH.cons (o := ({ dst := some 11, op := Go.Op.load 22 (Go.Operand.tmp 10), type := 22, pos := "parser.go:179", after := #[{ on := 3, ground := Go.Ground.data }], guard := none } : Oper)) rfl (fun K hK => ?_) ?_
      · go_simp
        refine hK.out _ _ (by trivial) (fun hHeld => ?_)
        clear hK K
        (try simp only [Act.put, List.setIfInBounds_toArray, List.set_cons_zero, List.set_cons_succ])
        refine wpAnyH_ready (rs := [8]) (by kernel_rfl) (by simp) ?_
        refine AllReadyH.cons (o := ({ dst := some 15, op := Go.Op.load 26 (Go.Operand.tmp 14), type := 26, pos := "parser.go:179", after := #[{ on := 7, ground := Go.Ground.data }], guard := none } : Oper)) rfl (fun K hK => ?_) ?_
        · go_simp
          refine hK.out _ _ (by trivial) (fun hHeld => ?_)
          clear hK K
          (try simp only [Act.put, List.setIfInBounds_toArray, List.set_cons_zero, List.set_cons_succ])
          refine wpAnyH_ready (rs := [9]) (by kernel_rfl) (by simp) ?_
          refine AllReadyH.cons (o := ({ dst := some 16, op := Go.Op.buildSlice 22 1 #[(0, Go.Operand.tmp 15)], type := 22, pos := "parser.go:179", after := #[{ on := 8, ground := Go.Ground.data }], guard := none } : Oper)) rfl (fun K hK => ?_) ?_
          · go_simp
            refine hK.out _ _ (by trivial) (fun hHeld => ?_)
            clear hK K
            (try simp only [Act.put, List.setIfInBounds_toArray, List.set_cons_zero, List.set_cons_succ])
            refine wpAnyH_ready (rs := [10]) (by kernel_rfl) (by simp) ?_
            refine AllReadyH.cons (o := ({ dst := some 17, op := Go.Op.call { callee := Go.Callee.builtin Go.Builtin.append, args := #[Go.Operand.tmp 11, Go.Operand.tmp 16], argTypes := #[22, 22] }, type := 22, pos := "parser.go:179", after := #[{ on := 4, ground := Go.Ground.data }, { on := 9, ground := Go.Ground.data }], guard := none } : Oper)) rfl (fun K hK => ?_) ?_
            · (refine step_gen2 _ rfl (.tmp 11) (.tmp 16) 22 26 rfl Try.underlying22 (.slice none 0 0) 24 (by kernel_rfl) rfl (by decide) (.slice Aa vs.length ca) vs rfl ?hv ⟨_, 0, none⟩ (.slice Ac p.cur.length cc) rfl ?hc rfl ?hb ?_; go_must ((case hv => exact HG.out.upd (S := none_) (Upd.of_below (below_alloc (Below.refl _ w).drew _)) (fun _ _ h => h))); go_must ((case hc => exact cell_one_new _ _ _ 0 _ rfl)); go_must ((case hb => exact HVS.out)); intro v2 w2 hr; obtain ⟨g2, c2, e2⟩ := hr.form; subst e2; have G2 := Aside0.mk (argsGrew H.out HL.out HE1.out HO1.out (below_alloc (Below.refl _ w).drew _) hr); clear hr hx9 hx8 hx8a; have hd2 := G2.out.1; have ex0 := (blk_cell hd2 8).trans (show _ = some (.slice Aa vs.length ca : Value) from rfl); have ef0 := blk_frozen hd2 8; have eh0 := blk_set hd2 8 (.slice (some ⟨g2, 0, none⟩) (vs.length + 1) c2); have ex1 := (blk_cell eh0 0).trans (show _ = some (fnV g p.st : Value) from rfl); have ef1 := blk_frozen eh0 0; have eh1 := blk_set eh0 0 (fnV g .dollar); have EZ := Aside0.mk eh1; clear eh0 eh1; have HK := Aside0.mk (And.intro ((blk_cell EZ.out 8).trans (show _ = some (Value.slice (some ⟨g2, 0, none⟩) (vs.length + 1) c2) from rfl)) ((blk_cell EZ.out 7).trans (show _ = some (Value.int .i64 p.want) from rfl))); clear hd2)
              refine hK.out _ _ (by trivial) (fun hHeld => ?_)
              clear hK K
              (try simp only [Act.put, List.setIfInBounds_toArray, List.set_cons_zero, List.set_cons_succ])
              refine wpAnyH_take (i := 11) (oi := ({ dst := some 18, op := Go.Op.nilCheck (Go.Operand.tmp 7), type := 0, pos := "parser.go:179", after := #[{ on := 0, ground := Go.Ground.data }, { on := 0, ground := Go.Ground.phase }, { on := 1, ground := Go.Ground.phase }, { on := 2, ground := Go.Ground.phase }, { on := 3, ground := Go.Ground.phase }, { on := 4, ground := Go.Ground.phase }, { on := 5, ground := Go.Ground.phase }, { on := 6, ground := Go.Ground.phase }, { on := 7, ground := Go.Ground.phase }, { on := 8, ground := Go.Ground.phase }, { on := 9, ground := Go.Ground.phase }, { on := 10, ground := Go.Ground.phase }], guard := none } : Oper)) (v := ?vr8) rfl (by kernel_rfl) (by kernel_rfl) (by kernel_rfl) (fun _ _ _ h => h) (Or.inl ⟨by rfl, ?hyr8⟩) (by first | trivial | assumption) ?restr8
              case hyr8 => (intro w hSw; (try dsimp only at hSw); go_simp; (try with_reducible rfl))
              (try simp only [Act.put, List.setIfInBounds_toArray, List.set_cons_zero, List.set_cons_succ])
              refine wpAnyH_take (i := 12) (oi := ({ dst := some 19, op := Go.Op.fieldAddr 84 (Go.Operand.tmp 18) 8, type := 0, pos := "parser.go:179", after := #[{ on := 11, ground := Go.Ground.data }, { on := 0, ground := Go.Ground.phase }, { on := 1, ground := Go.Ground.phase }, { on := 2, ground := Go.Ground.phase }, { on := 3, ground := Go.Ground.phase }, { on := 4, ground := Go.Ground.phase }, { on := 5, ground := Go.Ground.phase }, { on := 6, ground := Go.Ground.phase }, { on := 7, ground := Go.Ground.phase }, { on := 8, ground := Go.Ground.phase }, { on := 9, ground := Go.Ground.phase }, { on := 10, ground := Go.Ground.phase }], guard := none } : Oper)) (v := ?vr9) rfl (by kernel_rfl) (by kernel_rfl) (by kernel_rfl) (fun _ _ _ h => h) (Or.inl ⟨by rfl, ?hyr9⟩) (by first | trivial | assumption) ?restr9
              case hyr9 => (intro w hSw; (try dsimp only at hSw); go_simp; (try with_reducible rfl))
              (try simp only [Act.put, List.setIfInBounds_toArray, List.set_cons_zero, List.set_cons_succ])
              refine wpAnyH_ready (rs := [13]) (by kernel_rfl) (by simp) ?_
              refine AllReadyH.cons (o := ({ dst := none, op := Go.Op.store 22 (Go.Operand.tmp 19) (Go.Operand.tmp 17), type := 0, pos := "parser.go:179", after := #[{ on := 12, ground := Go.Ground.data }, { on := 10, ground := Go.Ground.data }, { on := 10, ground := Go.Ground.chain }, { on := 0, ground := Go.Ground.phase }, { on := 1, ground := Go.Ground.phase }, { on := 2, ground := Go.Ground.phase }, { on := 3, ground := Go.Ground.phase }, { on := 4, ground := Go.Ground.phase }, { on := 5, ground := Go.Ground.phase }, { on := 6, ground := Go.Ground.phase }, { on := 7, ground := Go.Ground.phase }, { on := 8, ground := Go.Ground.phase }, { on := 9, ground := Go.Ground.phase }, { on := 10, ground := Go.Ground.phase }], guard := none } : Oper)) rfl (fun K hK => ?_) ?_
              · go_simp
                refine hK.out _ _ (by trivial) (fun hHeld => ?_)
                clear hK K
                (try simp only [Act.put, List.setIfInBounds_toArray, List.set_cons_zero, List.set_cons_succ])
                refine wpAnyH_done (by kernel_rfl) ?_ _
                go_wp2_with fail
                go_region_held3 (fun w' => w'.cell? ⟨g, 8, none⟩ = some (Value.slice (some ⟨g2, 0, none⟩) (vs.length + 1) c2) ∧ w'.cell? ⟨g, 7, none⟩ = some (Value.int .i64 p.want)) (first | exact HK.out | go_keep) (fail)
                go_wp2_with fail
                go_ret
                rw [HW.out]
                obtain ⟨Oa', b1, b2, b3⟩ := G2.out.2 _ { p with args := p.args ++ [p.cur], st := .dollar } (by ((repeat (refine up1 ?_ _ _)); exact Upd.refl _ _)) (EZ.out.trans (by rfl)) rfl rfl rfl
                exact ⟨rfl, _, _, _, _, _, _, b1.upd (S := none_) (by first | exact Upd.refl _ _ | exact (Upd.refl _ _).drew) (fun _ _ h => h), b2, by first | exact b3 | exact b3.drew⟩
              exact AllReadyH.nil
            exact AllReadyH.nil
          exact AllReadyH.nil
        exact AllReadyH.nil
      refine AllReadyH.cons (o := ({ dst := some 15, op := Go.Op.load 26 (Go.Operand.tmp 14), type := 26, pos := "parser.go:179", after := #[{ on := 7, ground := Go.Ground.data }], guard := none } : Oper)) rfl (fun K hK => ?_) ?_
      · go_simp
        refine hK.out _ _ (by trivial) (fun hHeld => ?_)
        clear hK K
        (try simp only [Act.put, List.setIfInBounds_toArray, List.set_cons_zero, List.set_cons_succ])
        refine wpAnyH_ready (rs := [4, 9]) (by kernel_rfl) (by simp) ?_
        refine AllReadyH.cons (o := ({ dst := some 11, op := Go.Op.load 22 (Go.Operand.tmp 10), type := 22, pos := "parser.go:179", after := #[{ on := 3, ground := Go.Ground.data }], guard := none } : Oper)) rfl (fun K hK => ?_) ?_
        · go_simp
          refine hK.out _ _ (by trivial) (fun hHeld => ?_)
          clear hK K
          (try simp only [Act.put, List.setIfInBounds_toArray, List.set_cons_zero, List.set_cons_succ])
          refine wpAnyH_ready (rs := [9]) (by kernel_rfl) (by simp) ?_
          refine AllReadyH.cons (o := ({ dst := some 16, op := Go.Op.buildSlice 22 1 #[(0, Go.Operand.tmp 15)], type := 22, pos := "parser.go:179", after := #[{ on := 8, ground := Go.Ground.data }], guard := none } : Oper)) rfl (fun K hK => ?_) ?_
          · go_simp
            refine hK.out _ _ (by trivial) (fun hHeld => ?_)
            clear hK K
            (try simp only [Act.put, List.setIfInBounds_toArray, List.set_cons_zero, List.set_cons_succ])
            refine wpAnyH_ready (rs := [10]) (by kernel_rfl) (by simp) ?_
            refine AllReadyH.cons (o := ({ dst := some 17, op := Go.Op.call { callee := Go.Callee.builtin Go.Builtin.append, args := #[Go.Operand.tmp 11, Go.Operand.tmp 16], argTypes := #[22, 22] }, type := 22, pos := "parser.go:179", after := #[{ on := 4, ground := Go.Ground.data }, { on := 9, ground := Go.Ground.data }], guard := none } : Oper)) rfl (fun K hK => ?_) ?_
            · (refine step_gen2 _ rfl (.tmp 11) (.tmp 16) 22 26 rfl Try.underlying22 (.slice none 0 0) 24 (by kernel_rfl) rfl (by decide) (.slice Aa vs.length ca) vs rfl ?hv ⟨_, 0, none⟩ (.slice Ac p.cur.length cc) rfl ?hc rfl ?hb ?_; go_must ((case hv => exact HG.out.upd (S := none_) (Upd.of_below (below_alloc (Below.refl _ w).drew _)) (fun _ _ h => h))); go_must ((case hc => exact cell_one_new _ _ _ 0 _ rfl)); go_must ((case hb => exact HVS.out)); intro v2 w2 hr; obtain ⟨g2, c2, e2⟩ := hr.form; subst e2; have G2 := Aside0.mk (argsGrew H.out HL.out HE1.out HO1.out (below_alloc (Below.refl _ w).drew _) hr); clear hr hx9 hx8 hx8a; have hd2 := G2.out.1; have ex0 := (blk_cell hd2 8).trans (show _ = some (.slice Aa vs.length ca : Value) from rfl); have ef0 := blk_frozen hd2 8; have eh0 := blk_set hd2 8 (.slice (some ⟨g2, 0, none⟩) (vs.length + 1) c2); have ex1 := (blk_cell eh0 0).trans (show _ = some (fnV g p.st : Value) from rfl); have ef1 := blk_frozen eh0 0; have eh1 := blk_set eh0 0 (fnV g .dollar); have EZ := Aside0.mk eh1; clear eh0 eh1; have HK := Aside0.mk (And.intro ((blk_cell EZ.out 8).trans (show _ = some (Value.slice (some ⟨g2, 0, none⟩) (vs.length + 1) c2) from rfl)) ((blk_cell EZ.out 7).trans (show _ = some (Value.int .i64 p.want) from rfl))); clear hd2)
              refine hK.out _ _ (by trivial) (fun hHeld => ?_)
              clear hK K
              (try simp only [Act.put, List.setIfInBounds_toArray, List.set_cons_zero, List.set_cons_succ])
              refine wpAnyH_take (i := 11) (oi := ({ dst := some 18, op := Go.Op.nilCheck (Go.Operand.tmp 7), type := 0, pos := "parser.go:179", after := #[{ on := 0, ground := Go.Ground.data }, { on := 0, ground := Go.Ground.phase }, { on := 1, ground := Go.Ground.phase }, { on := 2, ground := Go.Ground.phase }, { on := 3, ground := Go.Ground.phase }, { on := 4, ground := Go.Ground.phase }, { on := 5, ground := Go.Ground.phase }, { on := 6, ground := Go.Ground.phase }, { on := 7, ground := Go.Ground.phase }, { on := 8, ground := Go.Ground.phase }, { on := 9, ground := Go.Ground.phase }, { on := 10, ground := Go.Ground.phase }], guard := none } : Oper)) (v := ?vr10) rfl (by kernel_rfl) (by kernel_rfl) (by kernel_rfl) (fun _ _ _ h => h) (Or.inl ⟨by rfl, ?hyr10⟩) (by first | trivial | assumption) ?restr10
              case hyr10 => (intro w hSw; (try dsimp only at hSw); go_simp; (try with_reducible rfl))
              (try simp only [Act.put, List.setIfInBounds_toArray, List.set_cons_zero, List.set_cons_succ])
              refine wpAnyH_take (i := 12) (oi := ({ dst := some 19, op := Go.Op.fieldAddr 84 (Go.Operand.tmp 18) 8, type := 0, pos := "parser.go:179", after := #[{ on := 11, ground := Go.Ground.data }, { on := 0, ground := Go.Ground.phase }, { on := 1, ground := Go.Ground.phase }, { on := 2, ground := Go.Ground.phase }, { on := 3, ground := Go.Ground.phase }, { on := 4, ground := Go.Ground.phase }, { on := 5, ground := Go.Ground.phase }, { on := 6, ground := Go.Ground.phase }, { on := 7, ground := Go.Ground.phase }, { on := 8, ground := Go.Ground.phase }, { on := 9, ground := Go.Ground.phase }, { on := 10, ground := Go.Ground.phase }], guard := none } : Oper)) (v := ?vr11) rfl (by kernel_rfl) (by kernel_rfl) (by kernel_rfl) (fun _ _ _ h => h) (Or.inl ⟨by rfl, ?hyr11⟩) (by first | trivial | assumption) ?restr11
              case hyr11 => (intro w hSw; (try dsimp only at hSw); go_simp; (try with_reducible rfl))
              (try simp only [Act.put, List.setIfInBounds_toArray, List.set_cons_zero, List.set_cons_succ])
              refine wpAnyH_ready (rs := [13]) (by kernel_rfl) (by simp) ?_
              refine AllReadyH.cons (o := ({ dst := none, op := Go.Op.store 22 (Go.Operand.tmp 19) (Go.Operand.tmp 17), type := 0, pos := "parser.go:179", after := #[{ on := 12, ground := Go.Ground.data }, { on := 10, ground := Go.Ground.data }, { on := 10, ground := Go.Ground.chain }, { on := 0, ground := Go.Ground.phase }, { on := 1, ground := Go.Ground.phase }, { on := 2, ground := Go.Ground.phase }, { on := 3, ground := Go.Ground.phase }, { on := 4, ground := Go.Ground.phase }, { on := 5, ground := Go.Ground.phase }, { on := 6, ground := Go.Ground.phase }, { on := 7, ground := Go.Ground.phase }, { on := 8, ground := Go.Ground.phase }, { on := 9, ground := Go.Ground.phase }, { on := 10, ground := Go.Ground.phase }], guard := none } : Oper)) rfl (fun K hK => ?_) ?_
              · go_simp
                refine hK.out _ _ (by trivial) (fun hHeld => ?_)
                clear hK K
                (try simp only [Act.put, List.setIfInBounds_toArray, List.set_cons_zero, List.set_cons_succ])
                refine wpAnyH_done (by kernel_rfl) ?_ _
                go_wp2_with fail
                go_region_held3 (fun w' => w'.cell? ⟨g, 8, none⟩ = some (Value.slice (some ⟨g2, 0, none⟩) (vs.length + 1) c2) ∧ w'.cell? ⟨g, 7, none⟩ = some (Value.int .i64 p.want)) (first | exact HK.out | go_keep) (fail)
                go_wp2_with fail
                go_ret
                rw [HW.out]
                obtain ⟨Oa', b1, b2, b3⟩ := G2.out.2 _ { p with args := p.args ++ [p.cur], st := .dollar } (by ((repeat (refine up1 ?_ _ _)); exact Upd.refl _ _)) (EZ.out.trans (by rfl)) rfl rfl rfl
                exact ⟨rfl, _, _, _, _, _, _, b1.upd (S := none_) (by first | exact Upd.refl _ _ | exact (Upd.refl _ _).drew) (fun _ _ h => h), b2, by first | exact b3 | exact b3.drew⟩
              exact AllReadyH.nil
            exact AllReadyH.nil
          exact AllReadyH.nil
        refine AllReadyH.cons (o := ({ dst := some 16, op := Go.Op.buildSlice 22 1 #[(0, Go.Operand.tmp 15)], type := 22, pos := "parser.go:179", after := #[{ on := 8, ground := Go.Ground.data }], guard := none } : Oper)) rfl (fun K hK => ?_) ?_
        · go_simp
          refine hK.out _ _ (by trivial) (fun hHeld => ?_)
          clear hK K
          (try simp only [Act.put, List.setIfInBounds_toArray, List.set_cons_zero, List.set_cons_succ])
          refine wpAnyH_ready (rs := [4]) (by kernel_rfl) (by simp) ?_
          refine AllReadyH.cons (o := ({ dst := some 11, op := Go.Op.load 22 (Go.Operand.tmp 10), type := 22, pos := "parser.go:179", after := #[{ on := 3, ground := Go.Ground.data }], guard := none } : Oper)) rfl (fun K hK => ?_) ?_
          · go_simp
            refine hK.out _ _ (by trivial) (fun hHeld => ?_)
            clear hK K
            (try simp only [Act.put, List.setIfInBounds_toArray, List.set_cons_zero, List.set_cons_succ])
            refine wpAnyH_ready (rs := [10]) (by kernel_rfl) (by simp) ?_
            refine AllReadyH.cons (o := ({ dst := some 17, op := Go.Op.call { callee := Go.Callee.builtin Go.Builtin.append, args := #[Go.Operand.tmp 11, Go.Operand.tmp 16], argTypes := #[22, 22] }, type := 22, pos := "parser.go:179", after := #[{ on := 4, ground := Go.Ground.data }, { on := 9, ground := Go.Ground.data }], guard := none } : Oper)) rfl (fun K hK => ?_) ?_
            · (refine step_gen2 _ rfl (.tmp 11) (.tmp 16) 22 26 rfl Try.underlying22 (.slice none 0 0) 24 (by kernel_rfl) rfl (by decide) (.slice Aa vs.length ca) vs rfl ?hv ⟨_, 0, none⟩ (.slice Ac p.cur.length cc) rfl ?hc rfl ?hb ?_; go_must ((case hv => exact HG.out.upd (S := none_) (Upd.of_below (below_alloc (Below.refl _ w).drew _)) (fun _ _ h => h))); go_must ((case hc => exact cell_one_new _ _ _ 0 _ rfl)); go_must ((case hb => exact HVS.out)); intro v2 w2 hr; obtain ⟨g2, c2, e2⟩ := hr.form; subst e2; have G2 := Aside0.mk (argsGrew H.out HL.out HE1.out HO1.out (below_alloc (Below.refl _ w).drew _) hr); clear hr hx9 hx8 hx8a; have hd2 := G2.out.1; have ex0 := (blk_cell hd2 8).trans (show _ = some (.slice Aa vs.length ca : Value) from rfl); have ef0 := blk_frozen hd2 8; have eh0 := blk_set hd2 8 (.slice (some ⟨g2, 0, none⟩) (vs.length + 1) c2); have ex1 := (blk_cell eh0 0).trans (show _ = some (fnV g p.st : Value) from rfl); have ef1 := blk_frozen eh0 0; have eh1 := blk_set eh0 0 (fnV g .dollar); have EZ := Aside0.mk eh1; clear eh0 eh1; have HK := Aside0.mk (And.intro ((blk_cell EZ.out 8).trans (show _ = some (Value.slice (some ⟨g2, 0, none⟩) (vs.length + 1) c2) from rfl)) ((blk_cell EZ.out 7).trans (show _ = some (Value.int .i64 p.want) from rfl))); clear hd2)
              refine hK.out _ _ (by trivial) (fun hHeld => ?_)
              clear hK K
              (try simp only [Act.put, List.setIfInBounds_toArray, List.set_cons_zero, List.set_cons_succ])
              refine wpAnyH_take (i := 11) (oi := ({ dst := some 18, op := Go.Op.nilCheck (Go.Operand.tmp 7), type := 0, pos := "parser.go:179", after := #[{ on := 0, ground := Go.Ground.data }, { on := 0, ground := Go.Ground.phase }, { on := 1, ground := Go.Ground.phase }, { on := 2, ground := Go.Ground.phase }, { on := 3, ground := Go.Ground.phase }, { on := 4, ground := Go.Ground.phase }, { on := 5, ground := Go.Ground.phase }, { on := 6, ground := Go.Ground.phase }, { on := 7, ground := Go.Ground.phase }, { on := 8, ground := Go.Ground.phase }, { on := 9, ground := Go.Ground.phase }, { on := 10, ground := Go.Ground.phase }], guard := none } : Oper)) (v := ?vr12) rfl (by kernel_rfl) (by kernel_rfl) (by kernel_rfl) (fun _ _ _ h => h) (Or.inl ⟨by rfl, ?hyr12⟩) (by first | trivial | assumption) ?restr12
              case hyr12 => (intro w hSw; (try dsimp only at hSw); go_simp; (try with_reducible rfl))
              (try simp only [Act.put, List.setIfInBounds_toArray, List.set_cons_zero, List.set_cons_succ])
              refine wpAnyH_take (i := 12) (oi := ({ dst := some 19, op := Go.Op.fieldAddr 84 (Go.Operand.tmp 18) 8, type := 0, pos := "parser.go:179", after := #[{ on := 11, ground := Go.Ground.data }, { on := 0, ground := Go.Ground.phase }, { on := 1, ground := Go.Ground.phase }, { on := 2, ground := Go.Ground.phase }, { on := 3, ground := Go.Ground.phase }, { on := 4, ground := Go.Ground.phase }, { on := 5, ground := Go.Ground.phase }, { on := 6, ground := Go.Ground.phase }, { on := 7, ground := Go.Ground.phase }, { on := 8, ground := Go.Ground.phase }, { on := 9, ground := Go.Ground.phase }, { on := 10, ground := Go.Ground.phase }], guard := none } : Oper)) (v := ?vr13) rfl (by kernel_rfl) (by kernel_rfl) (by kernel_rfl) (fun _ _ _ h => h) (Or.inl ⟨by rfl, ?hyr13⟩) (by first | trivial | assumption) ?restr13
              case hyr13 => (intro w hSw; (try dsimp only at hSw); go_simp; (try with_reducible rfl))
              (try simp only [Act.put, List.setIfInBounds_toArray, List.set_cons_zero, List.set_cons_succ])
              refine wpAnyH_ready (rs := [13]) (by kernel_rfl) (by simp) ?_
              refine AllReadyH.cons (o := ({ dst := none, op := Go.Op.store 22 (Go.Operand.tmp 19) (Go.Operand.tmp 17), type := 0, pos := "parser.go:179", after := #[{ on := 12, ground := Go.Ground.data }, { on := 10, ground := Go.Ground.data }, { on := 10, ground := Go.Ground.chain }, { on := 0, ground := Go.Ground.phase }, { on := 1, ground := Go.Ground.phase }, { on := 2, ground := Go.Ground.phase }, { on := 3, ground := Go.Ground.phase }, { on := 4, ground := Go.Ground.phase }, { on := 5, ground := Go.Ground.phase }, { on := 6, ground := Go.Ground.phase }, { on := 7, ground := Go.Ground.phase }, { on := 8, ground := Go.Ground.phase }, { on := 9, ground := Go.Ground.phase }, { on := 10, ground := Go.Ground.phase }], guard := none } : Oper)) rfl (fun K hK => ?_) ?_
              · go_simp
                refine hK.out _ _ (by trivial) (fun hHeld => ?_)
                clear hK K
                (try simp only [Act.put, List.setIfInBounds_toArray, List.set_cons_zero, List.set_cons_succ])
                refine wpAnyH_done (by kernel_rfl) ?_ _
                go_wp2_with fail
                go_region_held3 (fun w' => w'.cell? ⟨g, 8, none⟩ = some (Value.slice (some ⟨g2, 0, none⟩) (vs.length + 1) c2) ∧ w'.cell? ⟨g, 7, none⟩ = some (Value.int .i64 p.want)) (first | exact HK.out | go_keep) (fail)
                go_wp2_with fail
                go_ret
                rw [HW.out]
                obtain ⟨Oa', b1, b2, b3⟩ := G2.out.2 _ { p with args := p.args ++ [p.cur], st := .dollar } (by ((repeat (refine up1 ?_ _ _)); exact Upd.refl _ _)) (EZ.out.trans (by rfl)) rfl rfl rfl
                exact ⟨rfl, _, _, _, _, _, _, b1.upd (S := none_) (by first | exact Upd.refl _ _ | exact (Upd.refl _ _).drew) (fun _ _ h => h), b2, by first | exact b3 | exact b3.drew⟩
              exact AllReadyH.nil
            exact AllReadyH.nil
          exact AllReadyH.nil
        exact AllReadyH.nil
      exact AllReadyH.nil
  · have HW : Aside0 (ParS.step p c = (p, 82)) := ⟨by unfold ParS.step; rw [hs]; show ParS.contFB p c = _; unfold ParS.contFB; rw [if_pos hc]⟩
    clear h hd0 hcu hi hs hl
    go_enter Try.func97, Try.ntmps97
    go_wp2_with fail
    go_ret
    rw [HW.out]
    exact ⟨rfl, _, _, _, _, _, _, H.out, fun a _ => Nat.le_refl _, Upd.refl _ _⟩
end
end Go.Proofs.Ytfdkcnbkoagmiaa.ParB
