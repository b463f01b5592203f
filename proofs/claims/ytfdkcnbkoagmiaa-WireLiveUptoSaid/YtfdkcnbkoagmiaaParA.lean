/- Layer 8: the parser's methods that append, walked. -/
import Derived.Test.YtfdkcnbkoagmiaaParM
import Derived.StillTailTactics
import Derived.Deep.DeepMust
namespace Go.Proofs.Ytfdkcnbkoagmiaa.ParA
open Go Go.RowKit Go.Proofs.YtfdkcnbkoagmiaaW.PrintWords Go.Proofs.YtfdkcnbkoagmiaaW.PrintLast Go.Proofs.YtfdkcnbkoagmiaaW.PrintMore Go.Proofs.Ytfdkcnbkoagmiaa.RowU Go.Proofs.Ytfdkcnbkoagmiaa.ArS Go.Proofs.Ytfdkcnbkoagmiaa.ArM Go.Proofs.Ytfdkcnbkoagmiaa.GenM Go.Proofs.Ytfdkcnbkoagmiaa.GenN Go.Proofs.Ytfdkcnbkoagmiaa.OwnL Go.Proofs.Ytfdkcnbkoagmiaa.ParM
open Go.Proofs.Ytfdkcnbkoagmiaa.ParS (St PS)
set_option linter.unusedVariables false
set_option maxRecDepth 100000

/-- An append in a drawn region. -/
theorem step_gen2 {ops : Array Oper} {o : Oper} {a : Act} {K : Act → World → Prop} {Q : Exit → Act → World → Prop} {E : Prop} (w : World) (hg : o.guard = none) (s x : Operand) (t T : TypeId)
    (hop : o.op = Op.call { callee := Callee.builtin Builtin.append, args := #[s, x], argTypes := #[t, t] })
    (ht : Try.prog.underlying t = some (.slice T)) (z : Value) (by_ : Nat) (hi : (Try.prog.info? T).map (fun i => (i.zero, i.size, i.bytes)) = some (some z, 1, by_)) (hz : z.cells.size = 1) (hby : by_ ≤ 100)
    (v : Value) (l : List Value) (hs : a.eval s = v) (hv : GV T w v l) (ad : Addr) (y : Value) (hx : a.eval x = .slice (some ad) 1 1) (hc : w.cell? ad = some y) (h1 : y.oneCell' = true) (hb : l.length ≤ 100000000)
    (hK : ∀ v' w', Grew T w w' v v' l y → K (a.put o.dst v') w') :
    if Region.wanted o (yielded ops a.tmps) = true then Oper.wp Try.prog o a w K Q else E := by
  rw [if_pos (by simp [Region.wanted, hg])]
  exact oper_gen2 w s x t T hop ht z by_ hi hz hby v l hs hv ad y hx hc h1 hb hK
section
variable {w : World} {g : Nat} {p : PS} {va vc vo : Value} {Oa Oc Oo : Nat → Nat}
theorem fresh_one {n : Nat} {X Y Y' : Nat → Nat} (hX : ∀ a, X a ≠ 0 → a < n) (h1 : ∀ a, X a + Y a ≤ 1) (hY : ∀ a, Y' a ≤ 1) (hl : ∀ a, a < n → Y' a ≤ Y a) (a : Nat) : X a + Y' a ≤ 1 := by
  by_cases h : a < n
  · have := h1 a; have := hl a h; omega
  · have : X a = 0 := Decidable.not_not.1 fun hne => h (hX a hne)
    have := hY a
    omega
theorem oc_grew {T : TypeId} {w w1 w2 : World} {v v2 y : Value} {l : List Value} (hb : Below w.heap.size w w1) (hr : Grew T w1 w2 v v2 l y) (a : Nat) (ha : a < w.heap.size) : oc v2 a ≤ oc v a := by
  by_cases hz : oc v2 a = 0
  · omega
  · rcases hr.block a (oc_ne hz) with h | h
    · have : oc v a = 1 := by unfold oc; rw [if_pos h]
      have := oc_le v2 a
      omega
    · have := hb.size; omega
/-- Behind an append to cur. -/
theorem curGrew (h : PM w g p va vc vo Oa Oc Oo) (hl : live p.st = true) {w1 w2 : World} {v2 : Value} {c : Int} (hb : Below w.heap.size w w1) (hr : Grew 5 w1 w2 vc v2 (p.cur.map (Value.int .u8)) (.int .u8 c)) :
    w2.heap[g]? = some (.cells (pc g p va vc vo) 84 (0, 0)) ∧ ∀ w3 p', Upd (fun a => a = g) w2 w3 → w3.heap[g]? = some (.cells (pc g p' va v2 vo) 84 (0, 0)) → p'.args = p.args → p'.out = p.out → p'.cur = p.cur ++ [c] → live p'.st = true → PQ w w3 (PO g Oa Oc Oo) g p' := by
  have hcu : BtR w vc p.cur Oc := by have := h.cu; rw [hl] at this; exact this
  have h1 := h.one
  have hOc := hcu.2
  have h12 : Upd (fun a => PO g Oa Oc Oo a ≠ 0) w w2 := (Upd.of_below hb).trans2 hr.upd (fun a ha => .inl (by unfold PO; rw [hOc]; unfold oc; rw [if_pos ha]; omega))
  have hv : Upd (fun a => vc.ownBlock = some a) w w2 := (Upd.of_below hb).trans2 hr.upd (fun a ha => .inl ha)
  have ne : ∀ a, (if a = g then 1 else 0) + Oa a + Oo a ≠ 0 → ¬ vc.ownBlock = some a := fun a ha e => by
    have := h1 a; have h2 := hOc a; unfold oc at h2; rw [if_pos e] at h2; omega
  refine ⟨blk_upd h.hd hv (ne g (by rw [if_pos rfl]; omega)), fun w3 p' hu hd ha ho hc hl' => ?_⟩
  have hg : ∀ a, Oa a + Oo a ≠ 0 → ¬ a = g := fun a ha e => by have := h1 a; rw [if_pos e] at this; omega
  have hlt : ∀ a, (if a = g then 1 else 0) + Oa a + Oo a ≠ 0 → a < w.heap.size := fun a ha => h.lt (by unfold PO; omega)
  have hocg : ∀ a, oc v2 a ≠ 0 → ¬ a = g := fun a ha e => by
    subst e
    have hg0 := hlt a (by rw [if_pos rfl]; omega)
    have := oc_grew hb hr a hg0
    have := h1 a
    rw [hOc, if_pos rfl] at this
    omega
  refine ⟨va, v2, vo, Oa, oc v2, Oo, ⟨hd, by rw [ha]; exact RwR.fit.upd (RwR.fit.upd h.ar hv (fun a h0 => ne a (by omega))) hu (fun a h0 => hg a (by omega)), ?_, by rw [ho]; exact CmR.fit.upd (CmR.fit.upd h.ou hv (fun a h0 => ne a (by omega))) hu (fun a h0 => hg a (by omega)), fun a => ?_⟩, fun a hlt' => ?_, h12.trans2 hu (fun a e => .inl (by subst e; unfold PO; rw [if_pos rfl]; omega))⟩
  · rw [hl', hc]
    refine BtR.fit.upd (R := BtR) (O := oc v2) ⟨?_, fun _ => rfl⟩ hu hocg
    have := hr.gv
    rw [List.map_append]
    exact this
  · have := fresh_one (X := fun a => (if a = g then 1 else 0) + Oa a + Oo a) (Y := Oc) (Y' := oc v2) hlt (fun a => by have := h1 a; (try dsimp only); omega) (oc_le v2) (fun a ha => by rw [hOc]; exact oc_grew hb hr a ha) a
    (try dsimp only at this)
    omega
  · have := oc_grew hb hr a hlt'
    unfold PO
    rw [hOc]
    omega
/-- Behind an append of cur to args: cur's block is the list's. -/
theorem argsGrew (h : PM w g p va vc vo Oa Oc Oo) (hl : live p.st = true) {vs : List Value} {O1 : Nat → Nat} (he : El BtR w vs p.args O1) (hO1 : ∀ a, Oa a = oc va a + O1 a) {w1 w2 : World} {v2 : Value} (hb : Below w.heap.size w w1) (hr : Grew 26 w1 w2 va v2 vs vc) :
    w2.heap[g]? = some (.cells (pc g p va vc vo) 84 (0, 0)) ∧ ∀ w3 p', Upd (fun a => a = g) w2 w3 → w3.heap[g]? = some (.cells (pc g p' v2 vc vo) 84 (0, 0)) → p'.args = p.args ++ [p.cur] → p'.out = p.out → live p'.st = false → ∃ Oa', PM w3 g p' v2 vc vo Oa' (fun _ => 0) Oo ∧ (∀ a, a < w.heap.size → PO g Oa' (fun _ => 0) Oo a ≤ PO g Oa Oc Oo a) ∧ Upd (fun a => PO g Oa Oc Oo a ≠ 0) w w3 := by
  have hcu : BtR w vc p.cur Oc := by have := h.cu; rw [hl] at this; exact this
  have h1 := h.one
  have hOc := hcu.2
  have hv : Upd (fun a => va.ownBlock = some a) w w2 := (Upd.of_below hb).trans2 hr.upd (fun a ha => .inl ha)
  have h12 : Upd (fun a => PO g Oa Oc Oo a ≠ 0) w w2 := hv.mono (fun a ha => by unfold PO; rw [hO1]; unfold oc; rw [if_pos ha]; omega)
  have ne : ∀ a, (if a = g then 1 else 0) + Oo a ≠ 0 → ¬ va.ownBlock = some a := fun a ha e => by
    have := h1 a; have h2 := hO1 a; unfold oc at h2; rw [if_pos e] at h2; omega
  refine ⟨blk_upd h.hd hv (ne g (by rw [if_pos rfl]; omega)), fun w3 p' hu hd ha ho hl' => ?_⟩
  have hub : ∀ a, O1 a ≠ 0 ∨ Oc a ≠ 0 → ¬ (fun _ : Nat => False) a := fun a _ hf => hf
  obtain ⟨Oa', hA, hA1, hA2⟩ := LAt.grew BtR.fit (he.upd BtR.fit (Upd.of_below hb) (fun a ha => hub a (.inl ha))) (BtR.fit.upd hcu (Upd.of_below hb) (fun a ha => hub a (.inr ha))) (fun a => by have := h1 a; rw [hO1] at this; omega) hr
  have hA2' : ∀ a, a < w.heap.size → Oa' a ≤ Oa a + Oc a := fun a ha => by
    have := hA2 a (by have := hb.size; omega)
    have := hO1 a
    omega
  have hg : ∀ a, Oo a ≠ 0 → ¬ a = g := fun a ha e => by have := h1 a; rw [if_pos e] at this; omega
  have hlt : ∀ a, (if a = g then 1 else 0) + Oo a ≠ 0 → a < w.heap.size := fun a ha => h.lt (by unfold PO; omega)
  have hAg : ∀ a, Oa' a ≠ 0 → ¬ a = g := fun a ha e => by
    subst e
    have hg0 := hlt a (by rw [if_pos rfl]; omega)
    have := hA2' a hg0
    have := h1 a
    rw [if_pos rfl] at this
    omega
  refine ⟨Oa', ⟨hd, by rw [ha]; exact RwR.fit.upd hA hu hAg, by rw [hl']; exact fun _ => rfl, by rw [ho]; exact CmR.fit.upd (CmR.fit.upd h.ou hv (fun a h0 => ne a (by omega))) hu (fun a h0 => hg a (by omega)), fun a => ?_⟩, fun a hlt' => ?_, h12.trans2 hu (fun a e => .inl (by subst e; unfold PO; rw [if_pos rfl]; omega))⟩
  · have := fresh_one (X := fun a => (if a = g then 1 else 0) + Oo a) (Y := fun a => Oa a + Oc a) (Y' := Oa') hlt (fun a => by have := h1 a; (try dsimp only); omega) hA1 (fun a ha => hA2' a ha) a
    (try dsimp only at this ⊢)
    omega
  · have := hA2' a hlt'
    unfold PO
    (try dsimp only)
    omega
/-- Behind an append of args to out: the list's blocks are out's. -/
theorem outGrew (h : PM w g p va vc vo Oa Oc Oo) {vs : List Value} {O1 : Nat → Nat} (he : El RwR w vs p.out O1) (hO1 : ∀ a, Oo a = oc vo a + O1 a) {w1 w2 : World} {v2 : Value} (hb : Below w.heap.size w w1) (hr : Grew 22 w1 w2 vo v2 vs va) :
    w2.heap[g]? = some (.cells (pc g p va vc vo) 84 (0, 0)) ∧ ∀ w3 p', Upd (fun a => a = g) w2 w3 → w3.heap[g]? = some (.cells (pc g p' (.slice none 0 0) (.slice none 0 0) v2) 84 (0, 0)) → p'.args = [] → p'.out = p.out ++ [p.args] → live p'.st = false → PQ w w3 (PO g Oa Oc Oo) g p' := by
  have h1 := h.one
  have hv : Upd (fun a => vo.ownBlock = some a) w w2 := (Upd.of_below hb).trans2 hr.upd (fun a ha => .inl ha)
  have h12 : Upd (fun a => PO g Oa Oc Oo a ≠ 0) w w2 := hv.mono (fun a ha => by unfold PO; rw [hO1]; unfold oc; rw [if_pos ha]; omega)
  have ne : ∀ a, (if a = g then 1 else 0) ≠ 0 → ¬ vo.ownBlock = some a := fun a ha e => by
    have := h1 a; have h2 := hO1 a; unfold oc at h2; rw [if_pos e] at h2; omega
  refine ⟨blk_upd h.hd hv (ne g (by rw [if_pos rfl]; omega)), fun w3 p' hu hd ha ho hl' => ?_⟩
  have hub : ∀ a, O1 a ≠ 0 ∨ Oa a ≠ 0 → ¬ (fun _ : Nat => False) a := fun a _ hf => hf
  obtain ⟨Oo', hA, hA1, hA2⟩ := LAt.grew RwR.fit (he.upd RwR.fit (Upd.of_below hb) (fun a ha => hub a (.inl ha))) (RwR.fit.upd h.ar (Upd.of_below hb) (fun a ha => hub a (.inr ha))) (fun a => by have := h1 a; rw [hO1] at this; omega) hr
  have hA2' : ∀ a, a < w.heap.size → Oo' a ≤ Oo a + Oa a := fun a ha => by
    have := hA2 a (by have := hb.size; omega)
    have := hO1 a
    omega
  have hlt : ∀ a, (if a = g then 1 else 0) ≠ 0 → a < w.heap.size := fun a ha => h.lt (by unfold PO; omega)
  have hAg : ∀ a, Oo' a ≠ 0 → ¬ a = g := fun a ha e => by
    subst e
    have hg0 := hlt a (by rw [if_pos rfl]; omega)
    have := hA2' a hg0
    have := h1 a
    rw [if_pos rfl] at this
    omega
  refine ⟨.slice none 0 0, .slice none 0 0, v2, fun _ => 0, fun _ => 0, Oo', ⟨hd, by rw [ha]; exact LAt.nil _ _ _, by rw [hl']; exact fun _ => rfl, by rw [ho]; exact CmR.fit.upd hA hu hAg, fun a => ?_⟩, fun a hlt' => ?_, h12.trans2 hu (fun a e => .inl (by subst e; unfold PO; rw [if_pos rfl]; omega))⟩
  · have := fresh_one (X := fun a => (if a = g then 1 else 0)) (Y := fun a => Oo a + Oa a) (Y' := Oo') hlt (fun a => by have := h1 a; (try dsimp only); omega) hA1 (fun a ha => hA2' a ha) a
    (try dsimp only at this ⊢)
    omega
  · have := hA2' a hlt'
    unfold PO
    (try dsimp only)
    omega
theorem w64s (x : Int) (h0 : -9223372036854775808 ≤ x) (h1 : x < 9223372036854775808) : wrap64 x = x := by unfold wrap64; omega
set_option maxHeartbeats 8000000 in
theorem content.calls : StepC .content := by
  intro w g p va vc vo Oa Oc Oo c h hi hs h0 h1 hol
  have hl : live p.st = true := by rw [hs]; rfl
  have hcu : BtR w vc p.cur Oc := by have := h.cu; rw [hl] at this; exact this
  have H := Aside0.mk h
  have HC := Aside0.mk hcu
  have HL := Aside0.mk hl
  have hlen := hi.cur
  have hleft := hi.left
  have hpos := hi.cont hs
  have hd0 := h.hd
  have dx0 := (blk_cell hd0 9).trans (show _ = some (vc : Value) from rfl)
  have HE : Aside0 ((ParS.step p c) = ({ p with cur := p.cur ++ [c], left := p.left - 1, st := if p.left - 1 = 0 then .contR else .content }, 0)) := ⟨by unfold ParS.step; rw [hs]⟩
  have hmf := hmf_
  have hw : wrap64 (p.left - 1) = p.left - 1 := w64s _ (by omega) (by omega)
  have HS := Aside0.mk hs
  clear h hcu hi hs hl hd0
  show Calls Try.prog 90 _ _ _
  by_cases hz : p.left - 1 = 0
  · go_enter Try.func90, Try.ntmps90
    go_upto_region 2 with ((with_reducible refine gate_builtin (b := .append) (xs := #[.tmp 9, .tmp 11]) rfl ?_); at_builtin; refine wpList_gen2 _ rfl (.tmp 9) (.tmp 11) 26 5 rfl Try.underlying26 (.int .u8 0) 1 (by kernel_rfl) rfl (by decide) vc (p.cur.map (Value.int .u8)) rfl ?hv ⟨w.heap.size, 0, none⟩ (.int .u8 c) rfl ?hc rfl ?hb ?_; (case hv => exact HC.out.1.upd (S := none_) (Upd.of_below (below_alloc (Below.refl _ _) _)) (fun _ _ h => h)); (case hc => exact cell_one_new _ _ _ 0 _ rfl); (case hb => rw [List.length_map]; omega); intro v2 w2 hr; obtain ⟨g2, c2, e2⟩ := hr.form; rw [List.length_map] at e2; subst e2; clear dx0; have G2 := Aside0.mk (curGrew H.out HL.out (below_alloc (Below.refl _ _) _) hr); clear hr; have hd2 := G2.out.1; have ex0 := (blk_cell hd2 9).trans (show _ = some (vc : Value) from rfl); have ef0 := blk_frozen hd2 9; have eh0 := blk_set hd2 9 (.slice (some ⟨g2, 0, none⟩) (p.cur.length + 1) c2); have ex1 := (blk_cell eh0 10).trans (show _ = some (.int .i64 p.left : Value) from rfl); have ex2 := (blk_cell eh0 10).trans (show _ = some (.int .i64 p.left : Value) from rfl); have ef1 := blk_frozen eh0 10; have eh1 := blk_set eh0 10 (.int .i64 0); have ex3 := (blk_cell eh1 10).trans (show _ = some (.int .i64 0 : Value) from rfl); have ex4 := (blk_cell eh1 0).trans (show _ = some (fnV g p.st : Value) from rfl); have ef2 := blk_frozen eh1 0; have eh2 := blk_set eh1 0 (fnV g .contR); have EZ := Aside0.mk eh2; clear eh0 eh1 eh2; clear hd2)
    go_wp2_with fail
    go_ret
    rw [HE.out, if_pos hz]
    exact ⟨rfl, G2.out.2 _ _ (by ((repeat (refine up1 ?_ _ _)); exact Upd.refl _ _)) (EZ.out.trans (by simp only [hz]; rfl)) rfl rfl rfl rfl⟩
  · go_enter Try.func90, Try.ntmps90
    go_upto_region 2 with ((with_reducible refine gate_builtin (b := .append) (xs := #[.tmp 9, .tmp 11]) rfl ?_); at_builtin; refine wpList_gen2 _ rfl (.tmp 9) (.tmp 11) 26 5 rfl Try.underlying26 (.int .u8 0) 1 (by kernel_rfl) rfl (by decide) vc (p.cur.map (Value.int .u8)) rfl ?hv ⟨w.heap.size, 0, none⟩ (.int .u8 c) rfl ?hc rfl ?hb ?_; (case hv => exact HC.out.1.upd (S := none_) (Upd.of_below (below_alloc (Below.refl _ _) _)) (fun _ _ h => h)); (case hc => exact cell_one_new _ _ _ 0 _ rfl); (case hb => rw [List.length_map]; omega); intro v2 w2 hr; obtain ⟨g2, c2, e2⟩ := hr.form; rw [List.length_map] at e2; subst e2; clear dx0; have G2 := Aside0.mk (curGrew H.out HL.out (below_alloc (Below.refl _ _) _) hr); clear hr; have hd2 := G2.out.1; have ex0 := (blk_cell hd2 9).trans (show _ = some (vc : Value) from rfl); have ef0 := blk_frozen hd2 9; have eh0 := blk_set hd2 9 (.slice (some ⟨g2, 0, none⟩) (p.cur.length + 1) c2); have ex1 := (blk_cell eh0 10).trans (show _ = some (.int .i64 p.left : Value) from rfl); have ex2 := (blk_cell eh0 10).trans (show _ = some (.int .i64 p.left : Value) from rfl); have ef1 := blk_frozen eh0 10; have eh1 := blk_set eh0 10 (.int .i64 (p.left - 1)); have ex3 := (blk_cell eh1 10).trans (show _ = some (.int .i64 (p.left - 1) : Value) from rfl); have EZ := Aside0.mk eh1; clear eh0 eh1; clear hd2)
    go_wp2_with fail
    go_ret
    rw [HE.out, if_neg hz]
    exact ⟨rfl, G2.out.2 _ _ (by ((repeat (refine up1 ?_ _ _)); exact Upd.refl _ _)) (by rw [← HS.out]; exact EZ.out) rfl rfl rfl rfl⟩
set_option maxHeartbeats 8000000 in
theorem dollar.calls : StepC .dollar := by
  intro w g p va vc vo Oa Oc Oo c h hi hs h0 h1 hol
  have HN := Aside0.mk (number.calls h 1 4096)
  have HU := Aside0.mk unless.calls
  have HE : Aside0 ((ParS.step p c) = (ParS.number p 1 4096, if c = 36 then 0 else 81)) := ⟨by unfold ParS.step; rw [hs]⟩
  clear h hi hs
  show Calls Try.prog 92 _ _ _
  by_cases hc : c = 36
  · subst hc
    go_enter Try.func92, Try.ntmps92
    go_wp2_with (first | (go_at_call 53; refine (HU.out _ _ _).mono ?_; rintro e w2 ⟨rfl, rfl⟩) | (go_at_call 42; refine HN.out.mono ?_; rintro e w1 ⟨rfl, h1, hu1⟩; have H1 := Aside0.mk (And.intro h1 hu1); clear h1 hu1))
    go_ret
    rw [HE.out]
    exact ⟨rfl, PQ.of H1.out.1 H1.out.2 (fun a => by unfold PO; dsimp only; omega)⟩
  · go_enter Try.func92, Try.ntmps92
    go_wp2_with (first | (go_at_call 53; refine (HU.out _ _ _).mono ?_; rintro e w2 ⟨rfl, rfl⟩) | (go_at_call 42; refine HN.out.mono ?_; rintro e w1 ⟨rfl, h1, hu1⟩; have H1 := Aside0.mk (And.intro h1 hu1); clear h1 hu1))
    go_ret
    rw [HE.out, if_neg hc]
    exact ⟨rfl, PQ.of H1.out.1 H1.out.2 (fun a => by unfold PO; dsimp only; omega)⟩
end
end Go.Proofs.Ytfdkcnbkoagmiaa.ParA
