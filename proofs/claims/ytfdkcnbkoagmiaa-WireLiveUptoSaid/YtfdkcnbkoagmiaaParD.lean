/- Layer 8: the parser's methods line, begin; New, Broken, Held walked. -/
import Derived.Test.YtfdkcnbkoagmiaaParC
import Derived.Test.YtfdkcnbkoagmiaaLinW
namespace Go.Proofs.Ytfdkcnbkoagmiaa.ParD
open Go Go.RowKit Go.Proofs.YtfdkcnbkoagmiaaW.PrintWords Go.Proofs.YtfdkcnbkoagmiaaW.PrintLast Go.Proofs.YtfdkcnbkoagmiaaW.PrintMore Go.Proofs.Ytfdkcnbkoagmiaa.RowU Go.Proofs.Ytfdkcnbkoagmiaa.ArS Go.Proofs.Ytfdkcnbkoagmiaa.ArM Go.Proofs.Ytfdkcnbkoagmiaa.GenM Go.Proofs.Ytfdkcnbkoagmiaa.GenN Go.Proofs.Ytfdkcnbkoagmiaa.OwnL Go.Proofs.Ytfdkcnbkoagmiaa.ParM Go.Proofs.Ytfdkcnbkoagmiaa.ParA Go.Proofs.Ytfdkcnbkoagmiaa.ParB Go.Proofs.Ytfdkcnbkoagmiaa.ParC
open Go.Proofs.Ytfdkcnbkoagmiaa.ParS (St PS)
open Go.Proofs.Ytfdkcnbkoagmiaa.LinS (inB)
set_option linter.unusedVariables false
set_option maxRecDepth 100000

section
variable {w : World} {g : Nat} {p : PS} {va vc vo : Value} {Oa Oc Oo : Nat → Nat}
theorem PQ.same (h : PM w g p va vc vo Oa Oc Oo) : PQ w w (PO g Oa Oc Oo) g p := ⟨_, _, _, _, _, _, h, fun _ _ => Nat.le_refl _, Upd.refl _ _⟩
/-- New args. -/
theorem argsSet (h : PM w g p va vc vo Oa Oc Oo) {w1 : World} {v : Value} {ls : List (List Int)} {Ow : Nat → Nat} (hb : Below w.heap.size w w1) (hv : RwR w1 v ls Ow) (h1 : ∀ a, Ow a ≤ 1) (hn : ∀ a, Ow a ≠ 0 → w.heap.size ≤ a) :
    w1.heap[g]? = some (.cells (pc g p va vc vo) 84 (0, 0)) ∧ ∀ w3, Upd (fun a => a = g) w1 w3 → w3.heap[g]? = some (.cells (pc g { p with args := ls } v vc vo) 84 (0, 0)) → PM w3 g { p with args := ls } v vc vo Ow Oc Oo ∧ (∀ a, a < w.heap.size → PO g Ow Oc Oo a ≤ PO g Oa Oc Oo a) ∧ Upd (fun a => PO g Oa Oc Oo a ≠ 0) w w3 := by
  have ho := h.one
  have hlt : ∀ a, PO g Oa Oc Oo a ≠ 0 → a < w.heap.size := fun a ha => h.lt ha
  have hgl : g < w.heap.size := hlt g (by unfold PO; rw [if_pos rfl]; omega)
  refine ⟨blk_below h.hd hb, fun w3 hu hd => ?_⟩
  have hg : ∀ a, Oc a + Oo a ≠ 0 → ¬ a = g := fun a ha e => by have := ho a; rw [if_pos e] at this; omega
  have hz2 : ∀ a, a < w.heap.size → Ow a = 0 := fun a ha => Decidable.not_not.1 fun hne => by have := hn a hne; omega
  refine ⟨⟨hd, RwR.fit.upd hv hu (fun a ha e => by subst e; have := hn a ha; omega), (h.cu.upd (Upd.of_below (S := fun _ => False) hb) (fun a _ hf => hf)).upd hu (fun a h0 => hg a (by omega)), CmR.fit.upd (CmR.fit.upd h.ou (Upd.of_below (S := fun _ => False) hb) (fun a _ hf => hf)) hu (fun a h0 => hg a (by omega)), fun a => ?_⟩, fun a hlt' => ?_, (Upd.of_below hb).trans2 hu (fun a e => .inl (by subst e; unfold PO; rw [if_pos rfl]; omega))⟩
  · by_cases hlt' : a < w.heap.size
    · have := ho a; have := hz2 a hlt'; omega
    · have e0 : PO g Oa Oc Oo a = 0 := Decidable.not_not.1 fun hne => hlt' (hlt a hne)
      unfold PO at e0
      have := h1 a
      omega
  · have := hz2 a hlt'
    unfold PO
    omega
end
set_option maxHeartbeats 8000000 in
theorem line.calls {w : World} {g : Nat} {p : PS} {va vc vo : Value} {Oa Oc Oo : Nat → Nat} (c : Int) (h : PM w g p va vc vo Oa Oc Oo) (hi : ParS.Inv p) (hs : p.st = .line) (h0 : 0 ≤ c) (h1 : c < 256) (hol : p.out.length ≤ 90000000) (hcb : inB p.cur) :
    Calls Try.prog 43 #[ptr g, .int .u8 c] w fun e w' => e = .returned (.int .i64 (ParS.lineB p c).2) ∧ PQ w w' (PO g Oa Oc Oo) g (ParS.lineB p c).1 := by
  have hl : live p.st = true := by rw [hs]; rfl
  have hcu : BtR w vc p.cur Oc := by have := h.cu; rw [hl] at this; exact this
  have H := Aside0.mk h
  have HC := Aside0.mk hcu
  have HL := Aside0.mk hl
  have HS := Aside0.mk hs
  have HOL := Aside0.mk hol
  have hlen := hi.curl hs
  have hd0 := h.hd
  have hmf := hmf_
  obtain ⟨Ac, cc, rfl, hcc⟩ := hcu.slice
  have dx0 := (blk_cell hd0 9).trans (show _ = some (.slice Ac p.cur.length cc : Value) from rfl)
  by_cases hc : c = 10
  · subst hc
    have HLN := Aside0.mk (LinW.line.calls Ac cc p.cur w hcu.C.2.2 hcb hcc)
    clear h hcu hi hs hl hd0 hol hcb hcc
    by_cases hz : (LinS.line p.cur).2 = 0
    · have HW : Aside0 (ParS.lineB p 10 = (ParS.whole { p with args := (LinS.line p.cur).1 }, 0)) := ⟨by unfold ParS.lineB; rw [if_neg (by decide), if_neg (Decidable.not_not.2 hz)]⟩
      rw [hz] at HLN
      go_enter Try.func43, Try.ntmps43
      go_wp2_with (first | (go_at_call 9; refine HLN.out.mono ?_; rintro e w1 ⟨v, Ow, rfl, k1, k2, k3, k4⟩; obtain ⟨Av, cv, rfl⟩ := k1.slice; have G2 := Aside0.mk (argsSet H.out k4 k1 k2 k3); clear k1 k2 k3 k4 dx0; have hd2 := G2.out.1; have ex0 := (blk_cell hd2 8).trans (show _ = some (va : Value) from rfl); have ef0 := blk_frozen hd2 8; have eh0 := blk_set hd2 8 (.slice Av (LinS.line p.cur).1.length cv); have EZ := Aside0.mk eh0; clear eh0; clear hd2) | (go_at_call 54; have H3 := Aside0.mk (G2.out.2 _ (by ((repeat (refine up1 ?_ _ _)); exact Upd.refl _ _)) (EZ.out.trans (by rfl))); refine (whole.calls H3.out.1 HOL.out).mono ?_; rintro e w4 ⟨rfl, hq⟩; have H4 := Aside0.mk (PQ.trans H3.out.1 H3.out.2.1 H3.out.2.2 hq); clear hq))
      go_ret
      rw [HW.out]
      exact ⟨rfl, H4.out⟩
    · have HW : Aside0 (ParS.lineB p 10 = (p, (LinS.line p.cur).2)) := ⟨by unfold ParS.lineB; rw [if_neg (by decide), if_pos hz]⟩
      obtain ⟨E, hE⟩ : ∃ E, E = (LinS.line p.cur).2 := ⟨_, rfl⟩
      rw [← hE] at HLN HW hz
      clear hE
      go_enter Try.func43, Try.ntmps43
      go_wp2_with (go_at_call 9; refine HLN.out.mono ?_; rintro e w1 ⟨v, Ow, rfl, k1, k2, k3, k4⟩; have K4 := Aside0.mk k4; clear k1 k2 k3 k4)
      go_ret
      rw [HW.out]
      exact ⟨rfl, _, _, _, _, _, _, H.out.upd (S := fun _ => False) (Upd.of_below K4.out) (fun _ _ hf => hf), fun a _ => Nat.le_refl _, Upd.of_below K4.out⟩
  · have HU := Aside0.mk unless.calls
    clear h hcu hi hs hl hd0 hol hcb hcc
    by_cases hle : p.cur.length + 1 ≤ 1024
    · have HW : Aside0 (ParS.lineB p c = ({ p with cur := p.cur ++ [c] }, 0)) := ⟨by unfold ParS.lineB; rw [if_pos hc, if_pos hle]⟩
      have hle2 : (p.cur.length : Int) + 1 ≤ 1024 := by omega
      clear hle
      go_enter Try.func43, Try.ntmps43
      go_upto_region 3 with ((with_reducible refine gate_builtin (b := .append) (xs := #[.tmp 13, .tmp 15]) rfl ?_); at_builtin; refine wpList_gen2 _ rfl (.tmp 13) (.tmp 15) 26 5 rfl Try.underlying26 (.int .u8 0) 1 (by kernel_rfl) rfl (by decide) (.slice Ac p.cur.length cc) (p.cur.map (Value.int .u8)) rfl ?hv ⟨w.heap.size, 0, none⟩ (.int .u8 c) rfl ?hc rfl ?hb ?_; (case hv => exact HC.out.1.upd (S := none_) (Upd.of_below (below_alloc (Below.refl _ _) _)) (fun _ _ h => h)); (case hc => exact cell_one_new _ _ _ 0 _ rfl); (case hb => rw [List.length_map]; omega); intro v2 w2 hr; obtain ⟨g2, c2, e2⟩ := hr.form; rw [List.length_map] at e2; subst e2; clear dx0; have G2 := Aside0.mk (curGrew H.out HL.out (below_alloc (Below.refl _ _) _) hr); clear hr; have hd2 := G2.out.1; have ex0 := (blk_cell hd2 9).trans (show _ = some (.slice Ac p.cur.length cc : Value) from rfl); have ef0 := blk_frozen hd2 9; have eh0 := blk_set hd2 9 (.slice (some ⟨g2, 0, none⟩) (p.cur.length + 1) c2); have ex1 := (blk_cell eh0 9).trans (show _ = some (.slice (some ⟨g2, 0, none⟩) (p.cur.length + 1) c2 : Value) from rfl); have EZ := Aside0.mk eh0; clear eh0; clear hd2)
      go_wp2_with (go_at_call 53; refine (HU.out _ _ _).mono ?_; rintro e w5 ⟨rfl, rfl⟩)
      go_ret
      rw [HW.out]
      exact ⟨rfl, G2.out.2 _ _ (by ((repeat (refine up1 ?_ _ _)); exact Upd.refl _ _)) (EZ.out.trans (by rfl)) rfl rfl rfl HL.out⟩
    · have HW : Aside0 (ParS.lineB p c = ({ p with cur := p.cur ++ [c] }, 83)) := ⟨by unfold ParS.lineB; rw [if_pos hc, if_neg hle]⟩
      have hle2 : ¬ (p.cur.length : Int) + 1 ≤ 1024 := by omega
      clear hle
      go_enter Try.func43, Try.ntmps43
      go_upto_region 3 with ((with_reducible refine gate_builtin (b := .append) (xs := #[.tmp 13, .tmp 15]) rfl ?_); at_builtin; refine wpList_gen2 _ rfl (.tmp 13) (.tmp 15) 26 5 rfl Try.underlying26 (.int .u8 0) 1 (by kernel_rfl) rfl (by decide) (.slice Ac p.cur.length cc) (p.cur.map (Value.int .u8)) rfl ?hv ⟨w.heap.size, 0, none⟩ (.int .u8 c) rfl ?hc rfl ?hb ?_; (case hv => exact HC.out.1.upd (S := none_) (Upd.of_below (below_alloc (Below.refl _ _) _)) (fun _ _ h => h)); (case hc => exact cell_one_new _ _ _ 0 _ rfl); (case hb => rw [List.length_map]; omega); intro v2 w2 hr; obtain ⟨g2, c2, e2⟩ := hr.form; rw [List.length_map] at e2; subst e2; clear dx0; have G2 := Aside0.mk (curGrew H.out HL.out (below_alloc (Below.refl _ _) _) hr); clear hr; have hd2 := G2.out.1; have ex0 := (blk_cell hd2 9).trans (show _ = some (.slice Ac p.cur.length cc : Value) from rfl); have ef0 := blk_frozen hd2 9; have eh0 := blk_set hd2 9 (.slice (some ⟨g2, 0, none⟩) (p.cur.length + 1) c2); have ex1 := (blk_cell eh0 9).trans (show _ = some (.slice (some ⟨g2, 0, none⟩) (p.cur.length + 1) c2 : Value) from rfl); have EZ := Aside0.mk eh0; clear eh0; clear hd2)
      go_wp2_with (go_at_call 53; refine (HU.out _ _ _).mono ?_; rintro e w5 ⟨rfl, rfl⟩)
      go_ret
      rw [HW.out]
      exact ⟨rfl, G2.out.2 _ _ (by ((repeat (refine up1 ?_ _ _)); exact Upd.refl _ _)) (EZ.out.trans (by rfl)) rfl rfl rfl HL.out⟩
/-- A state's line begins. -/
theorem toLine {p : PS} (h : ParS.Inv p) : ParS.Inv { p with cur := [], st := .line } := by
  obtain ⟨a1, a2, a3, a4, a5, a6, a7, a8, a9, a10, a11, a12, a13⟩ := h
  exact ⟨a1, a2, a3, a4, fun h => (by cases h), a6, a7, fun h => (by rcases h with h | h | h | h | ⟨h | h, _⟩ <;> cases h), by simp, fun h => (by cases h), fun _ => by simp, a12, fun h => (by rcases h with h | h <;> cases h)⟩
set_option maxHeartbeats 8000000 in
theorem begin.calls : StepC .begin := by
  intro w g p va vc vo Oa Oc Oo c h hi hs h0 h1 hol
  have H := Aside0.mk h
  have hd0 := h.hd
  have hmf := hmf_
  have HI := Aside0.mk (And.intro (toLine hi) hol)
  have hst : ParS.step p c = if c = 42 then (ParS.number p 0 128, 0) else ParS.lineB { p with cur := [], st := .line } c := by unfold ParS.step; rw [hs]
  show Calls Try.prog 32 _ _ _
  by_cases hc : c = 42
  · have HN := Aside0.mk (number.calls h 0 128)
    subst hc
    rw [if_pos rfl] at hst
    have HE := Aside0.mk hst
    clear h hd0 hi hs hst hol
    go_enter Try.func32, Try.ntmps32
    go_wp2_with (go_at_call 42; refine HN.out.mono ?_; rintro e w1 ⟨rfl, k1, k2⟩; have H1 := Aside0.mk (And.intro k1 k2); clear k1 k2)
    go_ret
    rw [HE.out]
    exact ⟨rfl, PQ.of H1.out.1 H1.out.2 (fun a => by unfold PO; dsimp only; omega)⟩
  · rw [if_neg hc] at hst
    have HE := Aside0.mk hst
    have ex0 := (blk_cell hd0 9).trans (show _ = some (vc : Value) from rfl)
    have ef0 := blk_frozen hd0 9
    have eh0 := blk_set hd0 9 (.slice none 0 0)
    have ex1 := (blk_cell eh0 0).trans (show _ = some (fnV g p.st : Value) from rfl)
    have ef1 := blk_frozen eh0 0
    have eh1 := blk_set eh0 0 (fnV g .line)
    have EZ := Aside0.mk eh1
    clear eh0 eh1
    have HP : Aside0 (∀ w', Upd (fun a => a = g) w w' → w'.heap[g]? = some (.cells (pc g { p with cur := [], st := .line } va (.slice none 0 0) vo) 84 (0, 0)) → PM w' g { p with cur := [], st := .line } va (.slice none 0 0) vo Oa (fun _ => 0) Oo) := ⟨fun w' hu hd => by
      have ho := H.out.one
      have hz : ∀ a, Oa a + Oo a ≠ 0 → ¬ a = g := fun a ha e => by have := ho a; rw [if_pos e] at this; omega
      exact ⟨hd, RwR.fit.upd H.out.ar hu (fun a h0 => hz a (by omega)), ⟨GV.nil _ _, fun _ => rfl⟩, CmR.fit.upd H.out.ou hu (fun a h0 => hz a (by omega)), fun a => by have := ho a; show (if a = g then 1 else 0) + Oa a + 0 + Oo a ≤ 1; omega⟩⟩
    clear h hd0 hi hs hst hol
    go_enter Try.func32, Try.ntmps32
    go_wp2_with (go_at_call 43; have H1 := Aside0.mk (HP.out _ (by ((repeat (refine up1 ?_ _ _)); exact Upd.refl _ _)) (EZ.out.trans (by rfl))); refine (line.calls c H1.out HI.out.1 rfl h0 h1 HI.out.2 (fun _ hx => (by cases hx))).mono ?_; rintro e w5 ⟨rfl, hq⟩; have H5 := Aside0.mk (PQ.trans (w := w) (O := PO g Oa Oc Oo) H1.out (fun a _ => by unfold PO; dsimp only; omega) (Upd.mono (S := fun a => a = g) (by ((repeat (refine up1 ?_ _ _)); exact Upd.refl _ _)) (fun a ha => by subst ha; unfold PO; rw [if_pos rfl]; omega)) hq); clear hq)
    go_ret
    rw [HE.out]
    exact ⟨rfl, H5.out⟩
set_option maxHeartbeats 8000000 in
theorem new.calls (W : World) : Calls Try.prog 12 #[] W fun e w' => e = .returned (ptr W.heap.size) ∧ PM w' W.heap.size ParS.new (.slice none 0 0) (.slice none 0 0) (.slice none 0 0) (fun _ => 0) (fun _ => 0) (fun _ => 0) ∧ Below W.heap.size W w' := by
  have hmf := hmf_
  have hd0 : (W.alloc (.cells #[.nilFunc, .int .i64 0, .int .i64 0, .int .i64 0, .int .i64 0, .int .i64 0, .int .i64 0, .int .i64 0, .slice none 0 0, .slice none 0 0, .int .i64 0, .slice none 0 0] 84)).heap[W.heap.size]? = some (.cells #[.nilFunc, .int .i64 0, .int .i64 0, .int .i64 0, .int .i64 0, .int .i64 0, .int .i64 0, .int .i64 0, .slice none 0 0, .slice none 0 0, .int .i64 0, .slice none 0 0] 84 (0, 0)) := blk_new W _
  have hx0 := (blk_cell hd0 0).trans (show _ = some (Value.nilFunc) from rfl)
  have hf0 := blk_frozen hd0 0
  have H1 := Aside0.mk (blk_set hd0 0 (fnV W.heap.size .begin))
  clear hd0
  go_enter Try.func12, Try.ntmps12
  go_wp2_with fail
  go_ret
  exact ⟨rfl, ⟨blk_new W _, LAt.nil _ _ _, fun _ => rfl, LAt.nil _ _ _, fun a => by split <;> omega⟩, below_alloc (Below.refl _ _) _⟩
theorem broken.calls {w : World} {g : Nat} {p : PS} {va vc vo : Value} {Oa Oc Oo : Nat → Nat} (h : PM w g p va vc vo Oa Oc Oo) : Calls Try.prog 21 #[ptr g] w fun e w' => e = .returned (.int .i64 p.broken) ∧ w' = w := by
  have h0 := h.hd
  have ex0 := (blk_cell h0 1).trans (show _ = some (.int .i64 p.broken : Value) from rfl)
  clear h h0
  go_enter Try.func21, Try.ntmps21
  go_wp2_with fail
  go_ret
  exact ⟨rfl, rfl⟩
theorem held.calls {w : World} {g : Nat} {p : PS} {va vc vo : Value} {Oa Oc Oo : Nat → Nat} (h : PM w g p va vc vo Oa Oc Oo) : Calls Try.prog 23 #[ptr g] w fun e w' => e = .returned (.int .i64 p.held) ∧ w' = w := by
  have h0 := h.hd
  have ex0 := (blk_cell h0 2).trans (show _ = some (.int .i64 p.held : Value) from rfl)
  clear h h0
  go_enter Try.func23, Try.ntmps23
  go_wp2_with fail
  go_ret
  exact ⟨rfl, rfl⟩
end Go.Proofs.Ytfdkcnbkoagmiaa.ParD
