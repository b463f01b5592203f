/- Layer 8: the parser's methods digit, numberFeed walked. -/
import Derived.Test.YtfdkcnbkoagmiaaParB
import Derived.Laws.MakeOwn
namespace Go.Proofs.Ytfdkcnbkoagmiaa.ParC
open Go Go.RowKit Go.Proofs.YtfdkcnbkoagmiaaW.PrintWords Go.Proofs.YtfdkcnbkoagmiaaW.PrintLast Go.Proofs.YtfdkcnbkoagmiaaW.PrintMore Go.Proofs.Ytfdkcnbkoagmiaa.RowU Go.Proofs.Ytfdkcnbkoagmiaa.ArS Go.Proofs.Ytfdkcnbkoagmiaa.ArM Go.Proofs.Ytfdkcnbkoagmiaa.GenM Go.Proofs.Ytfdkcnbkoagmiaa.GenN Go.Proofs.Ytfdkcnbkoagmiaa.OwnL Go.Proofs.Ytfdkcnbkoagmiaa.ParM Go.Proofs.Ytfdkcnbkoagmiaa.ParA Go.Proofs.Ytfdkcnbkoagmiaa.ParB
open Go.Proofs.Ytfdkcnbkoagmiaa.ParS (St PS)
set_option linter.unusedVariables false
set_option maxRecDepth 100000

section
variable {w : World} {g : Nat} {p : PS} {va vc vo : Value} {Oa Oc Oo : Nat → Nat}
/-- Behind a make for cur. -/
theorem curNew (h : PM w g p va vc vo Oa Oc Oo) {w2 : World} {v2 : Value} (hu2 : Upd (fun _ => False) w w2) (hv : GV 5 w2 v2 []) (hn : ∀ k, v2.ownBlock = some k → w.heap.size ≤ k) :
    w2.heap[g]? = some (.cells (pc g p va vc vo) 84 (0, 0)) ∧ ∀ w3 p', Upd (fun a => a = g) w2 w3 → w3.heap[g]? = some (.cells (pc g p' va v2 vo) 84 (0, 0)) → p'.args = p.args → p'.out = p.out → p'.cur = [] → live p'.st = true → PQ w w3 (PO g Oa Oc Oo) g p' := by
  have h1 := h.one
  have hlt : ∀ a, PO g Oa Oc Oo a ≠ 0 → a < w.heap.size := fun a ha => h.lt ha
  refine ⟨blk_upd h.hd hu2 (fun hf => hf), fun w3 p' hu hd ha ho hc hl' => ?_⟩
  have hg : ∀ a, Oa a + Oo a ≠ 0 → ¬ a = g := fun a ha e => by have := h1 a; rw [if_pos e] at this; omega
  have hv2 : ∀ a, oc v2 a ≠ 0 → w.heap.size ≤ a := fun a ha => hn a (oc_ne ha)
  have hgl : g < w.heap.size := hlt g (by unfold PO; rw [if_pos rfl]; omega)
  have hz2 : ∀ a, a < w.heap.size → oc v2 a = 0 := fun a ha => Decidable.not_not.1 fun hne => by have := hv2 a hne; omega
  refine ⟨va, v2, vo, Oa, oc v2, Oo, ⟨hd, by rw [ha]; exact RwR.fit.upd (RwR.fit.upd h.ar hu2 (fun a _ hf => hf)) hu (fun a h0 => hg a (by omega)), ?_, by rw [ho]; exact CmR.fit.upd (CmR.fit.upd h.ou hu2 (fun a _ hf => hf)) hu (fun a h0 => hg a (by omega)), fun a => ?_⟩, fun a hlt' => ?_, (hu2.mono (fun _ hf => hf.elim)).trans2 hu (fun a e => .inl (by subst e; unfold PO; rw [if_pos rfl]; omega))⟩
  · rw [hl', hc]
    exact BtR.fit.upd (R := BtR) (O := oc v2) ⟨hv, fun _ => rfl⟩ hu (fun a ha e => by subst e; have := hv2 a ha; omega)
  · by_cases hlt' : a < w.heap.size
    · have := h1 a; have := hz2 a hlt'; omega
    · have e0 : PO g Oa Oc Oo a = 0 := Decidable.not_not.1 fun hne => hlt' (hlt a hne)
      unfold PO at e0
      have := oc_le v2 a
      omega
  · have := hz2 a hlt'
    unfold PO
    omega
/-- Behind a make for args. -/
theorem argsNew (h : PM w g p va vc vo Oa Oc Oo) {w2 : World} {v2 : Value} (hu2 : Upd (fun _ => False) w w2) (hv : GV 26 w2 v2 []) (hn : ∀ k, v2.ownBlock = some k → w.heap.size ≤ k) :
    w2.heap[g]? = some (.cells (pc g p va vc vo) 84 (0, 0)) ∧ ∀ w3 p', Upd (fun a => a = g) w2 w3 → w3.heap[g]? = some (.cells (pc g p' v2 vc vo) 84 (0, 0)) → p'.args = [] → p'.out = p.out → live p'.st = false → PQ w w3 (PO g Oa Oc Oo) g p' := by
  have h1 := h.one
  have hlt : ∀ a, PO g Oa Oc Oo a ≠ 0 → a < w.heap.size := fun a ha => h.lt ha
  refine ⟨blk_upd h.hd hu2 (fun hf => hf), fun w3 p' hu hd ha ho hl' => ?_⟩
  have hg : ∀ a, Oo a ≠ 0 → ¬ a = g := fun a ha e => by have := h1 a; rw [if_pos e] at this; omega
  have hv2 : ∀ a, oc v2 a ≠ 0 → w.heap.size ≤ a := fun a ha => hn a (oc_ne ha)
  have hgl : g < w.heap.size := hlt g (by unfold PO; rw [if_pos rfl]; omega)
  have hz2 : ∀ a, a < w.heap.size → oc v2 a = 0 := fun a ha => Decidable.not_not.1 fun hne => by have := hv2 a hne; omega
  have hA : RwR w2 v2 [] (oc v2) := ⟨[], fun _ => 0, hv, fun _ => rfl, fun a => rfl⟩
  refine ⟨v2, vc, vo, oc v2, fun _ => 0, Oo, ⟨hd, by rw [ha]; exact RwR.fit.upd hA hu (fun a ha e => by subst e; have := hv2 a ha; omega), by rw [hl']; exact fun _ => rfl, by rw [ho]; exact CmR.fit.upd (CmR.fit.upd h.ou hu2 (fun a _ hf => hf)) hu (fun a h0 => hg a (by omega)), fun a => ?_⟩, fun a hlt' => ?_, (hu2.mono (fun _ hf => hf.elim)).trans2 hu (fun a e => .inl (by subst e; unfold PO; rw [if_pos rfl]; omega))⟩
  · by_cases hlt' : a < w.heap.size
    · have := h1 a; have := hz2 a hlt'; (try dsimp only); omega
    · have e0 : PO g Oa Oc Oo a = 0 := Decidable.not_not.1 fun hne => hlt' (hlt a hne)
      unfold PO at e0
      have := oc_le v2 a
      (try dsimp only)
      omega
  · have := hz2 a hlt'
    unfold PO
    (try dsimp only)
    omega
end
set_option maxHeartbeats 8000000 in
theorem digit.calls : StepC .digit := by
  intro w g p va vc vo Oa Oc Oo c h hi hs h0 h1 hol
  have HNE := Aside0.mk (numErr.calls h)
  have H := Aside0.mk h
  have hd0 := h.hd
  have hmf := hmf_
  have hdg := hi.dg
  have hn := hi.args0
  have hm := hi.most
  have HS := Aside0.mk hs
  have hst : ParS.step p c = ParS.digitB p c := by unfold ParS.step; rw [hs]
  have HE := Aside0.mk hst
  have hd9 : 0 ≤ p.digits ∧ p.digits ≤ 4 := by omega
  clear hst hi hs
  show Calls Try.prog 52 _ _ _
  by_cases hc : 48 ≤ c ∧ c ≤ 57
  · obtain ⟨ha, hb⟩ := hc
    have w1 : wrap64 (p.num * 10) = p.num * 10 := w64s _ (by omega) (by omega)
    have w2 : IntKind.u8.wrap (c - 48) = c - 48 := by rw [IntKind.wrap_u8]; omega
    have w3 : wrap64 (p.num * 10 + (c - 48)) = p.num * 10 + (c - 48) := w64s _ (by omega) (by omega)
    have w4 : wrap64 (p.digits + 1) = p.digits + 1 := w64s _ (by omega) (by omega)
    have w5 : (c - 48) % 256 = c - 48 := by omega
    have w6 : wrap64 (c - 48) = c - 48 := w64s _ (by omega) (by omega)
    by_cases hz : 0 < p.digits ∧ p.num = 0
    · have HD : Aside0 (ParS.digitB p c = (p, ParS.numErr p)) := ⟨by unfold ParS.digitB; rw [if_pos ⟨ha, hb⟩, if_pos (.inl hz)]⟩
      have xx0 := (blk_cell hd0 4).trans (show _ = some (.int .i64 p.num : Value) from rfl)
      have xx1 := (blk_cell hd0 5).trans (show _ = some (.int .i64 p.digits : Value) from rfl)
      have xx2 := (blk_cell hd0 6).trans (show _ = some (.int .i64 p.most : Value) from rfl)
      have xx3 := (blk_cell hd0 3).trans (show _ = some (.int .i64 p.head : Value) from rfl)
      obtain ⟨hz1, hz2⟩ := hz
      clear h hd0
      go_enter Try.func52, Try.ntmps52
      go_wp2_with (go_at_call 73; refine HNE.out.mono ?_; rintro e w2 ⟨rfl, rfl⟩)
      go_ret
      rw [HE.out, HD.out]
      exact ⟨rfl, _, _, _, _, _, _, H.out, fun a _ => Nat.le_refl _, Upd.refl _ _⟩
    · have hz' : p.digits = 0 ∨ ¬ p.num = 0 := by omega
      by_cases hv : p.most < p.num * 10 + (c - 48)
      · have HD : Aside0 (ParS.digitB p c = (p, ParS.numErr p)) := ⟨by unfold ParS.digitB; rw [if_pos ⟨ha, hb⟩, if_pos (.inr hv)]⟩
        have xx0 := (blk_cell hd0 4).trans (show _ = some (.int .i64 p.num : Value) from rfl)
        have xx1 := (blk_cell hd0 5).trans (show _ = some (.int .i64 p.digits : Value) from rfl)
        have xx2 := (blk_cell hd0 6).trans (show _ = some (.int .i64 p.most : Value) from rfl)
        have xx3 := (blk_cell hd0 3).trans (show _ = some (.int .i64 p.head : Value) from rfl)
        clear h hd0 hz
        rcases hz' with hz' | hz'
        · have hz1 : ¬ 0 < p.digits := by omega
          go_enter Try.func52, Try.ntmps52
          go_wp2_with (go_at_call 73; refine HNE.out.mono ?_; rintro e w2 ⟨rfl, rfl⟩)
          go_ret
          rw [HE.out, HD.out]
          exact ⟨rfl, _, _, _, _, _, _, H.out, fun a _ => Nat.le_refl _, Upd.refl _ _⟩
        · have hz1 : 0 < p.digits := by omega
          go_enter Try.func52, Try.ntmps52
          go_wp2_with (go_at_call 73; refine HNE.out.mono ?_; rintro e w2 ⟨rfl, rfl⟩)
          go_ret
          rw [HE.out, HD.out]
          exact ⟨rfl, _, _, _, _, _, _, H.out, fun a _ => Nat.le_refl _, Upd.refl _ _⟩
      · have HD : Aside0 (ParS.digitB p c = ({ p with num := p.num * 10 + (c - 48), digits := p.digits + 1 }, 0)) := ⟨by unfold ParS.digitB; rw [if_pos ⟨ha, hb⟩, if_neg (fun hx => by rcases hx with hx | hx; exact hz hx; exact hv hx)]⟩
        have xx0 := (blk_cell hd0 4).trans (show _ = some (.int .i64 p.num : Value) from rfl)
        have xx1 := (blk_cell hd0 5).trans (show _ = some (.int .i64 p.digits : Value) from rfl)
        have xx2 := (blk_cell hd0 6).trans (show _ = some (.int .i64 p.most : Value) from rfl)
        have xx3 := (blk_cell hd0 3).trans (show _ = some (.int .i64 p.head : Value) from rfl)
        have xx4 := (blk_cell hd0 4).trans (show _ = some (.int .i64 p.num : Value) from rfl)
        have xf0 := blk_frozen hd0 4
        have xh0 := blk_set hd0 4 (.int .i64 (p.num * 10 + (c - 48)))
        have xx5 := (blk_cell xh0 5).trans (show _ = some (.int .i64 p.digits : Value) from rfl)
        have xx6 := (blk_cell xh0 5).trans (show _ = some (.int .i64 p.digits : Value) from rfl)
        have xf1 := blk_frozen xh0 5
        have xh1 := blk_set xh0 5 (.int .i64 (p.digits + 1))
        have XZ := Aside0.mk xh1
        clear xh0 xh1
        clear h hd0 hz
        have HF : Aside0 (∀ w', Upd (fun a => a = g) w w' → w'.heap[g]? = some (.cells (pc g { p with num := p.num * 10 + (c - 48), digits := p.digits + 1 } va vc vo) 84 (0, 0)) → PQ w w' (PO g Oa Oc Oo) g { p with num := p.num * 10 + (c - 48), digits := p.digits + 1 }) := ⟨fun w' hu hd => PQ.of (H.out.stored hu hd rfl rfl rfl rfl) hu (fun a => Nat.le_refl _)⟩
        rcases hz' with hz' | hz'
        · have hz1 : ¬ 0 < p.digits := by omega
          go_enter Try.func52, Try.ntmps52
          go_wp2_with fail
          go_ret
          rw [HE.out, HD.out]
          have e1 : p.digits + 1 = 1 := by omega
          have X := XZ.out
          rw [e1] at X
          exact ⟨rfl, HF.out _ (by ((repeat (refine up1 ?_ _ _)); exact Upd.refl _ _)) (X.trans (by rw [e1]; rfl))⟩
        · have hz1 : 0 < p.digits := by omega
          go_enter Try.func52, Try.ntmps52
          go_wp2_with fail
          go_ret
          rw [HE.out, HD.out]
          exact ⟨rfl, HF.out _ (by ((repeat (refine up1 ?_ _ _)); exact Upd.refl _ _)) (XZ.out.trans (by rfl))⟩
  · have HB : Aside0 (¬ (48 ≤ c ∧ c ≤ 57)) := ⟨hc⟩
    by_cases h13 : c = 13
    · subst h13
      by_cases hz : 0 < p.digits
      · have HD : Aside0 (ParS.digitB p 13 = ({ p with st := .numF }, 0)) := ⟨by unfold ParS.digitB; rw [if_neg (by decide), if_pos ⟨rfl, hz⟩]⟩
        have xx0 := (blk_cell hd0 5).trans (show _ = some (.int .i64 p.digits : Value) from rfl)
        have xx1 := (blk_cell hd0 0).trans (show _ = some (fnV g p.st : Value) from rfl)
        have xf0 := blk_frozen hd0 0
        have xh0 := blk_set hd0 0 (fnV g .numF)
        have XZ := Aside0.mk xh0
        clear xh0
        have HF : Aside0 (∀ w', Upd (fun a => a = g) w w' → w'.heap[g]? = some (.cells (pc g { p with st := .numF } va vc vo) 84 (0, 0)) → PQ w w' (PO g Oa Oc Oo) g { p with st := .numF }) := ⟨fun w' hu hd => PQ.of (H.out.stored0 hu hd rfl rfl rfl) hu (fun a => by unfold PO; dsimp only; omega)⟩
        clear h hd0 hc hdg
        go_enter Try.func52, Try.ntmps52
        go_wp2_with fail
        go_ret
        rw [HE.out, HD.out]
        exact ⟨rfl, HF.out _ (by ((repeat (refine up1 ?_ _ _)); exact Upd.refl _ _)) (XZ.out.trans (by rfl))⟩
      · have HD : Aside0 (ParS.digitB p 13 = (p, ParS.numErr p)) := ⟨by unfold ParS.digitB; rw [if_neg (by decide), if_neg (fun h => hz h.2), if_neg (fun h => absurd h.1 (by decide))]⟩
        have xx0 := (blk_cell hd0 5).trans (show _ = some (.int .i64 p.digits : Value) from rfl)
        have xx1 := (blk_cell hd0 3).trans (show _ = some (.int .i64 p.head : Value) from rfl)
        clear h hd0 hc hdg
        go_enter Try.func52, Try.ntmps52
        go_wp2_with (go_at_call 73; refine HNE.out.mono ?_; rintro e w2 ⟨rfl, rfl⟩)
        go_ret
        rw [HE.out, HD.out]
        exact ⟨rfl, _, _, _, _, _, _, H.out, fun a _ => Nat.le_refl _, Upd.refl _ _⟩
    · by_cases h45 : c = 45
      · subst h45
        by_cases hz : p.digits = 0
        · by_cases hh : p.head = 0
          · have HD : Aside0 (ParS.digitB p 45 = ({ p with st := .minus }, 0)) := ⟨by unfold ParS.digitB; rw [if_neg (by decide), if_neg (fun h => absurd h.1 (by decide)), if_pos ⟨rfl, hz, hh⟩]⟩
            have xx0 := (blk_cell hd0 5).trans (show _ = some (.int .i64 p.digits : Value) from rfl)
            have xx1 := (blk_cell hd0 3).trans (show _ = some (.int .i64 p.head : Value) from rfl)
            have xx2 := (blk_cell hd0 0).trans (show _ = some (fnV g p.st : Value) from rfl)
            have xf0 := blk_frozen hd0 0
            have xh0 := blk_set hd0 0 (fnV g .minus)
            have XZ := Aside0.mk xh0
            clear xh0
            have HF : Aside0 (∀ w', Upd (fun a => a = g) w w' → w'.heap[g]? = some (.cells (pc g { p with st := .minus } va vc vo) 84 (0, 0)) → PQ w w' (PO g Oa Oc Oo) g { p with st := .minus }) := ⟨fun w' hu hd => PQ.of (H.out.stored0 hu hd rfl rfl rfl) hu (fun a => by unfold PO; dsimp only; omega)⟩
            clear h hd0 hc hdg
            go_enter Try.func52, Try.ntmps52
            go_wp2_with fail
            go_ret
            rw [HE.out, HD.out]
            exact ⟨rfl, HF.out _ (by ((repeat (refine up1 ?_ _ _)); exact Upd.refl _ _)) (XZ.out.trans (by rfl))⟩
          · have HD : Aside0 (ParS.digitB p 45 = (p, ParS.numErr p)) := ⟨by unfold ParS.digitB; rw [if_neg (by decide), if_neg (fun h => absurd h.1 (by decide)), if_neg (fun h => hh h.2.2)]⟩
            have xx0 := (blk_cell hd0 5).trans (show _ = some (.int .i64 p.digits : Value) from rfl)
            have xx1 := (blk_cell hd0 3).trans (show _ = some (.int .i64 p.head : Value) from rfl)
            clear h hd0 hc hdg
            go_enter Try.func52, Try.ntmps52
            go_wp2_with (go_at_call 73; refine HNE.out.mono ?_; rintro e w2 ⟨rfl, rfl⟩)
            go_ret
            rw [HE.out, HD.out]
            exact ⟨rfl, _, _, _, _, _, _, H.out, fun a _ => Nat.le_refl _, Upd.refl _ _⟩
        · have HD : Aside0 (ParS.digitB p 45 = (p, ParS.numErr p)) := ⟨by unfold ParS.digitB; rw [if_neg (by decide), if_neg (fun h => absurd h.1 (by decide)), if_neg (fun h => hz h.2.1)]⟩
          have xx0 := (blk_cell hd0 5).trans (show _ = some (.int .i64 p.digits : Value) from rfl)
          have xx1 := (blk_cell hd0 3).trans (show _ = some (.int .i64 p.head : Value) from rfl)
          clear h hd0 hc hdg
          go_enter Try.func52, Try.ntmps52
          go_wp2_with (go_at_call 73; refine HNE.out.mono ?_; rintro e w2 ⟨rfl, rfl⟩)
          go_ret
          rw [HE.out, HD.out]
          exact ⟨rfl, _, _, _, _, _, _, H.out, fun a _ => Nat.le_refl _, Upd.refl _ _⟩
      · have HD : Aside0 (ParS.digitB p c = (p, ParS.numErr p)) := ⟨by unfold ParS.digitB; rw [if_neg hc, if_neg (fun h => h13 h.1), if_neg (fun h => h45 h.1)]⟩
        have xx0 := (blk_cell hd0 5).trans (show _ = some (.int .i64 p.digits : Value) from rfl)
        have xx1 := (blk_cell hd0 3).trans (show _ = some (.int .i64 p.head : Value) from rfl)
        clear h hd0 hdg
        by_cases ha : 48 ≤ c
        · have hb : ¬ c ≤ 57 := fun hb => hc ⟨ha, hb⟩
          clear hc
          go_enter Try.func52, Try.ntmps52
          go_wp2_with (go_at_call 73; refine HNE.out.mono ?_; rintro e w2 ⟨rfl, rfl⟩)
          go_ret
          rw [HE.out, HD.out]
          exact ⟨rfl, _, _, _, _, _, _, H.out, fun a _ => Nat.le_refl _, Upd.refl _ _⟩
        · clear hc
          go_enter Try.func52, Try.ntmps52
          go_wp2_with (go_at_call 73; refine HNE.out.mono ?_; rintro e w2 ⟨rfl, rfl⟩)
          go_ret
          rw [HE.out, HD.out]
          exact ⟨rfl, _, _, _, _, _, _, H.out, fun a _ => Nat.le_refl _, Upd.refl _ _⟩
set_option maxHeartbeats 8000000 in
theorem numF.calls : StepC .numF := by
  intro w g p va vc vo Oa Oc Oo c h hi hs h0 h1 hol
  have H := Aside0.mk h
  have hd0 := h.hd
  have hmf := hmf_
  have hn := hi.args0
  have HS := Aside0.mk hs
  have HOL := Aside0.mk hol
  have hst : ParS.step p c = ParS.numFB p c := by unfold ParS.step; rw [hs]
  have HE := Aside0.mk hst
  have hone := h.one
  have IE_B : Aside0 (∃ i, Try.prog.info? 5 = some i ∧ i.zero = some (.int .u8 0) ∧ i.size = 1 ∧ i.bytes = 1) := ⟨by
    have hinfo : (Try.prog.info? 5).map (fun i => (i.zero, i.size, i.bytes)) = some (some (.int .u8 0), 1, 1) := by kernel_rfl
    obtain ⟨ie, h1, h2⟩ := Option.map_eq_some_iff.1 hinfo
    simp only [Prod.mk.injEq] at h2
    exact ⟨ie, h1, h2.1, h2.2.1, h2.2.2⟩⟩
  have IE_R : Aside0 (∃ i, Try.prog.info? 26 = some i ∧ i.zero = some (.slice none 0 0) ∧ i.size = 1 ∧ i.bytes = 24) := ⟨by
    have hinfo : (Try.prog.info? 26).map (fun i => (i.zero, i.size, i.bytes)) = some (some (.slice none 0 0), 1, 24) := by kernel_rfl
    obtain ⟨ie, h1, h2⟩ := Option.map_eq_some_iff.1 hinfo
    simp only [Prod.mk.injEq] at h2
    exact ⟨ie, h1, h2.1, h2.2.1, h2.2.2⟩⟩
  clear hst hi hs hol
  show Calls Try.prog 74 _ _ _
  by_cases hc : c = 10
  · subst hc
    by_cases hh : p.head = 1
    · by_cases hz : p.num = 0
      · have HD : Aside0 (ParS.numFB p 10 = ({ p with cur := [], left := p.num, st := .contR }, 0)) := ⟨by unfold ParS.numFB; rw [if_neg (by decide), if_pos hh, if_pos hz]⟩
        have xx0 := (blk_cell hd0 3).trans (show _ = some (.int .i64 p.head : Value) from rfl)
        have xx1 := (blk_cell hd0 4).trans (show _ = some (.int .i64 p.num : Value) from rfl)
        clear h hd0
        go_enter Try.func74, Try.ntmps74
        go_upto_region 5 with (refine wpList_make_own _ rfl (.const (.int .i64 0)) (.tmp 16) 26 rfl w.heap.size 5 IE_B.out.choose _ 1 Try.underlying26 IE_B.out.choose_spec.1 IE_B.out.choose_spec.2.1 IE_B.out.choose_spec.2.2.1 .i64 .i64 _ 0 rfl rfl ?hC ?hb ?hm (Nat.le_refl _) ?_; (case hC => omega); (case hb => rw [IE_B.out.choose_spec.2.2.2]; omega); (case hm => unfold maxLen; omega); intro w2 ho2 hg2; have hu2 : Upd (fun _ => False) w w2 := Upd.of_grown hg2 (fun k hk => by cases hk); obtain ⟨r1, r2⟩ := GV.of_own ho2 rfl; have G2 := Aside0.mk (curNew H.out hu2 r1 r2); clear ho2 hg2 hu2 r1 r2 xx0 xx1; have hd2 := G2.out.1; have ex0 := (blk_cell hd2 9).trans (show _ = some (vc : Value) from rfl); have ef0 := blk_frozen hd2 9; have eh0 := blk_set hd2 9 (.slice (some ⟨w.heap.size, 0, none⟩) 0 0); have ex1 := (blk_cell eh0 4).trans (show _ = some (.int .i64 p.num : Value) from rfl); have ex2 := (blk_cell eh0 10).trans (show _ = some (.int .i64 p.left : Value) from rfl); have ef1 := blk_frozen eh0 10; have eh1 := blk_set eh0 10 (.int .i64 0); have ex3 := (blk_cell eh1 0).trans (show _ = some (fnV g p.st : Value) from rfl); have ef2 := blk_frozen eh1 0; have eh2 := blk_set eh1 0 (fnV g .content); have ex4 := (blk_cell eh2 10).trans (show _ = some (.int .i64 0 : Value) from rfl); have ex5 := (blk_cell eh2 0).trans (show _ = some (fnV g .content : Value) from rfl); have ef3 := blk_frozen eh2 0; have eh3 := blk_set eh2 0 (fnV g .contR); have EZ := Aside0.mk eh3; clear eh0 eh1 eh2 eh3; clear hd2)
        go_wp2_with fail
        go_ret
        rw [HE.out, HD.out]
        exact ⟨rfl, G2.out.2 _ _ (by ((repeat (refine up1 ?_ _ _)); exact Upd.refl _ _)) (EZ.out.trans (congrArg (fun x : Int => some (Obj.cells (pc g { p with cur := [], left := x, st := .contR } va (.slice (some ⟨w.heap.size, 0, none⟩) 0 0) vo) 84 (0, 0))) hz.symm)) rfl rfl rfl rfl⟩
      · have HD : Aside0 (ParS.numFB p 10 = ({ p with cur := [], left := p.num, st := .content }, 0)) := ⟨by unfold ParS.numFB; rw [if_neg (by decide), if_pos hh, if_neg hz]⟩
        have xx0 := (blk_cell hd0 3).trans (show _ = some (.int .i64 p.head : Value) from rfl)
        have xx1 := (blk_cell hd0 4).trans (show _ = some (.int .i64 p.num : Value) from rfl)
        have hN : ((p.num.toNat : Nat) : Int) = p.num := Int.toNat_of_nonneg hn.1
        clear h hd0
        go_enter Try.func74, Try.ntmps74
        go_upto_region 5 with (refine wpList_make_own _ rfl (.const (.int .i64 0)) (.tmp 16) 26 rfl w.heap.size 5 IE_B.out.choose _ 1 Try.underlying26 IE_B.out.choose_spec.1 IE_B.out.choose_spec.2.1 IE_B.out.choose_spec.2.2.1 .i64 .i64 _ p.num.toNat rfl rfl ?hC ?hb ?hm (Nat.le_refl _) ?_; (case hC => omega); (case hb => rw [IE_B.out.choose_spec.2.2.2]; omega); (case hm => unfold maxLen; omega); intro w2 ho2 hg2; have hu2 : Upd (fun _ => False) w w2 := Upd.of_grown hg2 (fun k hk => by cases hk); obtain ⟨r1, r2⟩ := GV.of_own ho2 rfl; have G2 := Aside0.mk (curNew H.out hu2 r1 r2); clear ho2 hg2 hu2 r1 r2 xx0 xx1; have hd2 := G2.out.1; have ex0 := (blk_cell hd2 9).trans (show _ = some (vc : Value) from rfl); have ef0 := blk_frozen hd2 9; have eh0 := blk_set hd2 9 (.slice (some ⟨w.heap.size, 0, none⟩) 0 p.num.toNat); have ex1 := (blk_cell eh0 4).trans (show _ = some (.int .i64 p.num : Value) from rfl); have ex2 := (blk_cell eh0 10).trans (show _ = some (.int .i64 p.left : Value) from rfl); have ef1 := blk_frozen eh0 10; have eh1 := blk_set eh0 10 (.int .i64 p.num); have ex3 := (blk_cell eh1 0).trans (show _ = some (fnV g p.st : Value) from rfl); have ef2 := blk_frozen eh1 0; have eh2 := blk_set eh1 0 (fnV g .content); have ex4 := (blk_cell eh2 10).trans (show _ = some (.int .i64 p.num : Value) from rfl); have EZ := Aside0.mk eh2; clear eh0 eh1 eh2; clear hd2)
        go_wp2_with fail
        go_ret
        rw [HE.out, HD.out]
        exact ⟨rfl, G2.out.2 _ _ (by ((repeat (refine up1 ?_ _ _)); exact Upd.refl _ _)) (EZ.out.trans (by rfl)) rfl rfl rfl rfl⟩
    · by_cases hz : p.num = 0
      · have HD : Aside0 (ParS.numFB p 10 = (ParS.whole p, 0)) := ⟨by unfold ParS.numFB; rw [if_neg (by decide), if_neg hh, if_pos hz]⟩
        have xx0 := (blk_cell hd0 3).trans (show _ = some (.int .i64 p.head : Value) from rfl)
        have xx1 := (blk_cell hd0 4).trans (show _ = some (.int .i64 p.num : Value) from rfl)
        have HW := Aside0.mk (whole.calls h HOL.out)
        clear h hd0
        go_enter Try.func74, Try.ntmps74
        go_wp2_with (go_at_call 54; refine HW.out.mono ?_; rintro e w4 ⟨rfl, hq⟩; have HQ := Aside0.mk hq; clear hq)
        go_ret
        rw [HE.out, HD.out]
        exact ⟨rfl, HQ.out⟩
      · have HD : Aside0 (ParS.numFB p 10 = ({ p with want := p.num, args := [], st := .dollar }, 0)) := ⟨by unfold ParS.numFB; rw [if_neg (by decide), if_neg hh, if_neg hz]⟩
        have xx0 := (blk_cell hd0 3).trans (show _ = some (.int .i64 p.head : Value) from rfl)
        have xx1 := (blk_cell hd0 4).trans (show _ = some (.int .i64 p.num : Value) from rfl)
        have xx2 := (blk_cell hd0 7).trans (show _ = some (.int .i64 p.want : Value) from rfl)
        have xf0 := blk_frozen hd0 7
        have xh0 := blk_set hd0 7 (.int .i64 p.num)
        have xx3 := (blk_cell xh0 4).trans (show _ = some (.int .i64 p.num : Value) from rfl)
        have XZ := Aside0.mk xh0
        clear xh0
        have HSZ : Aside0 ((w.setCell ⟨g, 7, none⟩ (.int .i64 p.num)).heap.size = w.heap.size) := ⟨by simp [World.setCell]⟩
        have H7 : Aside0 (PM (w.setCell ⟨g, 7, none⟩ (.int .i64 p.num)) g { p with want := p.num } va vc vo Oa Oc Oo) := ⟨H.out.stored (by ((repeat (refine up1 ?_ _ _)); exact Upd.refl _ _)) (XZ.out.trans (by rfl)) rfl rfl rfl rfl⟩
        have hN : ((p.num.toNat : Nat) : Int) = p.num := Int.toNat_of_nonneg hn.1
        clear h hd0
        go_enter Try.func74, Try.ntmps74
        go_upto_region 15 with (refine wpList_make_own _ rfl (.const (.int .i64 0)) (.tmp 60) 22 rfl w.heap.size 26 IE_R.out.choose _ 1 Try.underlying22 IE_R.out.choose_spec.1 IE_R.out.choose_spec.2.1 IE_R.out.choose_spec.2.2.1 .i64 .i64 _ p.num.toNat rfl rfl ?hC ?hb ?hm (Nat.le_of_eq HSZ.out.symm) ?_; (case hC => omega); (case hb => rw [IE_R.out.choose_spec.2.2.2]; omega); (case hm => unfold maxLen; omega); intro w2 ho2 hg2; rw [HSZ.out] at ho2 ⊢; have hu2 : Upd (fun _ => False) (w.setCell ⟨g, 7, none⟩ (.int .i64 p.num)) w2 := Upd.of_grown hg2 (fun k hk => by cases hk); obtain ⟨r1, r2⟩ := GV.of_own ho2 rfl; have G2 := Aside0.mk (argsNew H7.out hu2 r1 (fun k hk => by rw [HSZ.out]; exact r2 k hk)); clear ho2 hg2 hu2 r1 r2 xx0 xx1 xx2 xx3 xf0; have hd2 := G2.out.1; have ex0 := (blk_cell hd2 8).trans (show _ = some (va : Value) from rfl); have ef0 := blk_frozen hd2 8; have eh0 := blk_set hd2 8 (.slice (some ⟨w.heap.size, 0, none⟩) 0 p.num.toNat); have ex1 := (blk_cell eh0 0).trans (show _ = some (fnV g p.st : Value) from rfl); have ef1 := blk_frozen eh0 0; have eh1 := blk_set eh0 0 (fnV g .dollar); have EZ := Aside0.mk eh1; clear eh0 eh1; clear hd2)
        go_wp2_with fail
        go_ret
        rw [HE.out, HD.out]
        have hq := G2.out.2 _ { p with want := p.num, args := [], st := .dollar } (by ((repeat (refine up1 ?_ _ _)); exact Upd.refl _ _)) (EZ.out.trans (by rfl)) rfl rfl rfl
        exact ⟨rfl, PQ.trans H7.out (fun a _ => Nat.le_refl _) (Upd.mono (by ((repeat (refine up1 ?_ _ _)); exact Upd.refl _ _)) (fun a ha => by subst ha; unfold PO; rw [if_pos rfl]; omega)) hq⟩
  · have HD : Aside0 (ParS.numFB p c = (p, 82)) := ⟨by unfold ParS.numFB; rw [if_pos hc]⟩
    clear h hd0
    go_enter Try.func74, Try.ntmps74
    go_wp2_with fail
    go_ret
    rw [HE.out, HD.out]
    exact ⟨rfl, _, _, _, _, _, _, H.out, fun a _ => Nat.le_refl _, Upd.refl _ _⟩
end Go.Proofs.Ytfdkcnbkoagmiaa.ParC
