/- Layer 8: a parser in memory; its small methods walked. -/
import Derived.Test.YtfdkcnbkoagmiaaOwnL
import Derived.Test.YtfdkcnbkoagmiaaParS
import Derived.Laws.EntriesVeiled
namespace Go.Proofs.Ytfdkcnbkoagmiaa.ParM
open Go Go.RowKit Go.Proofs.YtfdkcnbkoagmiaaW.PrintWords Go.Proofs.YtfdkcnbkoagmiaaW.PrintLast Go.Proofs.YtfdkcnbkoagmiaaW.PrintMore Go.Proofs.Ytfdkcnbkoagmiaa.RowU Go.Proofs.Ytfdkcnbkoagmiaa.ArS Go.Proofs.Ytfdkcnbkoagmiaa.ArM Go.Proofs.Ytfdkcnbkoagmiaa.GenM Go.Proofs.Ytfdkcnbkoagmiaa.GenN Go.Proofs.Ytfdkcnbkoagmiaa.OwnL
open Go.Proofs.Ytfdkcnbkoagmiaa.ParS (St PS)
set_option linter.unusedVariables false
set_option maxRecDepth 100000

def fnN : St → Nat
  | .begin => 32
  | .digit => 52
  | .minus => 75
  | .minusR => 93
  | .numF => 74
  | .dollar => 92
  | .content => 90
  | .contR => 91
  | .contF => 97
  | .line => 43
abbrev ptr (g : Nat) : Value := .pointer (some ⟨g, 0, none⟩)
def fnV (g : Nat) (s : St) : Value := .func (.func (fnN s)) #[ptr g] #[]
def pc (g : Nat) (p : PS) (va vc vo : Value) : Array Value :=
  #[fnV g p.st, .int .i64 p.broken, .int .i64 p.held, .int .i64 p.head, .int .i64 p.num, .int .i64 p.digits, .int .i64 p.most, .int .i64 p.want, va, vc, .int .i64 p.left, vo]
/-- Is cur its own? -/
def live : St → Bool
  | .content => true
  | .contR => true
  | .contF => true
  | .line => true
  | _ => false
/-- Does the state's cur own its block? -/
def CuR (b : Bool) (w : World) (v : Value) (l : List Int) (O : Nat → Nat) : Prop := if b then BtR w v l O else ∀ a, O a = 0
structure PM (w : World) (g : Nat) (p : PS) (va vc vo : Value) (Oa Oc Oo : Nat → Nat) : Prop where
  hd : w.heap[g]? = some (.cells (pc g p va vc vo) 84 (0, 0))
  ar : RwR w va p.args Oa
  cu : CuR (live p.st) w vc p.cur Oc
  ou : CmR w vo p.out Oo
  one : ∀ a, (if a = g then 1 else 0) + Oa a + Oc a + Oo a ≤ 1
def PO (g : Nat) (Oa Oc Oo : Nat → Nat) (a : Nat) : Nat := (if a = g then 1 else 0) + Oa a + Oc a + Oo a
theorem CuR.upd {b : Bool} {w w' : World} {v : Value} {l : List Int} {O : Nat → Nat} {S : Nat → Prop} (h : CuR b w v l O) (hu : Upd S w w') (hS : ∀ a, O a ≠ 0 → ¬ S a) : CuR b w' v l O := by
  cases b with
  | true => exact BtR.fit.upd (R := BtR) h hu hS
  | false => exact h
theorem CuR.lt {b : Bool} {w : World} {v : Value} {l : List Int} {O : Nat → Nat} {a : Nat} (h : CuR b w v l O) (ha : O a ≠ 0) : a < w.heap.size := by
  unfold CuR at h
  split at h
  · exact BtR.fit.lt h ha
  · exact absurd (h a) ha
theorem PM.lt {w : World} {g : Nat} {p : PS} {va vc vo : Value} {Oa Oc Oo : Nat → Nat} (h : PM w g p va vc vo Oa Oc Oo) {a : Nat} (ha : PO g Oa Oc Oo a ≠ 0) : a < w.heap.size := by
  unfold PO at ha
  by_cases h1 : a = g
  · subst h1; exact cell_lt h.hd
  · rw [if_neg h1] at ha
    by_cases h2 : Oa a = 0
    · by_cases h3 : Oc a = 0
      · exact CmR.fit.lt h.ou (by omega)
      · exact h.cu.lt h3
    · exact RwR.fit.lt h.ar h2
theorem PM.upd {w w' : World} {g : Nat} {p : PS} {va vc vo : Value} {Oa Oc Oo : Nat → Nat} {S : Nat → Prop} (h : PM w g p va vc vo Oa Oc Oo) (hu : Upd S w w') (hS : ∀ a, PO g Oa Oc Oo a ≠ 0 → ¬ S a) : PM w' g p va vc vo Oa Oc Oo :=
  ⟨blk_upd h.hd hu (hS g (by unfold PO; rw [if_pos rfl]; omega)), RwR.fit.upd h.ar hu (fun a ha => hS a (by unfold PO; omega)), h.cu.upd hu (fun a ha => hS a (by unfold PO; omega)), CmR.fit.upd h.ou hu (fun a ha => hS a (by unfold PO; omega)), h.one⟩
/-- Behind stores into the parser's own cells. -/
theorem PM.stored {w w' : World} {g : Nat} {p p' : PS} {va vc vo : Value} {Oa Oc Oo : Nat → Nat} (h : PM w g p va vc vo Oa Oc Oo) (hu : Upd (fun a => a = g) w w') (hd : w'.heap[g]? = some (.cells (pc g p' va vc vo) 84 (0, 0))) (ha : p'.args = p.args) (hc : p'.cur = p.cur) (ho : p'.out = p.out) (hl : live p'.st = live p.st) : PM w' g p' va vc vo Oa Oc Oo := by
  have hg := h.one
  have hz : ∀ a, Oa a + Oc a + Oo a ≠ 0 → ¬ a = g := fun a ha e => by have := hg a; rw [if_pos e] at this; omega
  exact ⟨hd, by rw [ha]; exact RwR.fit.upd h.ar hu (fun a h0 => hz a (by omega)), by rw [hc, hl]; exact h.cu.upd hu (fun a h0 => hz a (by omega)), by rw [ho]; exact CmR.fit.upd h.ou hu (fun a h0 => hz a (by omega)), h.one⟩
/-- .. where cur is no more its own. -/
theorem PM.stored0 {w w' : World} {g : Nat} {p p' : PS} {va vc vc' vo : Value} {Oa Oc Oo : Nat → Nat} (h : PM w g p va vc vo Oa Oc Oo) (hu : Upd (fun a => a = g) w w') (hd : w'.heap[g]? = some (.cells (pc g p' va vc' vo) 84 (0, 0))) (ha : p'.args = p.args) (ho : p'.out = p.out) (hl : live p'.st = false) : PM w' g p' va vc' vo Oa (fun _ => 0) Oo := by
  have hg := h.one
  have hz : ∀ a, Oa a + Oo a ≠ 0 → ¬ a = g := fun a ha e => by have := hg a; rw [if_pos e] at this; omega
  exact ⟨hd, by rw [ha]; exact RwR.fit.upd h.ar hu (fun a h0 => hz a (by omega)), by rw [hl]; exact fun _ => rfl, by rw [ho]; exact CmR.fit.upd h.ou hu (fun a h0 => hz a (by omega)), fun a => by have := hg a; show (if a = g then 1 else 0) + Oa a + 0 + Oo a ≤ 1; omega⟩
theorem up1 {g : Nat} {w w' : World} (h : Upd (fun a => a = g) w w') (j : Nat) (v : Value) : Upd (fun a => a = g) w (w'.setCell ⟨g, j, none⟩ v) := h.put (.inl rfl) j v
/-- What a method leaves: the parser as it says; what it owned is what it owns, or new. -/
def PQ (w w' : World) (O : Nat → Nat) (g : Nat) (p' : PS) : Prop := ∃ va vc vo Oa Oc Oo, PM w' g p' va vc vo Oa Oc Oo ∧ (∀ a, a < w.heap.size → PO g Oa Oc Oo a ≤ O a) ∧ Upd (fun a => O a ≠ 0) w w'
theorem PQ.of {w w' : World} {g : Nat} {p' : PS} {va' vc' vo' : Value} {Oa Oc Oo Oa' Oc' Oo' : Nat → Nat} (h : PM w' g p' va' vc' vo' Oa' Oc' Oo') (hu : Upd (fun a => a = g) w w') (hO : ∀ a, PO g Oa' Oc' Oo' a ≤ PO g Oa Oc Oo a) : PQ w w' (PO g Oa Oc Oo) g p' :=
  ⟨_, _, _, _, _, _, h, fun a _ => hO a, hu.mono (fun a ha => by subst ha; unfold PO; rw [if_pos rfl]; omega)⟩
theorem PQ.trans {w w1 w2 : World} {O : Nat → Nat} {g : Nat} {p2 : PS} {va vc vo : Value} {Oa Oc Oo : Nat → Nat} {p1 : PS} (h1 : PM w1 g p1 va vc vo Oa Oc Oo) (hO : ∀ a, a < w.heap.size → PO g Oa Oc Oo a ≤ O a) (hu : Upd (fun a => O a ≠ 0) w w1) (h2 : PQ w1 w2 (PO g Oa Oc Oo) g p2) : PQ w w2 O g p2 := by
  obtain ⟨a1, a2, a3, a4, a5, a6, b1, b2, b3⟩ := h2
  have hs := hu.size
  refine ⟨a1, a2, a3, a4, a5, a6, b1, fun a ha => Nat.le_trans (b2 a (by omega)) (hO a ha), hu.trans2 b3 (fun a ha => ?_)⟩
  by_cases hl : a < w.heap.size
  · have := hO a hl
    exact .inl (by omega)
  · exact .inr (by omega)
section
variable {w : World} {g : Nat} {p : PS} {va vc vo : Value} {Oa Oc Oo : Nat → Nat}
theorem hmf_ : ∀ (fn : Fn) (first cap : Array Value) (w : World), (Instr.makeFunc fn first cap).run Try.prog w = .ok (.func fn first cap) w := fun _ _ _ _ => rfl
set_option maxHeartbeats 8000000 in
theorem number.calls (h : PM w g p va vc vo Oa Oc Oo) (hd m : Int) :
    Calls Try.prog 42 #[ptr g, .int .i64 hd, .int .i64 m] w fun e w' => e = .returned (.tuple #[]) ∧ PM w' g (ParS.number p hd m) va vc vo Oa (fun _ => 0) Oo ∧ Upd (fun a => a = g) w w' := by
  have H := Aside0.mk h
  have h0 := h.hd
  have ex0 := (blk_cell h0 3).trans (show _ = some (.int .i64 p.head : Value) from rfl)
  have ef0 := blk_frozen h0 3
  have eh0 := blk_set h0 3 (.int .i64 hd)
  have ex1 := (blk_cell eh0 4).trans (show _ = some (.int .i64 p.num : Value) from rfl)
  have ef1 := blk_frozen eh0 4
  have eh1 := blk_set eh0 4 (.int .i64 0)
  have ex2 := (blk_cell eh1 5).trans (show _ = some (.int .i64 p.digits : Value) from rfl)
  have ef2 := blk_frozen eh1 5
  have eh2 := blk_set eh1 5 (.int .i64 0)
  have ex3 := (blk_cell eh2 6).trans (show _ = some (.int .i64 p.most : Value) from rfl)
  have ef3 := blk_frozen eh2 6
  have eh3 := blk_set eh2 6 (.int .i64 m)
  have ex4 := (blk_cell eh3 0).trans (show _ = some (fnV g p.st : Value) from rfl)
  have ef4 := blk_frozen eh3 0
  have eh4 := blk_set eh3 0 (fnV g .digit)
  have EZ := Aside0.mk eh4
  clear eh0 eh1 eh2 eh3 eh4
  have hmf := hmf_
  clear h h0
  go_enter Try.func42, Try.ntmps42
  go_wp2_with fail
  go_end0
  refine ⟨rfl, H.out.stored0 ?_ EZ.out rfl rfl rfl, ?_⟩ <;> ((repeat (refine up1 ?_ _ _)); exact Upd.refl _ _)
theorem unless.calls (b : Bool) (e0 : Int) (w : World) : Calls Try.prog 53 #[.bool b, .int .i64 e0] w fun e w' => e = .returned (.int .i64 (if b then 0 else e0)) ∧ w' = w := by
  cases b <;> (go_enter Try.func53, Try.ntmps53; go_wp2_with fail; go_ret; exact ⟨rfl, rfl⟩)
theorem numErr.calls (h : PM w g p va vc vo Oa Oc Oo) : Calls Try.prog 73 #[ptr g] w fun e w' => e = .returned (.int .i64 (ParS.numErr p)) ∧ w' = w := by
  have h0 := h.hd
  have ex0 := (blk_cell h0 3).trans (show _ = some (.int .i64 p.head : Value) from rfl)
  clear h h0
  unfold ParS.numErr
  by_cases hz : p.head = 0
  · rw [if_pos hz]
    go_enter Try.func73, Try.ntmps73
    go_wp2_with fail
    go_ret
    exact ⟨rfl, rfl⟩
  · rw [if_neg hz]
    go_enter Try.func73, Try.ntmps73
    go_wp2_with fail
    go_ret
    exact ⟨rfl, rfl⟩
/-- The contract of the method that a state's byte goes to. -/
def StepC (s : St) : Prop := ∀ {w : World} {g : Nat} {p : PS} {va vc vo : Value} {Oa Oc Oo : Nat → Nat} (c : Int), PM w g p va vc vo Oa Oc Oo → ParS.Inv p → p.st = s → 0 ≤ c → c < 256 → p.out.length ≤ 90000000 →
  Calls Try.prog (fnN s) #[ptr g, .int .u8 c] w fun e w' => e = .returned (.int .i64 (ParS.step p c).2) ∧ PQ w w' (PO g Oa Oc Oo) g (ParS.step p c).1
set_option maxHeartbeats 8000000 in
theorem minus.calls : StepC .minus := by
  intro w g p va vc vo Oa Oc Oo c h hi hs h0 h1 hol
  have H := Aside0.mk h
  have hd0 := h.hd
  have HS := Aside0.mk hs
  rw [show pc g p va vc vo = (pc g p va vc vo) from rfl] at hd0
  have ex0 := (blk_cell hd0 0).trans (show _ = some (fnV g p.st : Value) from rfl)
  have ef0 := blk_frozen hd0 0
  have eh0 := blk_set hd0 0 (fnV g .minusR)
  have EZ := Aside0.mk eh0
  clear eh0
  have hmf := hmf_
  have HU := Aside0.mk unless.calls
  have HE : Aside0 ((ParS.step p c) = ({ p with st := .minusR }, if c = 49 then 0 else 80)) := ⟨by unfold ParS.step; rw [hs]⟩
  clear h hd0 hi hs
  show Calls Try.prog 75 _ _ _
  by_cases hc : c = 49
  · subst hc
    go_enter Try.func75, Try.ntmps75
    go_wp2_with (go_at_call 53; refine (HU.out _ _ _).mono ?_; rintro e w2 ⟨rfl, rfl⟩)
    go_ret
    rw [HE.out]
    exact ⟨rfl, PQ.of (H.out.stored0 (p' := { p with st := .minusR }) (by ((repeat (refine up1 ?_ _ _)); exact Upd.refl _ _)) EZ.out rfl rfl rfl) (by ((repeat (refine up1 ?_ _ _)); exact Upd.refl _ _)) (fun a => by unfold PO; dsimp only; omega)⟩
  · go_enter Try.func75, Try.ntmps75
    go_wp2_with (go_at_call 53; refine (HU.out _ _ _).mono ?_; rintro e w2 ⟨rfl, rfl⟩)
    go_ret
    rw [HE.out, if_neg hc]
    exact ⟨rfl, PQ.of (H.out.stored0 (p' := { p with st := .minusR }) (by ((repeat (refine up1 ?_ _ _)); exact Upd.refl _ _)) EZ.out rfl rfl rfl) (by ((repeat (refine up1 ?_ _ _)); exact Upd.refl _ _)) (fun a => by unfold PO; dsimp only; omega)⟩
set_option maxHeartbeats 8000000 in
theorem minusR.calls : StepC .minusR := by
  intro w g p va vc vo Oa Oc Oo c h hi hs h0 h1 hol
  have H := Aside0.mk h
  have hd0 := h.hd
  have HS := Aside0.mk hs
  rw [show pc g p va vc vo = (pc g p va vc vo) from rfl] at hd0
  have ex0 := (blk_cell hd0 0).trans (show _ = some (fnV g p.st : Value) from rfl)
  have ef0 := blk_frozen hd0 0
  have eh0 := blk_set hd0 0 (fnV g .numF)
  have EZ := Aside0.mk eh0
  clear eh0
  have hmf := hmf_
  have HU := Aside0.mk unless.calls
  have HE : Aside0 ((ParS.step p c) = ({ p with st := .numF }, if c = 13 then 0 else 80)) := ⟨by unfold ParS.step; rw [hs]⟩
  clear h hd0 hi hs
  show Calls Try.prog 93 _ _ _
  by_cases hc : c = 13
  · subst hc
    go_enter Try.func93, Try.ntmps93
    go_wp2_with (go_at_call 53; refine (HU.out _ _ _).mono ?_; rintro e w2 ⟨rfl, rfl⟩)
    go_ret
    rw [HE.out]
    exact ⟨rfl, PQ.of (H.out.stored0 (p' := { p with st := .numF }) (by ((repeat (refine up1 ?_ _ _)); exact Upd.refl _ _)) EZ.out rfl rfl rfl) (by ((repeat (refine up1 ?_ _ _)); exact Upd.refl _ _)) (fun a => by unfold PO; dsimp only; omega)⟩
  · go_enter Try.func93, Try.ntmps93
    go_wp2_with (go_at_call 53; refine (HU.out _ _ _).mono ?_; rintro e w2 ⟨rfl, rfl⟩)
    go_ret
    rw [HE.out, if_neg hc]
    exact ⟨rfl, PQ.of (H.out.stored0 (p' := { p with st := .numF }) (by ((repeat (refine up1 ?_ _ _)); exact Upd.refl _ _)) EZ.out rfl rfl rfl) (by ((repeat (refine up1 ?_ _ _)); exact Upd.refl _ _)) (fun a => by unfold PO; dsimp only; omega)⟩
set_option maxHeartbeats 8000000 in
theorem contR.calls : StepC .contR := by
  intro w g p va vc vo Oa Oc Oo c h hi hs h0 h1 hol
  have H := Aside0.mk h
  have hd0 := h.hd
  have HS := Aside0.mk hs
  rw [show pc g p va vc vo = (pc g p va vc vo) from rfl] at hd0
  have ex0 := (blk_cell hd0 0).trans (show _ = some (fnV g p.st : Value) from rfl)
  have ef0 := blk_frozen hd0 0
  have eh0 := blk_set hd0 0 (fnV g .contF)
  have EZ := Aside0.mk eh0
  clear eh0
  have hmf := hmf_
  have HU := Aside0.mk unless.calls
  have HE : Aside0 ((ParS.step p c) = ({ p with st := .contF }, if c = 13 then 0 else 82)) := ⟨by unfold ParS.step; rw [hs]⟩
  clear h hd0 hi hs
  show Calls Try.prog 91 _ _ _
  by_cases hc : c = 13
  · subst hc
    go_enter Try.func91, Try.ntmps91
    go_wp2_with (go_at_call 53; refine (HU.out _ _ _).mono ?_; rintro e w2 ⟨rfl, rfl⟩)
    go_ret
    rw [HE.out]
    exact ⟨rfl, PQ.of (H.out.stored (p' := { p with st := .contF }) (by ((repeat (refine up1 ?_ _ _)); exact Upd.refl _ _)) EZ.out rfl rfl rfl (by rw [HS.out]; rfl)) (by ((repeat (refine up1 ?_ _ _)); exact Upd.refl _ _)) (fun a => Nat.le_refl _)⟩
  · go_enter Try.func91, Try.ntmps91
    go_wp2_with (go_at_call 53; refine (HU.out _ _ _).mono ?_; rintro e w2 ⟨rfl, rfl⟩)
    go_ret
    rw [HE.out, if_neg hc]
    exact ⟨rfl, PQ.of (H.out.stored (p' := { p with st := .contF }) (by ((repeat (refine up1 ?_ _ _)); exact Upd.refl _ _)) EZ.out rfl rfl rfl (by rw [HS.out]; rfl)) (by ((repeat (refine up1 ?_ _ _)); exact Upd.refl _ _)) (fun a => Nat.le_refl _)⟩
end
end Go.Proofs.Ytfdkcnbkoagmiaa.ParM
