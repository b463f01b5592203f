/- Layer 8: Feed walked. -/
import Derived.Test.YtfdkcnbkoagmiaaParD
import Derived.StillTailTactics
namespace Go.Proofs.Ytfdkcnbkoagmiaa.ParF
open Go Go.RowKit Go.Proofs.YtfdkcnbkoagmiaaW.PrintWords Go.Proofs.YtfdkcnbkoagmiaaW.PrintLast Go.Proofs.YtfdkcnbkoagmiaaW.PrintMore Go.Proofs.Ytfdkcnbkoagmiaa.RowU Go.Proofs.Ytfdkcnbkoagmiaa.ArS Go.Proofs.Ytfdkcnbkoagmiaa.ArM Go.Proofs.Ytfdkcnbkoagmiaa.GenM Go.Proofs.Ytfdkcnbkoagmiaa.GenN Go.Proofs.Ytfdkcnbkoagmiaa.OwnL Go.Proofs.Ytfdkcnbkoagmiaa.ParM Go.Proofs.Ytfdkcnbkoagmiaa.ParA Go.Proofs.Ytfdkcnbkoagmiaa.ParB Go.Proofs.Ytfdkcnbkoagmiaa.ParC Go.Proofs.Ytfdkcnbkoagmiaa.ParD
open Go.Proofs.Ytfdkcnbkoagmiaa.ParS (St PS)
open Go.Proofs.Ytfdkcnbkoagmiaa.LinS (inB)
set_option linter.unusedVariables false
set_option maxRecDepth 100000

abbrev nl : Value := .slice none 0 0
theorem lineB_in {p : PS} {c : Int} (h : inB p.cur) (hc : 0 ≤ c ∧ c < 256) : inB (ParS.lineB p c).1.cur := by
  unfold ParS.lineB
  split
  · intro x hx
    rcases List.mem_append.1 hx with hx | hx
    · exact h x hx
    · rw [List.mem_singleton.1 hx]; exact hc
  · split
    · exact h
    · intro x hx; cases hx
theorem nil_in : inB [] := fun _ hx => by cases hx
theorem step_in {p : PS} {c : Int} (h : inB p.cur) (hc : 0 ≤ c ∧ c < 256) : inB (ParS.step p c).1.cur := by
  unfold ParS.step
  cases p.st <;> dsimp only
  · split
    · exact h
    · exact lineB_in (p := { p with cur := [], st := .line }) nil_in hc
  · unfold ParS.digitB; repeat' split
    all_goals exact h
  · exact h
  · exact h
  · unfold ParS.numFB; repeat' split
    all_goals first | exact h | exact nil_in
  · exact h
  · intro x hx
    rcases List.mem_append.1 hx with hx | hx
    · exact h x hx
    · rw [List.mem_singleton.1 hx]; exact hc
  · exact h
  · unfold ParS.contFB; repeat' split
    all_goals first | exact h | exact nil_in
  · exact lineB_in h hc
theorem runB_in {p : PS} {c : Int} (h : inB p.cur) (hc : 0 ≤ c ∧ c < 256) : inB (ParS.runB p c).cur := by
  unfold ParS.runB
  split
  · exact h
  · unfold ParS.step1
    split
    · exact nil_in
    · exact step_in (p := { p with held := p.held + 1 }) h hc
theorem run_in : ∀ (b : List Int) {p : PS}, inB p.cur → inB b → inB (ParS.run p b).cur := by
  intro b
  induction b with
  | nil => intro p h _; exact h
  | cons c b ih => intro p h hb; rw [ParS.run_cons]; exact ih (runB_in h (hb c (by simp))) (fun x hx => hb x (by simp [hx]))
theorem outLe {p : PS} {c : Int} : (ParS.step p c).1.out.length ≤ p.out.length + 1 := by
  have hw : ∀ q : PS, (ParS.whole q).out.length ≤ q.out.length + 1 := fun q => by unfold ParS.whole; dsimp only; split <;> simp
  have hL : ∀ q : PS, (ParS.lineB q c).1.out.length ≤ q.out.length + 1 := fun q => by
    unfold ParS.lineB
    split
    · simp
    · split
      · simp
      · exact hw _
  unfold ParS.step
  cases p.st <;> dsimp only
  · split
    · simp [ParS.number]
    · exact hL _
  · unfold ParS.digitB; repeat' split
    all_goals simp
  · simp
  · simp
  · unfold ParS.numFB; repeat' split
    all_goals first | (simp; done) | exact hw _
  · simp [ParS.number]
  · simp
  · simp
  · unfold ParS.contFB; repeat' split
    all_goals first | (simp; done) | exact hw _
  · exact hL _
theorem heldLe {p : PS} {c : Int} (h : 0 ≤ p.held) : 0 ≤ (ParS.step p c).1.held ∧ (ParS.step p c).1.held ≤ p.held := by
  have hw : ∀ q : PS, (ParS.whole q).held = 0 := fun q => rfl
  have hL : ∀ q : PS, q.held = p.held → 0 ≤ (ParS.lineB q c).1.held ∧ (ParS.lineB q c).1.held ≤ p.held := fun q hq => by
    unfold ParS.lineB
    split
    · show 0 ≤ q.held ∧ q.held ≤ p.held
      omega
    · split
      · show 0 ≤ q.held ∧ q.held ≤ p.held
        omega
      · show (0 : Int) ≤ 0 ∧ (0 : Int) ≤ p.held
        omega
  unfold ParS.step
  cases p.st <;> dsimp only
  · split
    · exact ⟨h, by show p.held ≤ p.held; omega⟩
    · exact hL _ rfl
  · unfold ParS.digitB; repeat' split
    all_goals exact ⟨h, by show p.held ≤ p.held; omega⟩
  · exact ⟨h, by omega⟩
  · exact ⟨h, by omega⟩
  · unfold ParS.numFB; repeat' split
    all_goals first | exact ⟨h, by show p.held ≤ p.held; omega⟩ | (show (0 : Int) ≤ 0 ∧ (0 : Int) ≤ p.held; omega)
  · exact ⟨h, by show p.held ≤ p.held; omega⟩
  · exact ⟨h, by omega⟩
  · exact ⟨h, by omega⟩
  · unfold ParS.contFB; repeat' split
    all_goals first | exact ⟨h, by show p.held ≤ p.held; omega⟩ | (show (0 : Int) ≤ 0 ∧ (0 : Int) ≤ p.held; omega)
  · exact hL _ rfl
theorem runB_le {p : PS} {c : Int} (h : 0 ≤ p.held) : (ParS.runB p c).out.length ≤ p.out.length + 1 ∧ 0 ≤ (ParS.runB p c).held ∧ (ParS.runB p c).held ≤ p.held + 1 := by
  unfold ParS.runB
  split
  · exact ⟨by omega, h, by omega⟩
  · have h1 := outLe (p := { p with held := p.held + 1 }) (c := c)
    have h2 := heldLe (p := { p with held := p.held + 1 }) (c := c) (by show 0 ≤ p.held + 1; omega)
    unfold ParS.step1
    split
    · exact ⟨h1, by show (0 : Int) ≤ 0; omega, by show (0 : Int) ≤ p.held + 1; omega⟩
    · exact ⟨h1, h2⟩
theorem run_le : ∀ (b : List Int) {p : PS}, 0 ≤ p.held → (ParS.run p b).out.length ≤ p.out.length + b.length ∧ 0 ≤ (ParS.run p b).held ∧ (ParS.run p b).held ≤ p.held + b.length := by
  intro b
  induction b with
  | nil => intro p h; exact ⟨by simp [ParS.run_nil], h, by simp [ParS.run_nil]⟩
  | cons c b ih =>
    intro p h
    obtain ⟨h1, h2, h3⟩ := runB_le (c := c) h
    obtain ⟨h4, h5, h6⟩ := ih (p := ParS.runB p c) h2
    rw [ParS.run_cons, List.length_cons]
    exact ⟨by omega, h5, by omega⟩
/-- Any state's byte. -/
theorem step.calls {w : World} {g : Nat} {p : PS} {va vc vo : Value} {Oa Oc Oo : Nat → Nat} (c : Int) (h : PM w g p va vc vo Oa Oc Oo) (hi : ParS.Inv p) (h0 : 0 ≤ c) (h1 : c < 256) (hol : p.out.length ≤ 90000000) (hcb : inB p.cur) :
    Calls Try.prog (fnN p.st) #[ptr g, .int .u8 c] w fun e w' => e = .returned (.int .i64 (ParS.step p c).2) ∧ PQ w w' (PO g Oa Oc Oo) g (ParS.step p c).1 := by
  cases hs : p.st with
  | begin => exact begin.calls c h hi hs h0 h1 hol
  | digit => exact digit.calls c h hi hs h0 h1 hol
  | minus => exact minus.calls c h hi hs h0 h1 hol
  | minusR => exact minusR.calls c h hi hs h0 h1 hol
  | numF => exact numF.calls c h hi hs h0 h1 hol
  | dollar => exact dollar.calls c h hi hs h0 h1 hol
  | content => exact content.calls c h hi hs h0 h1 hol
  | contR => exact contR.calls c h hi hs h0 h1 hol
  | contF => exact contF.calls c h hi hs h0 h1 hol
  | line =>
    have e : ParS.step p c = ParS.lineB p c := by unfold ParS.step; rw [hs]
    rw [e]
    exact line.calls c h hi hs h0 h1 hol hcb
theorem Upd.cell {S : Nat → Prop} {w w' : World} {a : Addr} (h : Upd S w w') (hl : a.block < w.heap.size) (hn : ¬ S a.block) : w'.cell? a = w.cell? a := by
  unfold World.cell?
  rw [h.block _ hl hn]
/-- What Feed's loop keeps. -/
structure FR (W w : World) (O : Nat → Nat) (g : Nat) (p : PS) (b : List Int) (k : Nat) : Prop where
  le : k ≤ b.length
  ok : (ParS.run p (b.take k)).broken = 0
  pq : PQ W w O g (ParS.run p (b.take k))
/-- What Feed leaves: the parser and what is told, apart. -/
def FQ (w w' : World) (O : Nat → Nat) (g : Nat) (p' : PS) (vt : Value) (ot : List (List (List Int))) : Prop := ∃ va vc vo Oa Oc Oo Ot, PM w' g p' va vc vo Oa Oc Oo ∧ CmR w' vt ot Ot ∧ (∀ a, PO g Oa Oc Oo a + Ot a ≤ 1) ∧ (∀ a, a < w.heap.size → PO g Oa Oc Oo a + Ot a ≤ O a) ∧ Upd (fun a => O a ≠ 0) w w'
theorem run_take {p : PS} {b : List Int} {k : Nat} {x : Int} (hx : b[k]? = some x) : ParS.run p (b.take (k + 1)) = ParS.runB (ParS.run p (b.take k)) x := by
  obtain ⟨hk, rfl⟩ := List.getElem?_eq_some_iff.1 hx
  rw [List.take_add_one, List.getElem?_eq_getElem hk, Option.toList_some, ParS.run_append, ParS.run_cons, ParS.run_nil]
theorem enter_of {f : FuncId} {fn : Func} {c : Code} (hf : Try.prog.funcs[f]? = some fn) (hname : (fn.name == "runtime.NumGoroutine") = false) (hb : fn.body = some c) (args : Array Value) (w : World) : (callFunc f args).run Try.prog w = .ok (.enter f args) w := by
  have h1 : fn.name ≠ "runtime.NumGoroutine" := by simpa using hname
  simp [callFunc, hf, h1, hb]
theorem enters (s : St) (args : Array Value) (w : World) : (callFunc (fnN s) args).run Try.prog w = .ok (.enter (fnN s) args) w := by
  cases s with
  | begin => exact enter_of Try.func32 (by kernel_rfl) rfl args w
  | digit => exact enter_of Try.func52 (by kernel_rfl) rfl args w
  | minus => exact enter_of Try.func75 (by kernel_rfl) rfl args w
  | minusR => exact enter_of Try.func93 (by kernel_rfl) rfl args w
  | numF => exact enter_of Try.func74 (by kernel_rfl) rfl args w
  | dollar => exact enter_of Try.func92 (by kernel_rfl) rfl args w
  | content => exact enter_of Try.func90 (by kernel_rfl) rfl args w
  | contR => exact enter_of Try.func91 (by kernel_rfl) rfl args w
  | contF => exact enter_of Try.func97 (by kernel_rfl) rfl args w
  | line => exact enter_of Try.func43 (by kernel_rfl) rfl args w
theorem step_broken (p : PS) (c : Int) : (ParS.step p c).1.broken = p.broken := by
  have hL : ∀ q : PS, (ParS.lineB q c).1.broken = q.broken := fun q => by
    unfold ParS.lineB
    split
    · rfl
    · split <;> rfl
  unfold ParS.step
  cases p.st <;> dsimp only
  · split
    · rfl
    · exact hL _
  · unfold ParS.digitB; repeat' split
    all_goals rfl
  · unfold ParS.numFB; repeat' split
    all_goals rfl
  · rfl
  · unfold ParS.contFB; repeat' split
    all_goals rfl
  · exact hL _
theorem _root_.Go.Proofs.Ytfdkcnbkoagmiaa.ParM.PM.own {w : World} {g : Nat} {p : PS} {va vc vo : Value} {Oa Oc Oo : Nat → Nat} (h : PM w g p va vc vo Oa Oc Oo) : PO g Oa Oc Oo g ≠ 0 := by
  unfold PO
  rw [if_pos rfl]
  omega
theorem tell {w w1 w3 : World} {g : Nat} {q : PS} {va vc vo : Value} {O Oa Oc Oo : Nat → Nat} (h1 : PM w1 g q va vc vo Oa Oc Oo) (hO : ∀ a, a < w.heap.size → PO g Oa Oc Oo a ≤ O a) (hu : Upd (fun a => O a ≠ 0) w w1) (hu3 : Upd (fun a => a = g) w1 w3) (hd : w3.heap[g]? = some (.cells (pc g (ParS.told q) va vc (.slice none 0 0)) 84 (0, 0))) : FQ w w3 O g (ParS.told q) vo q.out := by
  have ho := h1.one
  have hs := hu.size
  have hz : ∀ a, Oa a + Oc a + Oo a ≠ 0 → ¬ a = g := fun a ha e => by have := ho a; rw [if_pos e] at this; omega
  refine ⟨va, vc, .slice none 0 0, Oa, Oc, fun _ => 0, Oo, ⟨hd, RwR.fit.upd h1.ar hu3 (fun a h0 => hz a (by omega)), h1.cu.upd hu3 (fun a h0 => hz a (by omega)), LAt.nil _ _ _, fun a => by have := ho a; (try dsimp only); omega⟩, CmR.fit.upd h1.ou hu3 (fun a h0 => hz a (by omega)), fun a => by have := ho a; unfold PO; (try dsimp only); omega, fun a ha => by have := hO a ha; unfold PO at this ⊢; (try dsimp only); omega, hu.trans2 hu3 (fun a e => ?_)⟩
  subst e
  by_cases hl : a < w.heap.size
  · have := hO a hl
    unfold PO at this
    rw [if_pos rfl] at this
    exact .inl (by omega)
  · exact .inr (by omega)
theorem goneM {w1 w3 : World} {g : Nat} {r : PS} {E : Int} {va vc vo : Value} {Oa Oc Oo : Nat → Nat} (h1 : PM w1 g r va vc vo Oa Oc Oo) (hu3 : Upd (fun a => a = g) w1 w3) (hd : w3.heap[g]? = some (.cells (pc g (ParS.gone r E) (.slice none 0 0) (.slice none 0 0) vo) 84 (0, 0))) : PM w3 g (ParS.gone r E) (.slice none 0 0) (.slice none 0 0) vo (fun _ => 0) (fun _ => 0) Oo := by
  have ho := h1.one
  have hz : ∀ a, Oo a ≠ 0 → ¬ a = g := fun a ha e => by have := ho a; rw [if_pos e] at this; omega
  refine ⟨hd, LAt.nil _ _ _, ?_, CmR.fit.upd h1.ou hu3 (fun a h0 => hz a (by omega)), fun a => by have := ho a; (try dsimp only); omega⟩
  unfold CuR
  split
  · exact ⟨GV.nil _ _, fun _ => rfl⟩
  · exact fun _ => rfl
set_option maxHeartbeats 8000000 in
theorem feed.calls {w : World} {g : Nat} {p : PS} {va vc vo : Value} {Oa Oc Oo : Nat → Nat} (h : PM w g p va vc vo Oa Oc Oo) (hi : ParS.Inv p) (hcb : inB p.cur) (hop : p.out = []) (hh : 0 ≤ p.held) (A : Option Addr) (cc : Nat) (b : List Int) (hC : (Kd.int .u8).C w A b.length b) (hb : inB b) (hA : ∀ ad, A = some ad → PO g Oa Oc Oo ad.block = 0 ∧ ad.block < w.heap.size) (hbl : b.length ≤ 80000000) (hhb : p.held ≤ 1000000000000) :
    Calls Try.prog 13 #[ptr g, .slice A b.length cc] w fun e w' => ∃ vt, e = .returned (.tuple #[vt, .int .i64 (ParS.run p b).broken]) ∧ FQ w w' (PO g Oa Oc Oo) g (ParS.feed p b) vt (ParS.run p b).out := by
  have H := Aside0.mk h
  have hd0 := h.hd
  have HI := Aside0.mk (And.intro hi (And.intro hcb (And.intro hh hhb)))
  have HOP := Aside0.mk hop
  have dx0 := (blk_cell hd0 1).trans (show _ = some (.int .i64 p.broken : Value) from rfl)
  by_cases hz : p.broken = 0
  · have HB : Aside0 (∀ w', Upd (fun a => PO g Oa Oc Oo a ≠ 0) w w' → ∀ i, i < b.length → ∃ ad x, A = some ad ∧ w'.cell? (ad.add i) = some (.int .u8 x) ∧ b[i]? = some x ∧ 0 ≤ x ∧ x < 256) := ⟨fun w' hu i hi => by
      obtain ⟨ad, e, hc⟩ := LinW.byteAt hC hi
      obtain ⟨h1, h2⟩ := hA ad e
      have hx := hb b[i] (List.getElem_mem hi)
      have eb : (ad.add i).block = ad.block := by unfold Addr.add; split <;> rfl
      exact ⟨ad, b[i], e, (Upd.cell (a := ad.add i) hu (by rw [eb]; exact h2) (fun hn => hn (by rw [eb]; exact h1))).trans hc, List.getElem?_eq_getElem hi, hx⟩⟩
    have HZ := Aside0.mk hz
    have HINB := Aside0.mk hb
    clear h hi hcb hop hh hC hb hA hd0 hhb
    go_enter Try.func13, Try.ntmps13
    go_wp2_with fail
    clear dx0
    go_loopw [21] (fun i wr => ∃ k : Nat, i = .int .i64 k ∧ Aside0 (FR w wr (PO g Oa Oc Oo) g p b k)) (fun i _ => b.length - (intOf i).toNat)
    case atStart => exact ⟨0, rfl, ⟨⟨Nat.zero_le _, HZ.out, PQ.same H.out⟩⟩⟩
    case round =>
      obtain ⟨k, rfl, HR⟩ := hrel
      have hi1 := ParS.Inv.run (b.take k) HI.out.1
      have hin : inB b := HINB.out
      have hcu1 := run_in (b.take k) HI.out.2.1 (fun x hx => hin x (List.mem_of_mem_take hx))
      have hle1 := run_le (b.take k) HI.out.2.2.1
      have hok := HR.out.ok
      have hkl := HR.out.le
      rw [HOP.out, List.length_take, Nat.min_eq_left hkl, List.length_nil] at hle1
      have hq0 := HR.out.pq
      obtain ⟨q, hq⟩ : ∃ q, q = ParS.run p (b.take k) := ⟨_, rfl⟩
      rw [← hq] at hi1 hcu1 hle1 hok hq0
      obtain ⟨va1, vc1, vo1, Oa1, Oc1, Oo1, hpm, hO1, hu1⟩ := hq0
      have HQ := Aside0.mk hq
      have HP1 := Aside0.mk (And.intro hpm (And.intro hO1 hu1))
      have hd1 := hpm.hd
      have hhb2 := HI.out.2.2.2
      by_cases hlt : k < b.length
      · obtain ⟨ad, x, rfl, hx, hbx, hx0, hx1⟩ := HB.out wr hu1 k hlt
        have HX := Aside0.mk hbx
        have hlt' : (k : Int) < (b.length : Int) := by omega
        have hk0 : (0 : Int) ≤ (k : Int) := by omega
        have hw1 : wrap64 (q.held + 1) = q.held + 1 := w64s _ (by omega) (by omega)
        have HM : Aside0 (b.length - (k + 1) < b.length - k) := ⟨by omega⟩
        obtain ⟨f, hf⟩ : ∃ f, f = fnN q.st := ⟨_, rfl⟩
        have ex0 := (blk_cell hd1 2).trans (show _ = some (.int .i64 q.held : Value) from rfl)
        have ex1 := (blk_cell hd1 2).trans (show _ = some (.int .i64 q.held : Value) from rfl)
        have ef0 := blk_frozen hd1 2
        have eh0 := blk_set hd1 2 (.int .i64 (q.held + 1))
        have ex2 := (blk_cell eh0 0).trans (show _ = some (.func (.func (fnN q.st)) #[ptr g] #[] : Value) from rfl)
        have EZ := Aside0.mk eh0
        clear eh0
        have hp2 : PM (wr.setCell ⟨g, 2, none⟩ (.int .i64 (q.held + 1))) g { q with held := q.held + 1 } va1 vc1 vo1 Oa1 Oc1 Oo1 := hpm.stored (by ((repeat (refine up1 ?_ _ _)); exact Upd.refl _ _)) (EZ.out.trans (by rfl)) rfl rfl rfl rfl
        have hst := step.calls x hp2 (hi1.held hok (q.held + 1)) hx0 hx1 (by show q.out.length ≤ _; omega) hcu1
        rw [show ({ q with held := q.held + 1 } : PS).st = q.st from rfl, ← hf] at hst
        rw [← hf] at ex2
        have HST := Aside0.mk hst
        have HPM2 := Aside0.mk hp2
        have hent : ∀ (args : Array Value) (w : World), (callFunc f args).run Try.prog w = .ok (.enter f args) w := by rw [hf]; exact enters q.st
        have hU2 : Upd (fun a => PO g Oa Oc Oo a ≠ 0) w (wr.setCell ⟨g, 2, none⟩ (.int .i64 (q.held + 1))) := hu1.trans2 (S' := fun a => a = g) (by ((repeat (refine up1 ?_ _ _)); exact Upd.refl _ _)) (fun a e => .inl (by subst e; exact H.out.own))
        have HU2 := Aside0.mk hU2
        have hrt : ParS.run p (b.take (k + 1)) = ParS.step1 q x := by rw [run_take hbx, ← hq, ParS.runB, if_neg (Decidable.not_not.2 hok)]
        have hrb : (ParS.step { q with held := q.held + 1 } x).1.broken = 0 := by rw [step_broken]; exact hok
        obtain ⟨E, hE⟩ : ∃ E, E = (ParS.step { q with held := q.held + 1 } x).2 := ⟨_, rfl⟩
        obtain ⟨R, hR⟩ : ∃ R, R = (ParS.step { q with held := q.held + 1 } x).1 := ⟨_, rfl⟩
        rw [← hE, ← hR] at hst
        rw [← hR] at hrb
        by_cases hE0 : E = 0
        · have hrt2 : ParS.run p (b.take (k + 1)) = R := by rw [hrt, ParS.step1, ← hE, if_neg (Decidable.not_not.2 hE0), ← hR]
          rw [hE0] at hst
          have HST := Aside0.mk hst
          have HRT := Aside0.mk (And.intro hrt2 hrb)
          clear hpm hd1 hst hp2 hi1 hcu1 hle1 hok hkl hin hbx hu1 hO1 hf hq hhb2 hlt hE hE0 hR hrt hrt2 hrb hU2
          go_wp2_with (refine HST.out.mono ?_; rintro e w2 ⟨rfl, hq2⟩; have HQ2 := Aside0.mk hq2; clear hq2)
          refine ⟨⟨k + 1, by rw [Int.natCast_succ], ⟨⟨by have := HM.out; omega, by rw [HRT.out.1]; exact HRT.out.2, by rw [HRT.out.1]; exact PQ.trans HPM2.out HP1.out.2.1 HU2.out HQ2.out⟩⟩⟩, by have := HM.out; simp only [intOf]; omega⟩
        · have hbr : ParS.run p b = ParS.gone R E := by
            have e1 : ParS.runB q x = ParS.gone R E := by rw [ParS.runB, if_neg (Decidable.not_not.2 hok), ParS.step1, ← hE, if_pos hE0, ← hR]; rfl
            have e2 : b = b.take k ++ x :: b.drop (k + 1) := by rw [← LinW.drop_at hbx, List.take_append_drop]
            rw [e2, ParS.run_append, ← hq, ParS.run_cons, e1]
            exact ParS.run_broken hE0 _
          have HST := Aside0.mk hst
          have HBR := Aside0.mk hbr
          clear hpm hd1 hst hp2 hi1 hcu1 hle1 hok hkl hin hbx hu1 hO1 hf hq hhb2 hlt hE hR hrt hrb hU2 hbr
          go_upto_region 11 with (refine HST.out.mono ?_; rintro e w2 ⟨rfl, va2, vc2, vo3, Oa2, Oc2, Oo3, m1, m2, m3⟩; have M := Aside0.mk (And.intro m1 (And.intro m2 m3)); have hd2 := m1.hd; clear m1 m2 m3; have ex0 := (blk_cell hd2 1).trans (show _ = some (.int .i64 R.broken : Value) from rfl); have ef0 := blk_frozen hd2 1; have eh0 := blk_set hd2 1 (.int .i64 E); have ex1 := (blk_cell eh0 2).trans (show _ = some (.int .i64 R.held : Value) from rfl); have ef1 := blk_frozen eh0 2; have eh1 := blk_set eh0 2 (.int .i64 0); have ex2 := (blk_cell eh1 8).trans (show _ = some (va2 : Value) from rfl); have ef2 := blk_frozen eh1 8; have eh2 := blk_set eh1 8 (.slice none 0 0); have ex3 := (blk_cell eh2 9).trans (show _ = some (vc2 : Value) from rfl); have ef3 := blk_frozen eh2 9; have eh3 := blk_set eh2 9 (.slice none 0 0); have EZ := Aside0.mk eh3; clear eh0 eh1 eh2 eh3; clear hd2)
          have q1 := goneM (E := E) M.out.1 (by ((repeat (refine up1 ?_ _ _)); exact Upd.refl _ _)) (EZ.out.trans (by rfl))
          have q2 : ∀ a, a < w.heap.size → PO g (fun _ => 0) (fun _ => 0) Oo3 a ≤ PO g Oa Oc Oo a := fun a ha => by
            have h3 := M.out.2.1 a (by have := HU2.out.size; omega)
            have h4 := HP1.out.2.1 a ha
            unfold PO at h3 h4 ⊢
            (try dsimp only)
            omega
          have q3 := HU2.out.trans2 (S' := fun a => PO g Oa1 Oc1 Oo1 a ≠ 0 ∨ a = g) ((M.out.2.2.mono (fun a ha => .inl ha)).trans2 (S' := fun a => a = g) (c := (((w2.setCell ⟨g, 1, none⟩ (.int .i64 E)).setCell ⟨g, 2, none⟩ (.int .i64 0)).setCell ⟨g, 8, none⟩ (.slice none 0 0)).setCell ⟨g, 9, none⟩ (.slice none 0 0)) (by ((repeat (refine up1 ?_ _ _)); exact Upd.refl _ _)) (fun a ha => .inl (.inr ha))) (fun a ha => by
            rcases ha with ha | ha
            · by_cases hl : a < w.heap.size
              · have := HP1.out.2.1 a hl; exact .inl (by omega)
              · exact .inr (by omega)
            · subst ha; exact .inl H.out.own)
          have M3 := Aside0.mk (And.intro q1 (And.intro q2 q3))
          clear q1 q2 q3 M EZ ex0 ex1 ex2 ex3 ef0 ef1 ef2 ef3
          generalize hw3 : World.setCell (World.setCell (World.setCell (World.setCell w2 _ _) _ _) _ _) _ _ = w3 at M3 ⊢
          clear hw3
          obtain ⟨r, hr⟩ : ∃ r, r = ParS.gone R E := ⟨_, rfl⟩
          have HR3 : Aside0 (r = ParS.run p b) := ⟨by rw [hr, HBR.out]⟩
          rw [← hr] at M3
          clear hr HST HPM2 HU2 HBR hent
          have hd3 := M3.out.1.hd
          have yx0 := (blk_cell hd3 11).trans (show _ = some (vo3 : Value) from rfl)
          have yx1 := (blk_cell hd3 11).trans (show _ = some (vo3 : Value) from rfl)
          have yf0 := blk_frozen hd3 11
          have yh0 := blk_set hd3 11 (.slice none 0 0)
          have yx2 := (blk_cell yh0 1).trans (show _ = some (.int .i64 r.broken : Value) from rfl)
          have YZ := Aside0.mk yh0
          clear yh0
          have HK := Aside0.mk ((blk_cell YZ.out 1).trans (show _ = some (.int .i64 r.broken : Value) from rfl))
          clear hd3
          go_upto_region 13 with (fail)
          clear yx0 yx1 yf0
          generalize hw4 : World.setCell w3 _ _ = w4 at HK YZ ⊢
          go_region_held3 (fun w' => w'.cell? ⟨g, 1, none⟩ = some (.int .i64 r.broken)) (first | exact HK.out | go_keep) (fail)
          go_wp2_with fail
          go_ret2
          have q2 := tell (w := w) (O := PO g Oa Oc Oo) (w3 := w4.drew) M3.out.1 M3.out.2.1 M3.out.2.2 (Upd.drew (by rw [← hw4]; ((repeat (refine up1 ?_ _ _)); exact Upd.refl _ _))) (YZ.out.trans (by rfl))
          unfold ParS.feed
          rw [← HR3.out]
          exact ⟨_, rfl, q2⟩
      · have hke : k = b.length := by omega
        have M3 := Aside0.mk (And.intro hpm (And.intro hO1 hu1))
        obtain ⟨r, hr⟩ : ∃ r, r = q := ⟨_, rfl⟩
        have HR3 : Aside0 (r = ParS.run p b) := ⟨by rw [hr, hq, hke, List.take_length]⟩
        rw [← hr] at M3
        have hlt' : ¬ (k : Int) < (b.length : Int) := by omega
        obtain ⟨w3, hw3⟩ : ∃ w3, w3 = wr := ⟨_, rfl⟩
        rw [← hw3] at M3 ⊢
        clear hpm hd1 hi1 hcu1 hle1 hok hkl hin hu1 hO1 hq hhb2 hlt hr hke hw3 HP1 HQ
        go_upto_region 11 with (fail)
        have hd3 := M3.out.1.hd
        have yx0 := (blk_cell hd3 11).trans (show _ = some (vo1 : Value) from rfl)
        have yx1 := (blk_cell hd3 11).trans (show _ = some (vo1 : Value) from rfl)
        have yf0 := blk_frozen hd3 11
        have yh0 := blk_set hd3 11 (.slice none 0 0)
        have yx2 := (blk_cell yh0 1).trans (show _ = some (.int .i64 r.broken : Value) from rfl)
        have YZ := Aside0.mk yh0
        clear yh0
        have HK := Aside0.mk ((blk_cell YZ.out 1).trans (show _ = some (.int .i64 r.broken : Value) from rfl))
        clear hd3
        go_upto_region 13 with (fail)
        clear yx0 yx1 yf0
        generalize hw4 : World.setCell w3 _ _ = w4 at HK YZ ⊢
        go_region_held3 (fun w' => w'.cell? ⟨g, 1, none⟩ = some (.int .i64 r.broken)) (first | exact HK.out | go_keep) (fail)
        go_wp2_with fail
        go_ret2
        have q2 := tell (w := w) (O := PO g Oa Oc Oo) (w3 := w4.drew) M3.out.1 M3.out.2.1 M3.out.2.2 (Upd.drew (by rw [← hw4]; ((repeat (refine up1 ?_ _ _)); exact Upd.refl _ _))) (YZ.out.trans (by rfl))
        unfold ParS.feed
        rw [← HR3.out]
        exact ⟨_, rfl, q2⟩
  · have hbr := ParS.feed_broken_out hz hop b
    have HBR := Aside0.mk hbr
    have HK := Aside0.mk dx0
    clear h hi hcb hop hh hC hb hA hd0 hhb hbr
    go_enter Try.func13, Try.ntmps13
    go_wp2_with fail
    go_region_held3 (fun w' => w'.cell? ⟨g, 1, none⟩ = some (.int .i64 p.broken)) (first | exact HK.out | go_keep) (fail)
    go_wp2_with fail
    go_ret2
    rw [HBR.out.1, HBR.out.2, HOP.out]
    exact ⟨_, rfl, _, _, _, _, _, _, _, H.out.upd (S := fun _ => False) (Upd.refl _ _).drew (fun _ _ hf => hf), LAt.nil _ _ _, fun a => by have := H.out.one a; unfold PO; (try dsimp only); omega, fun a _ => by (try dsimp only); omega, (Upd.refl _ _).drew⟩
end Go.Proofs.Ytfdkcnbkoagmiaa.ParF