/- Layer 8: the parser in plain words. No program. -/
import Derived.Test.YtfdkcnbkoagmiaaLinS
namespace Go.Proofs.Ytfdkcnbkoagmiaa.ParS
open Go.Proofs.Ytfdkcnbkoagmiaa.LinS
set_option linter.unusedVariables false

inductive St | begin | digit | minus | minusR | numF | dollar | content | contR | contF | line
deriving DecidableEq
structure PS where
  st : St
  broken : Int
  held : Int
  head : Int
  num : Int
  digits : Int
  most : Int
  want : Int
  args : List (List Int)
  cur : List Int
  left : Int
  out : List (List (List Int))
def new : PS := ⟨.begin, 0, 0, 0, 0, 0, 0, 0, [], [], 0, []⟩
def number (p : PS) (head most : Int) : PS := { p with head := head, num := 0, digits := 0, most := most, st := .digit }
def whole (p : PS) : PS := { p with out := if p.args = [] then p.out else p.out ++ [p.args], args := [], cur := [], held := 0, st := .begin }
def numErr (p : PS) : Int := if p.head = 0 then 80 else 81
def lineB (p : PS) (c : Int) : PS × Int :=
  if c ≠ 10 then ({ p with cur := p.cur ++ [c] }, if p.cur.length + 1 ≤ 1024 then 0 else 83)
  else if (LinS.line p.cur).2 ≠ 0 then (p, (LinS.line p.cur).2) else (whole { p with args := (LinS.line p.cur).1 }, 0)
def digitB (p : PS) (c : Int) : PS × Int :=
  if 48 ≤ c ∧ c ≤ 57 then (if 0 < p.digits ∧ p.num = 0 ∨ p.most < p.num * 10 + (c - 48) then (p, numErr p) else ({ p with num := p.num * 10 + (c - 48), digits := p.digits + 1 }, 0))
  else if c = 13 ∧ 0 < p.digits then ({ p with st := .numF }, 0)
  else if c = 45 ∧ p.digits = 0 ∧ p.head = 0 then ({ p with st := .minus }, 0)
  else (p, numErr p)
def numFB (p : PS) (c : Int) : PS × Int :=
  if c ≠ 10 then (p, 82)
  else if p.head = 1 then ({ p with cur := [], left := p.num, st := if p.num = 0 then .contR else .content }, 0)
  else if p.num = 0 then (whole p, 0) else ({ p with want := p.num, args := [], st := .dollar }, 0)
def contFB (p : PS) (c : Int) : PS × Int :=
  if c ≠ 10 then (p, 82)
  else if ((p.args.length + 1 : Nat) : Int) = p.want then (whole { p with args := p.args ++ [p.cur], st := .dollar }, 0)
  else ({ p with args := p.args ++ [p.cur], st := .dollar }, 0)
def step (p : PS) (c : Int) : PS × Int :=
  match p.st with
  | .begin => if c = 42 then (number p 0 128, 0) else lineB { p with cur := [], st := .line } c
  | .line => lineB p c
  | .digit => digitB p c
  | .minus => ({ p with st := .minusR }, if c = 49 then 0 else 80)
  | .minusR => ({ p with st := .numF }, if c = 13 then 0 else 80)
  | .numF => numFB p c
  | .dollar => (number p 1 4096, if c = 36 then 0 else 81)
  | .content => ({ p with cur := p.cur ++ [c], left := p.left - 1, st := if p.left - 1 = 0 then .contR else .content }, 0)
  | .contR => ({ p with st := .contF }, if c = 13 then 0 else 82)
  | .contF => contFB p c
/-- One byte of Feed's loop. -/
def step1 (p : PS) (c : Int) : PS :=
  if (step { p with held := p.held + 1 } c).2 ≠ 0
  then { (step { p with held := p.held + 1 } c).1 with broken := (step { p with held := p.held + 1 } c).2, held := 0, args := [], cur := [] }
  else (step { p with held := p.held + 1 } c).1
def runB (p : PS) (c : Int) : PS := if p.broken ≠ 0 then p else step1 p c
def run (p : PS) (b : List Int) : PS := b.foldl runB p
theorem run_nil (p : PS) : run p [] = p := rfl
theorem run_cons (p : PS) (c : Int) (b : List Int) : run p (c :: b) = run (runB p c) b := rfl
theorem run_append (p : PS) (a b : List Int) : run p (a ++ b) = run (run p a) b := List.foldl_append ..
theorem run_broken {p : PS} (h : p.broken ≠ 0) (b : List Int) : run p b = p := by
  induction b with
  | nil => rfl
  | cons c b ih => rw [run_cons, runB, if_pos h, ih]
def told (p : PS) : PS := { p with out := [] }
def feed (p : PS) (b : List Int) : PS := told (run p b)

/-! What is told does not tell on what comes. -/
def pre (o : List (List (List Int))) (p : PS) : PS := { p with out := o ++ p.out }
theorem whole_pre (o : List (List (List Int))) (p : PS) : whole (pre o p) = pre o (whole p) := by
  unfold whole pre
  dsimp only
  split <;> simp
theorem lineB_pre (o : List (List (List Int))) (p : PS) (c : Int) : lineB (pre o p) c = (pre o (lineB p c).1, (lineB p c).2) := by
  unfold lineB
  by_cases h : c ≠ 10
  · simp only [if_pos h]; rfl
  · simp only [if_neg h]
    by_cases h2 : (LinS.line p.cur).2 ≠ 0
    · rw [if_pos h2, if_pos (show (LinS.line (pre o p).cur).2 ≠ 0 from h2)]; rfl
    · rw [if_neg h2, if_neg (show ¬ (LinS.line (pre o p).cur).2 ≠ 0 from h2), show ({ pre o p with args := (LinS.line (pre o p).cur).1 } : PS) = pre o { p with args := (LinS.line p.cur).1 } from rfl, whole_pre]
theorem step_pre (o : List (List (List Int))) (p : PS) (c : Int) : step (pre o p) c = (pre o (step p c).1, (step p c).2) := by
  have hs : (pre o p).st = p.st := rfl
  unfold step
  rw [hs]
  cases p.st with
  | begin =>
    dsimp only
    by_cases h : c = 42
    · rw [if_pos h, if_pos h]; rfl
    · rw [if_neg h, if_neg h]
      exact lineB_pre o { p with cur := [], st := .line } c
  | line => exact lineB_pre o p c
  | digit =>
    show digitB (pre o p) c = (pre o (digitB p c).1, (digitB p c).2)
    unfold digitB
    rw [show (pre o p).digits = p.digits from rfl, show (pre o p).num = p.num from rfl, show (pre o p).most = p.most from rfl, show (pre o p).head = p.head from rfl, show numErr (pre o p) = numErr p from rfl]
    repeat' split
    all_goals rfl
  | numF =>
    show numFB (pre o p) c = (pre o (numFB p c).1, (numFB p c).2)
    unfold numFB
    rw [show (pre o p).num = p.num from rfl, show (pre o p).head = p.head from rfl, whole_pre]
    repeat' split
    all_goals rfl
  | contF =>
    show contFB (pre o p) c = (pre o (contFB p c).1, (contFB p c).2)
    unfold contFB
    by_cases h1 : c ≠ 10
    · rw [if_pos h1, if_pos h1]
    · rw [if_neg h1, if_neg h1]
      by_cases h2 : ((p.args.length + 1 : Nat) : Int) = p.want
      · rw [if_pos h2, if_pos (show (((pre o p).args.length + 1 : Nat) : Int) = (pre o p).want from h2)]
        dsimp only
        rw [← whole_pre]
        rfl
      · rw [if_neg h2, if_neg (show ¬ (((pre o p).args.length + 1 : Nat) : Int) = (pre o p).want from h2)]
        rfl
  | minus => rfl
  | minusR => rfl
  | dollar => rfl
  | content => rfl
  | contR => rfl
theorem runB_pre (o : List (List (List Int))) (p : PS) (c : Int) : runB (pre o p) c = pre o (runB p c) := by
  unfold runB
  rw [show (pre o p).broken = p.broken from rfl]
  split
  · rfl
  · unfold step1
    rw [show ({ pre o p with held := (pre o p).held + 1 } : PS) = pre o { p with held := p.held + 1 } from rfl, step_pre]
    dsimp only
    split <;> rfl
theorem run_pre (o : List (List (List Int))) (b : List Int) : ∀ p : PS, run (pre o p) b = pre o (run p b) := by
  induction b with
  | nil => intro p; rfl
  | cons c b ih => intro p; rw [run_cons, run_cons, runB_pre, ih]
theorem pre_told (p : PS) : pre p.out (told p) = p := by
  unfold pre told
  simp
/-- Feeding piece behind piece: what is told, one behind the other, is what is told of all. -/
theorem run_out (p : PS) (a b : List Int) : (run p (a ++ b)).out = (run p a).out ++ (run (feed p a) b).out := by
  rw [run_append]
  conv => lhs; rw [← pre_told (run p a), run_pre]
  rfl
theorem feed_append (p : PS) (a b : List Int) : feed p (a ++ b) = feed (feed p a) b := by
  unfold feed
  rw [run_append]
  conv => lhs; rw [← pre_told (run p a), run_pre]
  rfl
theorem feed_broken_out {p : PS} (h : p.broken ≠ 0) (ho : p.out = []) (b : List Int) : run p b = p ∧ feed p b = p := by
  refine ⟨run_broken h b, ?_⟩
  unfold feed told
  rw [run_broken h b]
  cases p
  simp only at ho
  subst ho
  rfl
theorem feed_out (p : PS) (b : List Int) : (feed p b).out = [] := rfl
theorem feed_brk (p : PS) (b : List Int) : (feed p b).broken = (run p b).broken := rfl

/-! What every parser keeps. -/
structure Inv (p : PS) : Prop where
  dg : p.digits = 0 ∧ p.num = 0 ∨ p.digits = 1 ∧ 0 ≤ p.num ∧ p.num ≤ 9 ∨ p.digits = 2 ∧ 10 ≤ p.num ∧ p.num ≤ 99 ∨ p.digits = 3 ∧ 100 ≤ p.num ∧ p.num ≤ 999 ∨ p.digits = 4 ∧ 1000 ≤ p.num ∧ p.num ≤ 4096
  most : p.most ≤ 4096
  hd : p.head = 0 ∨ p.head = 1
  left : 0 ≤ p.left ∧ p.left ≤ 4096
  cont : p.st = .content → 1 ≤ p.left
  want : 0 ≤ p.want ∧ p.want ≤ 4096
  args : p.args.length < 4096 + 1
  argw : p.st = .dollar ∨ p.st = .content ∨ p.st = .contR ∨ p.st = .contF ∨ (p.st = .digit ∨ p.st = .numF) ∧ p.head = 1 → (p.args.length : Int) < p.want
  cur : p.cur.length ≤ 4096
  curc : p.st = .content → (p.cur.length : Int) + p.left ≤ 4096
  curl : p.st = .line → p.cur.length ≤ 1024
  brk : p.broken ≠ 0 → p.held = 0
  mh : p.st = .minus ∨ p.st = .minusR → p.head = 0
theorem inv_new : Inv new := by
  constructor <;> simp [new]
theorem line_len (b : List Int) : (LinS.line b).1.length ≤ 128 := by
  unfold LinS.line
  split
  · simp
  · split
    · simp
    · split
      · simp
      · dsimp only; omega
theorem line_err (b : List Int) : (LinS.line b).2 = 0 ∨ (LinS.line b).2 = 83 ∨ (LinS.line b).2 = 84 := by
  unfold LinS.line
  split
  · simp
  · split
    · simp
    · split <;> simp
theorem Inv.held {p : PS} (h : Inv p) (hb : p.broken = 0) (k : Int) : Inv { p with held := k } := by
  obtain ⟨a1, a2, a3, a4, a5, a6, a7, a8, a9, a10, a11, a12, a13⟩ := h
  exact ⟨a1, a2, a3, a4, a5, a6, a7, a8, a9, a10, a11, fun h => absurd hb h, a13⟩
theorem Inv.whole {p : PS} (h : Inv p) (hb : p.broken = 0) (l : List (List Int)) (s : St) : Inv (whole { p with args := l, st := s }) := by
  obtain ⟨a1, a2, a3, a4, a5, a6, a7, a8, a9, a10, a11, a12, a13⟩ := h
  exact ⟨a1, a2, a3, a4, fun h => (by cases h), a6, by simp [ParS.whole], fun h => (by rcases h with h | h | h | h | ⟨h | h, _⟩ <;> cases h), by simp [ParS.whole], fun h => (by cases h), fun h => (by cases h), fun _ => rfl, fun h => (by rcases h with h | h <;> cases h)⟩
theorem Inv.number {p : PS} (h : Inv p) (hb : p.broken = 0) (hd m : Int) (hm : hd = 0 ∧ m = 128 ∨ hd = 1 ∧ m = 4096 ∧ (p.args.length : Int) < p.want) : Inv (number p hd m) := by
  obtain ⟨a1, a2, a3, a4, a5, a6, a7, a8, a9, a10, a11, a12, a13⟩ := h
  refine ⟨.inl ⟨rfl, rfl⟩, by show m ≤ 4096; omega, by show hd = 0 ∨ hd = 1; omega, a4, fun h => (by cases h), a6, a7, fun h => ?_, a9, fun h => (by cases h), fun h => (by cases h), fun h => absurd hb h, fun h => (by rcases h with h | h <;> cases h)⟩
  rcases h with h | h | h | h | ⟨h | h, h2⟩
  · cases h
  · cases h
  · cases h
  · cases h
  · have : hd = 1 := h2
    show (p.args.length : Int) < p.want
    omega
  · cases h
theorem Inv.args0 {p : PS} (h : Inv p) : 0 ≤ p.num ∧ p.num ≤ 4096 := by
  have := h.dg
  omega
/-- A byte's step keeps it, where no error is told; where one is, with args and cur gone. -/
theorem Inv.lineB {p : PS} (h : Inv p) (hb : p.broken = 0) (hs : p.st = .line) (c : Int) (he : (lineB p c).2 = 0) : Inv (lineB p c).1 := by
  unfold ParS.lineB at he ⊢
  have h0 := h
  obtain ⟨a1, a2, a3, a4, a5, a6, a7, a8, a9, a10, a11, a12, a13⟩ := h
  split
  · next hc =>
    rw [if_pos hc] at he
    have hl : p.cur.length + 1 ≤ 1024 := by
      dsimp only at he
      split at he
      · assumption
      · cases he
    refine ⟨a1, a2, a3, a4, fun h => (by rw [hs] at h; cases h), a6, a7, fun h => (by rw [hs] at h; rcases h with h | h | h | h | ⟨h | h, _⟩ <;> cases h), ?_, fun h => (by rw [hs] at h; cases h), fun _ => ?_, a12, fun h => (by rw [hs] at h; rcases h with h | h <;> cases h)⟩ <;> simp only [List.length_append, List.length_singleton] <;> omega
  · split
    · exact h0
    · exact h0.whole hb _ _
theorem Inv.step {p : PS} (h : Inv p) (hb : p.broken = 0) (c : Int) (he : (step p c).2 = 0) : Inv (step p c).1 := by
  have h0 := h
  have hn := h.args0
  obtain ⟨a1, a2, a3, a4, a5, a6, a7, a8, a9, a10, a11, a12, a13⟩ := h
  have hq : ∀ {s t : St}, p.st = s → s ≠ t → p.st = t → False := fun h1 h2 h3 => h2 (h1.symm.trans h3)
  unfold ParS.step at he ⊢
  cases hs : p.st <;> rw [hs] at he <;> dsimp only at he ⊢
  · split
    · exact h0.number hb 0 128 (.inl ⟨rfl, rfl⟩)
    · next hc =>
      rw [if_neg hc] at he
      exact Inv.lineB (p := { p with cur := [], st := .line }) ⟨a1, a2, a3, a4, fun h => (by cases h), a6, a7, fun h => (by rcases h with h | h | h | h | ⟨h | h, _⟩ <;> cases h), by simp, fun h => (by cases h), fun _ => by simp, a12, fun h => (by rcases h with h | h <;> cases h)⟩ hb rfl c he
  · unfold digitB at he ⊢
    split
    · next hc =>
      rw [if_pos hc] at he
      split
      · next hd => exact h0
      · next hd =>
        refine ⟨?_, a2, a3, a4, a5, a6, a7, a8, a9, a10, a11, a12, a13⟩
        show (p.digits + 1 = 0 ∧ p.num * 10 + (c - 48) = 0) ∨ _
        simp only
        omega
    · split
      · refine ⟨a1, a2, a3, a4, fun h => (by cases h), a6, a7, fun h => ?_, a9, fun h => (by cases h), fun h => (by cases h), a12, fun h => (by rcases h with h | h <;> cases h)⟩
        rcases h with h | h | h | h | ⟨h | h, h2⟩
        all_goals first | (cases h; done) | exact a8 (.inr (.inr (.inr (.inr ⟨.inl hs, h2⟩))))
      · split
        · next hm => exact ⟨a1, a2, a3, a4, fun h => (by cases h), a6, a7, fun h => (by rcases h with h | h | h | h | ⟨h | h, _⟩ <;> cases h), a9, fun h => (by cases h), fun h => (by cases h), a12, fun _ => hm.2.2⟩
        · exact h0
  · exact ⟨a1, a2, a3, a4, fun h => (by cases h), a6, a7, fun h => (by rcases h with h | h | h | h | ⟨h | h, _⟩ <;> cases h), a9, fun h => (by cases h), fun h => (by cases h), a12, fun _ => a13 (.inl hs)⟩
  · have hm := a13 (.inr hs)
    refine ⟨a1, a2, a3, a4, fun h => (by cases h), a6, a7, fun h => ?_, a9, fun h => (by cases h), fun h => (by cases h), a12, fun h => (by rcases h with h | h <;> cases h)⟩
    rcases h with h | h | h | h | ⟨h | h, h2⟩
    all_goals first | (cases h; done) | (have : p.head = 1 := h2; omega)
  · unfold numFB at he ⊢
    split
    · exact h0
    · split
      · next h1 =>
        have hw := a8 (.inr (.inr (.inr (.inr ⟨.inr hs, h1⟩))))
        refine ⟨a1, a2, a3, by show 0 ≤ p.num ∧ p.num ≤ 4096; exact hn, ?_, a6, a7, fun _ => hw, by simp, fun _ => ?_, fun _ => by simp, a12, fun h => ?_⟩
        · intro h
          dsimp only at h ⊢
          split at h
          · cases h
          · omega
        · simp only [List.length_nil]
          omega
        · dsimp only at h
          rcases h with h | h <;> (split at h <;> cases h)
      · split
        · exact h0.whole hb p.args p.st
        · next hz =>
          refine ⟨a1, a2, a3, a4, fun h => (by cases h), hn, by simp, fun _ => ?_, a9, fun h => (by cases h), fun h => (by cases h), a12, fun h => (by rcases h with h | h <;> cases h)⟩
          simp only [List.length_nil]
          omega
  · exact h0.number hb 1 4096 (.inr ⟨rfl, rfl, a8 (.inl hs)⟩)
  · have hl := a5 hs
    have hc := a10 hs
    refine ⟨a1, a2, a3, by show 0 ≤ p.left - 1 ∧ p.left - 1 ≤ 4096; omega, ?_, a6, a7, fun _ => a8 (.inr (.inl hs)), ?_, fun _ => ?_, ?_, a12, fun h => ?_⟩
    · intro h
      dsimp only at h ⊢
      split at h
      · cases h
      · omega
    · simp only [List.length_append, List.length_singleton]; omega
    · simp only [List.length_append, List.length_singleton]; omega
    · intro h
      dsimp only at h
      split at h <;> cases h
    · dsimp only at h
      rcases h with h | h <;> (split at h <;> cases h)
  · exact ⟨a1, a2, a3, a4, fun h => (by cases h), a6, a7, fun _ => a8 (.inr (.inr (.inl hs))), a9, fun h => (by cases h), fun h => (by cases h), a12, fun h => (by rcases h with h | h <;> cases h)⟩
  · have hw := a8 (.inr (.inr (.inr (.inl hs))))
    unfold contFB at he ⊢
    split
    · exact h0
    · split
      · exact h0.whole hb _ _
      · next h1 =>
        refine ⟨a1, a2, a3, a4, fun h => (by cases h), a6, ?_, fun _ => ?_, a9, fun h => (by cases h), fun h => (by cases h), a12, fun h => (by rcases h with h | h <;> cases h)⟩ <;> simp only [List.length_append, List.length_singleton] <;> omega
  · exact h0.lineB hb hs c he
/-- Behind an error: the parser with args and cur gone. -/
def gone (p : PS) (e : Int) : PS := { p with broken := e, held := 0, args := [], cur := [] }
theorem Inv.fell {p : PS} (h : Inv p) (e : Int) : Inv (gone p e) := by
  obtain ⟨a1, a2, a3, a4, a5, a6, a7, a8, a9, a10, a11, a12, a13⟩ := h
  refine ⟨a1, a2, a3, a4, a5, a6, by simp [gone], fun h => ?_, by simp [gone], fun h => ?_, fun _ => by simp [gone], fun _ => rfl, a13⟩
  · have := a8 h
    show ((([] : List (List Int)).length : Nat) : Int) < p.want
    simp only [List.length_nil]
    omega
  · have := a4
    show ((([] : List Int).length : Nat) : Int) + p.left ≤ 4096
    simp only [List.length_nil]
    omega
theorem Inv.stepE {p : PS} (h : Inv p) (hb : p.broken = 0) (c : Int) (he : (ParS.step p c).2 ≠ 0) (e : Int) : Inv (gone (ParS.step p c).1 e) := by
  have h0 := h
  obtain ⟨a1, a2, a3, a4, a5, a6, a7, a8, a9, a10, a11, a12, a13⟩ := h
  have hw0 : ∀ {n : Nat}, (n : Int) < p.want → (((([] : List (List Int)).length : Nat) : Int) < p.want) := fun h => by simp only [List.length_nil]; omega
  unfold ParS.step at he ⊢
  have hL : ∀ q : PS, q.head = p.head → q.num = p.num → q.digits = p.digits → q.most = p.most → q.left = p.left → q.want = p.want → q.st = .line → (ParS.lineB q c).2 ≠ 0 → Inv (gone (ParS.lineB q c).1 e) := by
    intro q e1 e2 e3 e4 e5 e6 hs he
    unfold ParS.lineB at he ⊢
    have hg : ∀ r : PS, r.head = p.head → r.num = p.num → r.digits = p.digits → r.most = p.most → r.left = p.left → r.want = p.want → r.st = .line → Inv (gone r e) := by
      intro r f1 f2 f3 f4 f5 f6 fs
      refine ⟨by show r.digits = 0 ∧ r.num = 0 ∨ _; rw [show (gone r e).digits = r.digits from rfl, show (gone r e).num = r.num from rfl, f2, f3]; exact a1, by show r.most ≤ _; rw [f4]; exact a2, by show r.head = 0 ∨ r.head = 1; rw [f1]; exact a3, by show 0 ≤ r.left ∧ r.left ≤ 4096; rw [f5]; exact a4, fun h => (by rw [show (gone r e).st = r.st from rfl, fs] at h; cases h), by show 0 ≤ r.want ∧ r.want ≤ 4096; rw [f6]; exact a6, by simp [gone], fun h => (by rw [show (gone r e).st = r.st from rfl, fs] at h; rcases h with h | h | h | h | ⟨h | h, _⟩ <;> cases h), by simp [gone], fun h => (by rw [show (gone r e).st = r.st from rfl, fs] at h; cases h), fun _ => by simp [gone], fun _ => rfl, fun h => (by rw [show (gone r e).st = r.st from rfl, fs] at h; rcases h with h | h <;> cases h)⟩
    split
    · exact hg _ e1 e2 e3 e4 e5 e6 hs
    · split
      · exact hg _ e1 e2 e3 e4 e5 e6 hs
      · next h1 h2 => rw [if_neg h1, if_neg h2] at he; exact absurd rfl he
  cases hs : p.st <;> rw [hs] at he <;> dsimp only at he ⊢
  · split
    · next hc => rw [if_pos hc] at he; exact absurd rfl he
    · next hc =>
      rw [if_neg hc] at he
      exact hL { p with cur := [], st := .line } rfl rfl rfl rfl rfl rfl rfl he
  · unfold digitB at he ⊢
    split
    · next hc =>
      rw [if_pos hc] at he
      split
      · exact h0.fell e
      · next hd => rw [if_neg hd] at he; exact absurd rfl he
    · next hc =>
      rw [if_neg hc] at he
      split
      · next hd => rw [if_pos hd] at he; exact absurd rfl he
      · next hd =>
        rw [if_neg hd] at he
        split
        · next hf => rw [if_pos hf] at he; exact absurd rfl he
        · exact h0.fell e
  · exact ⟨a1, a2, a3, a4, fun h => (by cases h), a6, by simp [gone], fun h => (by rcases h with h | h | h | h | ⟨h | h, _⟩ <;> cases h), by simp [gone], fun h => (by cases h), fun _ => by simp [gone], fun _ => rfl, fun _ => a13 (.inl hs)⟩
  · have hm := a13 (.inr hs)
    refine ⟨a1, a2, a3, a4, fun h => (by cases h), a6, by simp [gone], fun h => ?_, by simp [gone], fun h => (by cases h), fun _ => by simp [gone], fun _ => rfl, fun h => (by rcases h with h | h <;> cases h)⟩
    rcases h with h | h | h | h | ⟨h | h, h2⟩
    all_goals first | (cases h; done) | (have : p.head = 1 := h2; omega)
  · unfold numFB at he ⊢
    split
    · exact h0.fell e
    · next h1 =>
      rw [if_neg h1] at he
      split
      · next h2 => rw [if_pos h2] at he; exact absurd rfl he
      · next h2 =>
        rw [if_neg h2] at he
        split
        · next h3 => rw [if_pos h3] at he; exact absurd rfl he
        · next h3 => rw [if_neg h3] at he; exact absurd rfl he
  · have hw := hw0 (a8 (.inl hs))
    exact ⟨.inl ⟨rfl, rfl⟩, by show (4096 : Int) ≤ 4096; omega, .inr rfl, a4, fun h => (by cases h), a6, by simp [gone], fun _ => hw, by simp [gone], fun h => (by cases h), fun _ => by simp [gone], fun _ => rfl, fun h => (by rcases h with h | h <;> cases h)⟩
  · exact absurd rfl he
  · have hw := hw0 (a8 (.inr (.inr (.inl hs))))
    exact ⟨a1, a2, a3, a4, fun h => (by cases h), a6, by simp [gone], fun _ => hw, by simp [gone], fun h => (by cases h), fun _ => by simp [gone], fun _ => rfl, fun h => (by rcases h with h | h <;> cases h)⟩
  · unfold contFB at he ⊢
    split
    · exact h0.fell e
    · next h1 =>
      rw [if_neg h1] at he
      split
      · next h2 => rw [if_pos h2] at he; exact absurd rfl he
      · next h2 => rw [if_neg h2] at he; exact absurd rfl he
  · exact hL p rfl rfl rfl rfl rfl rfl hs he
theorem Inv.runB {p : PS} (h : Inv p) (c : Int) : Inv (runB p c) := by
  unfold ParS.runB
  split
  · exact h
  · next hb =>
    have hb0 : p.broken = 0 := Decidable.not_not.1 hb
    unfold step1
    split
    · next he => exact (h.held hb0 (p.held + 1)).stepE hb0 c he _
    · next he => exact (h.held hb0 (p.held + 1)).step hb0 c (Decidable.not_not.1 he)
theorem Inv.run (b : List Int) : ∀ {p : PS}, Inv p → Inv (run p b) := by
  induction b with
  | nil => intro p h; exact h
  | cons c b ih => intro p h; rw [run_cons]; exact ih (h.runB c)
theorem Inv.told {p : PS} (h : Inv p) : Inv (told p) := by
  obtain ⟨a1, a2, a3, a4, a5, a6, a7, a8, a9, a10, a11, a12, a13⟩ := h
  exact ⟨a1, a2, a3, a4, a5, a6, a7, a8, a9, a10, a11, a12, a13⟩
theorem Inv.feed {p : PS} (h : Inv p) (b : List Int) : Inv (feed p b) := (Inv.run b h).told
end Go.Proofs.Ytfdkcnbkoagmiaa.ParS
