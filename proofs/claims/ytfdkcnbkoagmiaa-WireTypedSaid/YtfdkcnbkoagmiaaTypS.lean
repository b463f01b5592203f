/- Layer 8: arguments typed on a line, in plain words. No program. -/
import Derived.Test.YtfdkcnbkoagmiaaParS
namespace Go.Proofs.Ytfdkcnbkoagmiaa.TypS
open Go.Proofs.Ytfdkcnbkoagmiaa.LinS Go.Proofs.Ytfdkcnbkoagmiaa.ParS
set_option linter.unusedVariables false

def plainB (a : List Int) : Bool := decide (a ≠ []) && a.all (fun c => decide (32 < c ∧ c ≠ 34 ∧ c ≠ 39))
/-- May it stand in single quotes? (as typed asks: place by place) -/
def sOkB : List Int → Bool
  | [] => true
  | c :: t => if c = 10 then false else if c = 92 then (match t with | [] => false | d :: _ => if d = 39 then false else sOkB t) else sOkB t
theorem sOk_of : ∀ {a : List Int}, sOkB a = true → sOk a := by
  intro a
  induction a with
  | nil => intro _; trivial
  | cons c t ih =>
    intro h
    rw [sOkB.eq_def] at h
    dsimp only at h
    split at h
    · cases h
    · next h1 =>
      split at h
      · next h2 =>
        cases t with
        | nil => cases h
        | cons d u =>
          dsimp only at h
          split at h
          · cases h
          · next h3 => exact ⟨h1, fun _ => ⟨d, u, rfl, h3⟩, ih h⟩
      · next h2 => exact ⟨h1, fun e => absurd e h2, ih h⟩
def typX (a : List Int) : List Int := 34 :: (a.flatMap encX ++ [34])
def typD (a : List Int) : List Int := 34 :: (a.flatMap encD ++ [34])
def typS (a : List Int) : List Int := 39 :: (a.flatMap encS ++ [39])
/-- typed: an argument as it may be typed. -/
def typL (a : List Int) (style : Int) : List Int :=
  if style = 3 ∧ plainB a = true then a
  else if style = 2 ∧ (a = [] ∨ a.getLast? ≠ some 92) then (if sOkB a = true then typS a else typX a)
  else if style = 1 then typD a else typX a
theorem hexd_no {n : Int} (h : 0 ≤ n ∧ n < 16) : hexd n ≠ 10 := by
  have := hexd_ge h
  omega
/-- What the law asks of a typed argument. -/
structure Ty (s a : List Int) : Prop where
  wd : ∀ rest, gapped rest = true → LinS.wd (s ++ rest) [] = some (a, rest)
  head : ∃ (c : Int) (r : List Int), s = c :: r ∧ LinS.blank c = false
  no10 : (10 : Int) ∉ s
  inb : inB s
theorem Ty.X {a : List Int} (h : inB a) : Ty (typX a) a := by
  refine ⟨fun rest hr => ?_, ⟨34, _, rfl, by decide⟩, fun hm => ?_, fun x hx => ?_⟩
  · have e : typX a ++ rest = 34 :: (a.flatMap encX ++ 34 :: rest) := by simp [typX]
    rw [e]
    refine wd_quoted hr (.inl rfl) ?_
    rw [qd_X rest a [] 1 h, List.nil_append]
  · simp only [typX, List.mem_cons, List.mem_append, List.mem_flatMap, List.not_mem_nil, or_false] at hm
    rcases hm with hm | ⟨c, hc, hm⟩ | hm
    · omega
    · have := h c hc
      simp only [encX, List.mem_cons, List.not_mem_nil, or_false] at hm
      rcases hm with hm | hm | hm | hm
      · omega
      · omega
      · exact hexd_no (n := c / 16) (by omega) hm.symm
      · exact hexd_no (n := c % 16) (by omega) hm.symm
    · omega
  · simp only [typX, List.mem_cons, List.mem_append, List.mem_flatMap, List.not_mem_nil, or_false] at hx
    rcases hx with hm | ⟨c, hc, hm⟩ | hm
    · omega
    · have := h c hc
      simp only [encX, List.mem_cons, List.not_mem_nil, or_false] at hm
      rcases hm with hm | hm | hm | hm
      · omega
      · omega
      · have := hexd_ge (n := c / 16) (by omega); omega
      · have := hexd_ge (n := c % 16) (by omega); omega
    · omega
theorem Ty.D {a : List Int} (h : inB a) : Ty (typD a) a := by
  refine ⟨fun rest hr => ?_, ⟨34, _, rfl, by decide⟩, fun hm => ?_, fun x hx => ?_⟩
  · have e : typD a ++ rest = 34 :: (a.flatMap encD ++ 34 :: rest) := by simp [typD]
    rw [e]
    refine wd_quoted hr (.inl rfl) ?_
    rw [qd_D rest a [] 1, List.nil_append]
  · simp only [typD, List.mem_cons, List.mem_append, List.mem_flatMap, List.not_mem_nil, or_false] at hm
    rcases hm with hm | ⟨c, hc, hm⟩ | hm
    · omega
    · unfold encD at hm
      split at hm
      · simp only [List.mem_cons, List.not_mem_nil, or_false] at hm; omega
      · split at hm
        · simp only [List.mem_cons, List.not_mem_nil, or_false] at hm; omega
        · simp only [List.mem_cons, List.not_mem_nil, or_false] at hm; omega
    · omega
  · simp only [typD, List.mem_cons, List.mem_append, List.mem_flatMap, List.not_mem_nil, or_false] at hx
    rcases hx with hm | ⟨c, hc, hm⟩ | hm
    · omega
    · have := h c hc
      unfold encD at hm
      split at hm
      · simp only [List.mem_cons, List.not_mem_nil, or_false] at hm; omega
      · split at hm
        · simp only [List.mem_cons, List.not_mem_nil, or_false] at hm; omega
        · simp only [List.mem_cons, List.not_mem_nil, or_false] at hm; omega
    · omega
theorem sOk_no10 : ∀ {a : List Int}, sOk a → (10 : Int) ∉ a := by
  intro a
  induction a with
  | nil => intro _ h; cases h
  | cons c t ih =>
    intro h hm
    rcases List.mem_cons.1 hm with e | hm
    · exact h.1 e.symm
    · exact ih h.2.2 hm
theorem Ty.S {a : List Int} (h : inB a) (hs : sOk a) : Ty (typS a) a := by
  refine ⟨fun rest hr => ?_, ⟨39, _, rfl, by decide⟩, fun hm => ?_, fun x hx => ?_⟩
  · have e : typS a ++ rest = 39 :: (a.flatMap encS ++ 39 :: rest) := by simp [typS]
    rw [e]
    refine wd_quoted hr (.inr rfl) ?_
    rw [qd_S rest a [] 1 hs, List.nil_append]
  · simp only [typS, List.mem_cons, List.mem_append, List.mem_flatMap, List.not_mem_nil, or_false] at hm
    rcases hm with hm | ⟨c, hc, hm⟩ | hm
    · omega
    · unfold encS at hm
      split at hm
      · simp only [List.mem_cons, List.not_mem_nil, or_false] at hm; omega
      · simp only [List.mem_cons, List.not_mem_nil, or_false] at hm
        subst hm
        exact sOk_no10 hs hc
    · omega
  · simp only [typS, List.mem_cons, List.mem_append, List.mem_flatMap, List.not_mem_nil, or_false] at hx
    rcases hx with hm | ⟨c, hc, hm⟩ | hm
    · omega
    · have := h c hc
      unfold encS at hm
      split at hm
      · simp only [List.mem_cons, List.not_mem_nil, or_false] at hm; omega
      · simp only [List.mem_cons, List.not_mem_nil, or_false] at hm; omega
    · omega
theorem Ty.P {a : List Int} (h : inB a) (hp : plainB a = true) : Ty a a := by
  simp only [plainB, Bool.and_eq_true, decide_eq_true_eq, List.all_eq_true] at hp
  refine ⟨fun rest hr => wd_plain rest hr a [] hp.2, ?_, fun hm => by have := hp.2 _ hm; omega, h⟩
  cases a with
  | nil => exact absurd rfl hp.1
  | cons c r =>
    have := hp.2 c (List.mem_cons_self ..)
    exact ⟨c, r, rfl, by unfold LinS.blank; rw [decide_eq_false (by omega)]⟩
theorem typ_ok {a : List Int} (h : inB a) (style : Int) : Ty (typL a style) a := by
  unfold typL
  split
  · next h1 => exact Ty.P h h1.2
  · split
    · split
      · next h3 => exact Ty.S h (sOk_of h3)
      · exact Ty.X h
    · split
      · exact Ty.D h
      · exact Ty.X h
theorem typX_len (a : List Int) : (typX a).length = 4 * a.length + 2 := by
  unfold typX
  have : (a.flatMap encX).length = 4 * a.length := by
    induction a with
    | nil => rfl
    | cons c a ih => rw [List.flatMap_cons, List.length_append, ih, List.length_cons]; simp only [encX, List.length_cons, List.length_nil]; omega
  simp only [List.length_cons, List.length_append, List.length_nil, this]
/-- A line on which arguments are typed, each behind a blank. -/
theorem ln_typ : ∀ (l : List (List Int × List Int)) (out : List (List Int)), (∀ x ∈ l, Ty x.1 x.2) → ln (l.flatMap (fun x => 32 :: x.1)) out = some (out ++ l.map Prod.snd) := by
  intro l
  induction l with
  | nil => intro out _; rw [List.flatMap_nil, ln_nil, List.map_nil, List.append_nil]
  | cons x l ih =>
    intro out h
    have hx := h x (List.mem_cons_self ..)
    have hl := fun y hy => h y (List.mem_cons_of_mem _ hy)
    rw [List.flatMap_cons, List.cons_append, ln_blank _ _ (by decide)]
    obtain ⟨c, r, e, hc⟩ := hx.head
    have hg : gapped (l.flatMap (fun x => 32 :: x.1)) = true := by
      cases l with
      | nil => rfl
      | cons y l => rfl
    have hw := hx.wd _ hg
    rw [e, List.cons_append] at hw ⊢
    rw [ln_word hc hw, ih _ hl, List.map_cons, List.append_assoc]
    rfl
def setL : List Int := [83, 69, 84]
theorem setT : Ty setL setL := Ty.P (by intro x hx; simp [setL] at hx; omega) (by decide)
/-- The line: SET, and the typed ones. -/
def lineT (l : List (List Int × List Int)) : List Int := setL ++ l.flatMap (fun x => 32 :: x.1)
theorem lineT_snoc (l : List (List Int × List Int)) (x : List Int × List Int) : lineT (l ++ [x]) = lineT l ++ 32 :: x.1 := by simp [lineT]
theorem ln_line {l : List (List Int × List Int)} (h : ∀ x ∈ l, Ty x.1 x.2) : ln (lineT l) [] = some (setL :: l.map Prod.snd) := by
  have hg : gapped (l.flatMap (fun x => 32 :: x.1)) = true := by
    cases l with
    | nil => rfl
    | cons y l => rfl
  have hw := setT.wd _ hg
  unfold lineT
  rw [show setL ++ l.flatMap (fun x => 32 :: x.1) = 83 :: ([69, 84] ++ l.flatMap (fun x => 32 :: x.1)) from rfl] at hw ⊢
  rw [ln_word (by decide) hw, ln_typ l _ h]
  rfl
theorem line_line {l : List (List Int × List Int)} (h : ∀ x ∈ l, Ty x.1 x.2) (h1 : (lineT l).length ≤ 1024) (h2 : l.length ≤ 127) : LinS.line (lineT l) = (setL :: l.map Prod.snd, 0) := by
  unfold LinS.line
  rw [if_neg (by omega), ln_line h]
  dsimp only
  rw [if_neg (by rw [List.length_cons, List.length_map]; omega)]
theorem line_no10 {l : List (List Int × List Int)} (h : ∀ x ∈ l, Ty x.1 x.2) : (10 : Int) ∉ lineT l := by
  intro hm
  unfold lineT at hm
  rcases List.mem_append.1 hm with hm | hm
  · exact setT.no10 hm
  · obtain ⟨x, hx, hm⟩ := List.mem_flatMap.1 hm
    rcases List.mem_cons.1 hm with e | hm
    · omega
    · exact (h x hx).no10 hm
theorem line_in {l : List (List Int × List Int)} (h : ∀ x ∈ l, Ty x.1 x.2) : inB (lineT l) := by
  intro y hm
  unfold lineT at hm
  rcases List.mem_append.1 hm with hm | hm
  · exact setT.inb y hm
  · obtain ⟨x, hx, hm⟩ := List.mem_flatMap.1 hm
    rcases List.mem_cons.1 hm with e | hm
    · omega
    · exact (h x hx).inb y hm
/-! A line form, fed. -/
theorem run_line : ∀ (b : List Int) {p : PS}, p.st = .line → p.broken = 0 → (10 : Int) ∉ b → p.cur.length + b.length ≤ 1024 → ∃ k, ParS.run p b = { p with cur := p.cur ++ b, held := k } := by
  intro b
  induction b with
  | nil => intro p _ _ _ _; exact ⟨p.held, by rw [run_nil, List.append_nil]⟩
  | cons c b ih =>
    intro p hs hb hn hl
    rw [List.length_cons] at hl
    have hc : c ≠ 10 := fun e => hn (by rw [e]; exact List.mem_cons_self ..)
    have e1 : runB p c = { p with cur := p.cur ++ [c], held := p.held + 1 } := by
      unfold runB
      rw [if_neg (Decidable.not_not.2 hb)]
      unfold step1
      have : ParS.step { p with held := p.held + 1 } c = ({ p with cur := p.cur ++ [c], held := p.held + 1 }, 0) := by
        unfold ParS.step
        dsimp only
        rw [hs]
        dsimp only
        unfold lineB
        rw [if_pos hc, if_pos (by dsimp only; omega)]
      rw [this]
      rfl
    rw [run_cons, e1]
    obtain ⟨k, hk⟩ := ih (p := { p with cur := p.cur ++ [c], held := p.held + 1 }) hs hb (fun h => hn (List.mem_cons_of_mem _ h)) (by simp only [List.length_append, List.length_singleton]; omega)
    exact ⟨k, by rw [hk]; simp⟩
theorem run_new_line {c : Int} {b : List Int} {ws : List (List Int)} (hc : c ≠ 42) (hn : (10 : Int) ∉ c :: b) (hl : (c :: b).length ≤ 1024) (hw : LinS.line (c :: b) = (ws, 0)) (hne : ws ≠ []) : (ParS.run ParS.new (c :: b ++ [10])).out = [ws] ∧ (ParS.run ParS.new (c :: b ++ [10])).broken = 0 := by
  rw [List.length_cons] at hl
  have hc0 : c ≠ 10 := fun e => hn (by rw [e]; exact List.mem_cons_self ..)
  have e1 : runB ParS.new c = { ParS.new with st := .line, cur := [c], held := 1 } := by
    unfold runB
    rw [if_neg (by decide)]
    unfold step1
    have : ParS.step { ParS.new with held := ParS.new.held + 1 } c = ({ ParS.new with st := .line, cur := [c], held := 1 }, 0) := by
      unfold ParS.step
      show (if c = 42 then _ else lineB _ c) = _
      rw [if_neg hc]
      unfold lineB
      rw [if_pos hc0]
      rfl
    rw [this]
    rfl
  rw [List.cons_append, run_cons, e1, run_append]
  obtain ⟨k, hk⟩ := run_line b (p := { ParS.new with st := .line, cur := [c], held := 1 }) rfl rfl (fun h => hn (List.mem_cons_of_mem _ h)) (by simp only [List.length_singleton]; omega)
  rw [hk, run_cons, run_nil]
  rw [show ∀ q : PS, q.broken = 0 → runB q 10 = step1 q 10 from fun q hq => if_neg (Decidable.not_not.2 hq)]
  rotate_left
  · rfl
  unfold step1
  have hw2 : LinS.line ([c] ++ b) = (ws, 0) := hw
  have : ∀ q : PS, q.st = .line → q.cur = [c] ++ b → ParS.step q 10 = (whole { q with args := ws }, 0) := by
    intro q h1 h2
    unfold ParS.step
    rw [h1]
    dsimp only
    unfold lineB
    rw [if_neg (by decide), h2, hw2]
    rfl
  rw [this _ rfl rfl]
  dsimp only
  rw [if_neg (show ¬ (0 : Int) ≠ 0 by decide)]
  unfold whole
  dsimp only
  rw [if_neg hne]
  exact ⟨rfl, rfl⟩
end Go.Proofs.Ytfdkcnbkoagmiaa.TypS
