/- Layer 8: a line's words, in plain words; how arguments may be typed. No program. -/
import Derived.RowKit
namespace Go.Proofs.Ytfdkcnbkoagmiaa.LinS
set_option linter.unusedVariables false

def blank (c : Int) : Bool := decide (9 ≤ c ∧ c ≤ 13 ∨ c = 32)
def hexv (c : Int) : Int := if 48 ≤ c ∧ c ≤ 57 then c - 48 else if 97 ≤ c ∧ c ≤ 102 then c - 97 + 10 else if 65 ≤ c ∧ c ≤ 70 then c - 65 + 10 else -1
/-- What stands behind a backslash (d, and r behind it): the byte, and how many bytes it takes. -/
def esc (d : Int) (r : List Int) : Int × Nat :=
  if d = 110 then (10, 1) else if d = 114 then (13, 1) else if d = 116 then (9, 1) else if d = 98 then (8, 1) else if d = 97 then (7, 1) else
  if d = 120 then (match r with | h :: l :: _ => if 0 ≤ hexv h ∧ 0 ≤ hexv l then (hexv h * 16 + hexv l, 3) else (d, 1) | _ => (d, 1))
  else (d, 1)
theorem esc_pos (d : Int) (r : List Int) : 1 ≤ (esc d r).2 ∧ (esc d r).2 ≤ 3 := by
  unfold esc
  repeat' split
  all_goals simp
theorem esc_len (d : Int) (r : List Int) : (esc d r).2 ≤ r.length + 1 := by
  unfold esc
  repeat' split
  all_goals simp
/-- The inside of a quoted part, from l on; w: what it said so far; i: how many bytes are taken. -/
def qd (q : Int) (l w : List Int) (i : Nat) : Option (List Int × Nat) :=
  match l with
  | [] => none
  | c :: r =>
    if c = q then some (w, i + 1)
    else if c ≠ 92 then qd q r (w ++ [c]) (i + 1)
    else match r with
      | [] => none
      | d :: s =>
        if q = 39 then (if d = 39 then qd q s (w ++ [39]) (i + 2) else qd q (d :: s) (w ++ [92]) (i + 1))
        else qd q (s.drop ((esc d s).2 - 1)) (w ++ [(esc d s).1]) (i + 1 + (esc d s).2)
termination_by l.length
decreasing_by all_goals (simp_wf; try omega)
theorem qd_le (q : Int) : ∀ (n : Nat) (l w : List Int) (i : Nat) (p : List Int) (k : Nat), l.length ≤ n → qd q l w i = some (p, k) → i < k ∧ k ≤ i + l.length ∧ w.length ≤ p.length ∧ p.length + i < w.length + k := by
  intro n
  induction n with
  | zero => intro l w i p k hl h; obtain rfl : l = [] := List.length_eq_zero_iff.1 (by omega); simp [qd] at h
  | succ n ih =>
    intro l w i p k hl h
    cases l with
    | nil => simp [qd] at h
    | cons c r =>
      simp only [List.length_cons] at hl ⊢
      rw [qd.eq_def] at h
      dsimp only at h
      split at h
      · obtain ⟨rfl, rfl⟩ : w = p ∧ i + 1 = k := by simpa using h
        refine ⟨by omega, by omega, Nat.le_refl _, by omega⟩
      · split at h
        · have := ih r _ _ p k (by omega) h
          simp only [List.length_append, List.length_singleton] at this
          omega
        · split at h
          · cases h
          · next d s =>
            simp only [List.length_cons] at hl ⊢
            split at h
            · split at h
              · have := ih s _ _ p k (by omega) h
                simp only [List.length_append, List.length_singleton] at this
                omega
              · have := ih (d :: s) _ _ p k (by simp only [List.length_cons]; omega) h
                simp only [List.length_append, List.length_cons, List.length_nil] at this
                omega
            · have hp := esc_pos d s
              have hq := esc_len d s
              have := ih _ _ _ p k (by rw [List.length_drop]; omega) h
              simp only [List.length_append, List.length_cons, List.length_nil, List.length_drop] at this
              omega
/-- Does the text end here, or a blank follow? -/
def gapped (l : List Int) : Bool := match l with | [] => true | d :: _ => blank d
/-- A word from l on (w: what it holds so far): the word and what is behind it. -/
def wd (l w : List Int) : Option (List Int × List Int) :=
  match l with
  | [] => some (w, [])
  | c :: r =>
    if blank c then some (w, c :: r)
    else if c ≠ 34 ∧ c ≠ 39 then wd r (w ++ [c])
    else match qd c r [] 1 with
      | none => none
      | some (p, n) => if gapped ((c :: r).drop n) then some (w ++ p, (c :: r).drop n) else none
theorem wd_le : ∀ (l w p rest : List Int), wd l w = some (p, rest) → rest.length ≤ l.length ∧ p.length ≤ w.length + l.length ∧ gapped rest = true ∧ ((∃ c r, l = c :: r ∧ blank c = false) → rest.length < l.length) := by
  intro l
  induction l with
  | nil =>
    intro w p rest h
    obtain ⟨rfl, rfl⟩ : w = p ∧ [] = rest := by simpa [wd] using h
    exact ⟨Nat.le_refl _, by simp, rfl, fun ⟨c, r, e, _⟩ => by cases e⟩
  | cons c r ih =>
    intro w p rest h
    rw [wd] at h
    simp only [List.length_cons]
    split at h
    · next hb =>
      obtain ⟨rfl, rfl⟩ : w = p ∧ c :: r = rest := by simpa using h
      exact ⟨by simp, by omega, hb, fun ⟨c', r', e, hc⟩ => by cases e; rw [hc] at hb; cases hb⟩
    · split at h
      · obtain ⟨h1, h2, h3, _⟩ := ih _ _ _ h
        simp only [List.length_append, List.length_singleton] at h2
        exact ⟨by omega, by omega, h3, fun _ => by omega⟩
      · split at h
        · cases h
        · next p' n hq =>
          have hl := qd_le c r.length r [] 1 p' n (Nat.le_refl _) hq
          simp only [List.length_nil] at hl
          split at h
          · next hg =>
            obtain ⟨rfl, rfl⟩ : w ++ p' = p ∧ (c :: r).drop n = rest := by simpa using h
            simp only [List.length_drop, List.length_cons, List.length_append]
            exact ⟨by omega, by omega, hg, fun _ => by omega⟩
          · cases h
/-- The words from l on, behind out. -/
def ln (l : List Int) (out : List (List Int)) : Option (List (List Int)) :=
  match l with
  | [] => some out
  | c :: r =>
    if hb : blank c = true then ln r out
    else match h : wd (c :: r) [] with
      | none => none
      | some (w, rest) => ln rest (out ++ [w])
termination_by l.length
decreasing_by
  · simp
  · exact (wd_le _ _ _ _ h).2.2.2 ⟨c, r, rfl, by simpa using hb⟩
theorem ln_nil (out : List (List Int)) : ln [] out = some out := by rw [ln]
theorem ln_blank {c : Int} (r : List Int) (out : List (List Int)) (h : blank c = true) : ln (c :: r) out = ln r out := by rw [ln]; simp [h]
theorem ln_none {c : Int} {r : List Int} {out : List (List Int)} (h : blank c = false) (hw : wd (c :: r) [] = none) : ln (c :: r) out = none := by
  rw [ln]
  simp only [h, Bool.false_eq_true, dite_false]
  split
  · rfl
  · next he => rw [hw] at he; cases he
theorem ln_word {c : Int} {r : List Int} {out : List (List Int)} {w rest : List Int} (h : blank c = false) (hw : wd (c :: r) [] = some (w, rest)) : ln (c :: r) out = ln rest (out ++ [w]) := by
  rw [ln]
  simp only [h, Bool.false_eq_true, dite_false]
  split
  · next he => rw [hw] at he; cases he
  · next he => rw [hw] at he; cases he; rfl
/-- Line: its words, its error. -/
def line (b : List Int) : List (List Int) × Int :=
  if 1024 < b.length then ([], 83) else match ln b [] with
    | none => ([], 84)
    | some out => if 128 < out.length then ([], 83) else (out, 0)

/-! How arguments are typed. -/
def hexd (n : Int) : Int := if n < 10 then 48 + n else 87 + n
def encX (c : Int) : List Int := [92, 120, hexd (c / 16), hexd (c % 16)]
def encD (c : Int) : List Int := if c = 34 ∨ c = 92 then [92, c] else if c = 10 then [92, 110] else [c]
def encS (c : Int) : List Int := if c = 39 then [92, 39] else [c]
def inB (l : List Int) : Prop := ∀ c ∈ l, 0 ≤ c ∧ c < 256
theorem hexv_hexd {n : Int} (h : 0 ≤ n ∧ n < 16) : hexv (hexd n) = n := by
  unfold hexv hexd
  split <;> (repeat' split) <;> omega
theorem hexd_ge {n : Int} (h : 0 ≤ n ∧ n < 16) : 48 ≤ hexd n ∧ hexd n < 127 := by
  unfold hexd
  split <;> omega
theorem qd_X (rest : List Int) : ∀ (a w : List Int) (i : Nat), inB a → qd 34 (a.flatMap encX ++ 34 :: rest) w i = some (w ++ a, i + (a.flatMap encX).length + 1) := by
  intro a
  induction a with
  | nil => intro w i _; rw [List.flatMap_nil, List.nil_append, qd.eq_def]; simp
  | cons c a ih =>
    intro w i h
    have hc := h c (List.mem_cons_self ..)
    have hh : 0 ≤ c / 16 ∧ c / 16 < 16 := by omega
    have hl : 0 ≤ c % 16 ∧ c % 16 < 16 := by omega
    rw [List.flatMap_cons]
    have e : (encX c ++ a.flatMap encX) ++ 34 :: rest = 92 :: 120 :: hexd (c / 16) :: hexd (c % 16) :: (a.flatMap encX ++ 34 :: rest) := by simp [encX]
    have ee : esc 120 (hexd (c / 16) :: hexd (c % 16) :: (a.flatMap encX ++ 34 :: rest)) = (c, 3) := by
      unfold esc
      rw [if_neg (by decide), if_neg (by decide), if_neg (by decide), if_neg (by decide), if_neg (by decide), if_pos rfl]
      dsimp only
      rw [hexv_hexd hh, hexv_hexd hl, if_pos ⟨hh.1, hl.1⟩]
      simp only [Prod.mk.injEq, and_true]
      omega
    rw [e, qd.eq_def]
    dsimp only
    rw [if_neg (by decide), if_neg (by decide), if_neg (by decide), ee]
    dsimp only
    rw [show (hexd (c / 16) :: hexd (c % 16) :: (a.flatMap encX ++ 34 :: rest)).drop (3 - 1) = a.flatMap encX ++ 34 :: rest from rfl, ih _ _ (fun x hx => h x (List.mem_cons_of_mem _ hx))]
    simp only [List.append_assoc, List.singleton_append, List.length_append, Option.some.injEq, Prod.mk.injEq, true_and, encX, List.length_cons, List.length_nil]
    omega
theorem qd_D (rest : List Int) : ∀ (a w : List Int) (i : Nat), qd 34 (a.flatMap encD ++ 34 :: rest) w i = some (w ++ a, i + (a.flatMap encD).length + 1) := by
  intro a
  induction a with
  | nil => intro w i; rw [List.flatMap_nil, List.nil_append, qd.eq_def]; simp
  | cons c a ih =>
    intro w i
    rw [List.flatMap_cons]
    by_cases h1 : c = 34 ∨ c = 92
    · have e : (encD c ++ a.flatMap encD) ++ 34 :: rest = 92 :: c :: (a.flatMap encD ++ 34 :: rest) := by simp [encD, h1]
      have ee : esc c (a.flatMap encD ++ 34 :: rest) = (c, 1) := by
        unfold esc
        rcases h1 with rfl | rfl <;> rfl
      rw [e, qd.eq_def]
      dsimp only
      rw [if_neg (by decide), if_neg (by decide), if_neg (by decide), ee]
      dsimp only
      rw [Nat.sub_self, List.drop_zero, ih]
      simp only [List.append_assoc, List.singleton_append, List.length_append, Option.some.injEq, Prod.mk.injEq, true_and, encD, if_pos h1, List.length_cons, List.length_nil]
      omega
    · by_cases h2 : c = 10
      · subst h2
        have e : (encD 10 ++ a.flatMap encD) ++ 34 :: rest = 92 :: 110 :: (a.flatMap encD ++ 34 :: rest) := by simp [encD]
        rw [e, qd.eq_def]
        dsimp only
        rw [if_neg (by decide), if_neg (by decide), if_neg (by decide), show esc 110 (a.flatMap encD ++ 34 :: rest) = (10, 1) from rfl]
        dsimp only
        rw [Nat.sub_self, List.drop_zero, ih]
        simp only [List.append_assoc, List.singleton_append, List.length_append, Option.some.injEq, Prod.mk.injEq, true_and, show encD 10 = [92, 110] from rfl, List.length_cons, List.length_nil]
        omega
      · have he : encD c = [c] := by simp [encD, h1, h2]
        rw [he, List.singleton_append, List.cons_append, qd.eq_def]
        dsimp only
        rw [if_neg (fun h => h1 (.inl h)), if_pos (fun h => h1 (.inr h)), ih]
        simp only [List.append_assoc, List.singleton_append, Option.some.injEq, Prod.mk.injEq, true_and, List.length_cons]
        omega
/-- May it stand in single quotes? -/
def sOk : List Int → Prop
  | [] => True
  | c :: t => c ≠ 10 ∧ (c = 92 → ∃ d u, t = d :: u ∧ d ≠ 39) ∧ sOk t
theorem qd_S (rest : List Int) : ∀ (a w : List Int) (i : Nat), sOk a → qd 39 (a.flatMap encS ++ 39 :: rest) w i = some (w ++ a, i + (a.flatMap encS).length + 1) := by
  intro a
  induction a with
  | nil => intro w i _; rw [List.flatMap_nil, List.nil_append, qd.eq_def]; simp
  | cons c a ih =>
    intro w i h
    rw [List.flatMap_cons]
    by_cases h1 : c = 39
    · subst h1
      have e : (encS 39 ++ a.flatMap encS) ++ 39 :: rest = 92 :: 39 :: (a.flatMap encS ++ 39 :: rest) := by simp [encS]
      rw [e, qd.eq_def]
      dsimp only
      rw [if_neg (by decide), if_neg (by decide), if_pos rfl, if_pos rfl, ih _ _ h.2.2]
      simp only [List.append_assoc, List.singleton_append, List.length_append, Option.some.injEq, Prod.mk.injEq, true_and, show encS 39 = [92, 39] from rfl, List.length_cons, List.length_nil]
      omega
    · have he : encS c = [c] := by simp [encS, h1]
      rw [he, List.singleton_append, List.cons_append]
      by_cases h2 : c = 92
      · subst h2
        obtain ⟨d, u, rfl, hd⟩ := h.2.1 rfl
        have hi := ih (w ++ [92]) (i + 1) h.2.2
        have he' : encS d = [d] := by simp [encS, hd]
        rw [List.flatMap_cons, he', List.singleton_append, List.cons_append] at hi ⊢
        rw [qd.eq_def]
        dsimp only
        rw [if_neg (by decide), if_neg (by decide), if_pos rfl, if_neg hd, hi]
        simp only [List.append_assoc, List.singleton_append, Option.some.injEq, Prod.mk.injEq, true_and, List.length_cons]
        omega
      · rw [qd.eq_def]
        dsimp only
        rw [if_neg h1, if_pos h2, ih _ _ h.2.2]
        simp only [List.append_assoc, List.singleton_append, Option.some.injEq, Prod.mk.injEq, true_and, List.length_cons]
        omega
theorem wd_plain (rest : List Int) (hr : gapped rest = true) : ∀ (a w : List Int), (∀ c ∈ a, 32 < c ∧ c ≠ 34 ∧ c ≠ 39) → wd (a ++ rest) w = some (w ++ a, rest) := by
  intro a
  induction a with
  | nil =>
    intro w _
    rw [List.nil_append, List.append_nil]
    cases rest with
    | nil => rfl
    | cons c r => rw [wd]; simp only [gapped] at hr; simp [hr]
  | cons c a ih =>
    intro w h
    have hc := h c (List.mem_cons_self ..)
    rw [List.cons_append, wd, if_neg (by simp only [blank, decide_eq_true_eq]; omega), if_pos ⟨hc.2.1, hc.2.2⟩, ih _ (fun x hx => h x (List.mem_cons_of_mem _ hx))]
    simp
theorem wd_quoted {q : Int} {e rest a : List Int} (hr : gapped rest = true) (hq : q = 34 ∨ q = 39) (h : qd q (e ++ q :: rest) [] 1 = some (a, 1 + e.length + 1)) : wd (q :: (e ++ q :: rest)) [] = some (a, rest) := by
  have hd : (q :: (e ++ q :: rest)).drop (1 + e.length + 1) = rest := by
    rw [show 1 + e.length + 1 = (e.length + 1) + 1 by omega, List.drop_succ_cons, show e ++ q :: rest = (e ++ [q]) ++ rest by simp, List.drop_append_of_le_length (by simp), List.drop_of_length_le (by simp), List.nil_append]
  rw [wd, if_neg (by rcases hq with rfl | rfl <;> decide), if_neg (by rcases hq with rfl | rfl <;> decide), h]
  dsimp only
  rw [hd, if_pos hr, List.nil_append]
end Go.Proofs.Ytfdkcnbkoagmiaa.LinS
