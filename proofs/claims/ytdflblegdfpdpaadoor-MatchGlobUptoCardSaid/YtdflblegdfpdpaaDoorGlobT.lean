/- The walk with one star to go back to says whether a text fits. No program. -/
import Derived.Test.YtdflblegdfpdpaaDoorGlobS
namespace Go.Proofs.YtdflblegdfpdpaaDoor.GlobT
open Go.Proofs.YtdflblegdfpdpaaDoor.GlobS
set_option linter.unusedVariables false

variable {l : List Pc} {t : List Int} {i j f : Nat} {s : Int}

theorem drop_at {α : Type} {l : List α} {i : Nat} {p : α} (h : l[i]? = some p) : l.drop i = p :: l.drop (i + 1) := by
  obtain ⟨hi, hp⟩ := List.getElem?_eq_some_iff.1 h
  rw [List.drop_eq_getElem_cons hi, hp]

/-- Where the walk stands. -/
structure Inv (l : List Pc) (t : List Int) (i j : Nat) (s : Int) (f : Nat) : Prop where
  hi : i ≤ l.length
  hj : j ≤ t.length
  hf : f ≤ t.length
  hlo : -1 ≤ s
  hhi : s < l.length
  hn : s < 0 → fits l t = fits (l.drop i) (t.drop j)
  hs : ∀ n : Nat, s = n → n < i ∧ f + (i - (n + 1)) = j ∧ (∃ p, l[n]? = some p ∧ p.star = true) ∧ fits l t = fits (l.drop n) (t.drop f) ∧ fits (l.drop (n + 1)) (t.drop f) = fits (l.drop i) (t.drop j) ∧ ∀ k p, n < k → k < i → l[k]? = some p → p.star = false

theorem Inv.start (l : List Pc) (t : List Int) : Inv l t 0 0 (-1) 0 := ⟨by omega, by omega, by omega, by omega, by omega, fun _ => rfl, fun n h => by omega⟩

theorem Inv.go (h : Inv l t i j s f) {p : Pc} {c : Int} (hp : l[i]? = some p) (hst : p.star = false) (hc : t[j]? = some c) (hh : has p.set c.toNat = true) : Inv l t (i + 1) (j + 1) s f := by
  obtain ⟨hi, _⟩ := List.getElem?_eq_some_iff.1 hp
  obtain ⟨hj, _⟩ := List.getElem?_eq_some_iff.1 hc
  have e : fits (l.drop i) (t.drop j) = fits (l.drop (i + 1)) (t.drop (j + 1)) := by
    rw [drop_at hp, drop_at hc, fits_set hst, hh, Bool.true_and]
  refine ⟨by omega, by omega, h.hf, h.hlo, h.hhi, fun h0 => ?_, fun n h0 => ?_⟩
  · rw [h.hn h0, e]
  · obtain ⟨h1, h2, h3, h4, h5, h6⟩ := h.hs n h0
    refine ⟨by omega, by omega, h3, h4, by rw [h5, e], fun k q hk1 hk2 hq => ?_⟩
    by_cases hk : k = i
    · subst hk
      rw [hp] at hq
      injection hq with hq
      rw [← hq]; exact hst
    · exact h6 k q hk1 (by omega) hq

theorem star_cons (h : ∃ p, l[i]? = some p ∧ p.star = true) (t : List Int) : fits (l.drop i) t = true ↔ ∃ k, k ≤ t.length ∧ fits (l.drop (i + 1)) (t.drop k) = true := by
  obtain ⟨p, hp, hs⟩ := h
  rw [drop_at hp]
  exact fits_star hs

theorem Inv.miss (h : Inv l t i j s f) (hd : fits (l.drop i) (t.drop j) = false) (h0 : s < 0 ∨ f = t.length) : fits l t = false := by
  by_cases hs : s < 0
  · rw [h.hn hs, hd]
  · obtain ⟨n, rfl⟩ := Int.eq_ofNat_of_zero_le (show 0 ≤ s by omega)
    obtain ⟨h1, h2, h3, h4, h5, h6⟩ := h.hs n rfl
    have hf : f = t.length := by omega
    rw [h4, Bool.eq_false_iff]
    intro hc
    obtain ⟨k, hk, hk2⟩ := (star_cons h3 _).1 hc
    rw [List.length_drop] at hk
    have : k = 0 := by omega
    subst this
    rw [List.drop_zero, h5, hd] at hk2
    cases hk2
theorem Inv.back {n : Nat} (h : Inv l t i j n f) (hd : fits (l.drop i) (t.drop j) = false) (hf : f < t.length) : Inv l t (n + 1) (f + 1) n (f + 1) := by
  obtain ⟨h1, h2, h3, h4, h5, h6⟩ := h.hs n rfl
  have e : fits (l.drop n) (t.drop f) = fits (l.drop n) (t.drop (f + 1)) := by
    rw [Bool.eq_iff_iff, star_cons h3, star_cons h3]
    constructor
    · rintro ⟨k, hk, hk2⟩
      rw [List.length_drop] at hk
      cases k with
      | zero => rw [List.drop_zero, h5, hd] at hk2; cases hk2
      | succ k =>
        refine ⟨k, by rw [List.length_drop]; omega, ?_⟩
        rw [List.drop_drop] at hk2 ⊢
        rwa [show f + 1 + k = f + (k + 1) by omega]
    · rintro ⟨k, hk, hk2⟩
      rw [List.length_drop] at hk
      refine ⟨k + 1, by rw [List.length_drop]; omega, ?_⟩
      rw [List.drop_drop] at hk2 ⊢
      rwa [show f + (k + 1) = f + 1 + k by omega]
  have := h.hi
  refine ⟨by omega, by omega, by omega, h.hlo, h.hhi, fun h0 => by omega, fun m hm => ?_⟩
  obtain rfl : n = m := by omega
  exact ⟨by omega, by omega, h3, by rw [h4, e], rfl, fun k q hk1 hk2 => by omega⟩
theorem Inv.done (h : Inv l t i j s f) (h1 : i = l.length) (h2 : j = t.length) : fits l t = true := by
  have e : fits (l.drop i) (t.drop j) = true := by subst h1 h2; simp [fits]
  by_cases hs : s < 0
  · rw [h.hn hs, e]
  · obtain ⟨n, rfl⟩ := Int.eq_ofNat_of_zero_le (show 0 ≤ s by omega)
    obtain ⟨h1, h2, h3, h4, h5, h6⟩ := h.hs n rfl
    rw [h4, star_cons h3]
    exact ⟨0, by omega, by rw [List.drop_zero, h5, e]⟩
/-- Single bytes take one byte each. -/
theorem singles : ∀ (m a b : Nat), (∀ k p, a ≤ k → k < a + m → l[k]? = some p → p.star = false) → a + m ≤ l.length → b ≤ t.length → fits (l.drop a) (t.drop b) = true → b + m ≤ t.length ∧ fits (l.drop (a + m)) (t.drop (b + m)) = true := by
  intro m
  induction m with
  | zero => intro a b _ _ h2 h3; exact ⟨h2, h3⟩
  | succ m ih =>
    intro a b h1 h2 h3 h4
    have ha : l[a]? = some l[a] := List.getElem?_eq_getElem (by omega)
    have hs := h1 a _ (Nat.le_refl _) (by omega) ha
    rw [drop_at ha] at h4
    by_cases hb : b < t.length
    · have hc : t[b]? = some t[b] := List.getElem?_eq_getElem hb
      rw [drop_at hc, fits_set hs, Bool.and_eq_true] at h4
      obtain ⟨q1, q2⟩ := ih (a + 1) (b + 1) (fun k p hk1 hk2 hp => h1 k p (by omega) (by omega) hp) (by omega) (by omega) h4.2
      rw [show a + 1 + m = a + (m + 1) by omega, show b + 1 + m = b + (m + 1) by omega] at q2
      exact ⟨by omega, q2⟩
    · rw [show t.drop b = [] from List.drop_eq_nil_of_le (by omega), fits_set_nil hs] at h4
      cases h4
theorem Inv.star (h : Inv l t i j s f) {p : Pc} (hp : l[i]? = some p) (hst : p.star = true) : Inv l t (i + 1) j i j := by
  obtain ⟨hi, _⟩ := List.getElem?_eq_some_iff.1 hp
  refine ⟨by omega, h.hj, h.hj, by omega, by omega, fun h0 => by omega, fun m hm => ?_⟩
  obtain rfl : i = m := by omega
  refine ⟨by omega, by omega, ⟨p, hp, hst⟩, ?_, rfl, fun k q hk1 hk2 => by omega⟩
  by_cases hs : s < 0
  · exact h.hn hs
  · obtain ⟨n, rfl⟩ := Int.eq_ofNat_of_zero_le (show 0 ≤ s by omega)
    obtain ⟨h1, h2, h3, h4, h5, h6⟩ := h.hs n rfl
    have hj := h.hj
    rw [h4, Bool.eq_iff_iff, star_cons h3]
    constructor
    · rintro ⟨k, hk, hk2⟩
      rw [List.length_drop] at hk
      rw [List.drop_drop] at hk2
      obtain ⟨q1, q2⟩ := singles (i - (n + 1)) (n + 1) (f + k) (fun a p ha1 ha2 hp => h6 a p (by omega) (by omega) hp) (by omega) (by have := h.hf; omega) hk2
      rw [show n + 1 + (i - (n + 1)) = i by omega] at q2
      obtain ⟨k2, hk3, hk4⟩ := (star_cons ⟨p, hp, hst⟩ _).1 q2
      rw [List.length_drop] at hk3
      rw [List.drop_drop] at hk4
      refine (star_cons ⟨p, hp, hst⟩ _).2 ⟨k + k2, by rw [List.length_drop]; omega, ?_⟩
      rw [List.drop_drop]
      rwa [show j + (k + k2) = f + k + (i - (n + 1)) + k2 by omega]
    · intro hk
      exact ⟨0, by omega, by rw [List.drop_zero, h5, hk]⟩
/-- A set in which nothing is: no text fits. -/
theorem fits_none : ∀ (l : List Pc) (t : List Int) (p : Pc), p ∈ l → p.star = false → p.set = noneQ → fits l t = false := by
  intro l
  induction l with
  | nil => intro t p hp; cases hp
  | cons q l ih =>
    intro t p hp hs hq
    rcases List.mem_cons.1 hp with rfl | hp
    · cases t with
      | nil => exact fits_set_nil hs
      | cons c t => rw [fits_set hs, hq, has_noneQ, Bool.false_and]
    · rw [Bool.eq_false_iff]
      intro hc
      by_cases hqs : q.star = true
      · obtain ⟨k, _, hk⟩ := (fits_star hqs).1 hc
        rw [ih _ p hp hs hq] at hk
        cases hk
      · have hqs : q.star = false := by simpa using hqs
        cases t with
        | nil => rw [fits_set_nil hqs] at hc; cases hc
        | cons c t => rw [fits_set hqs, ih _ p hp hs hq, Bool.and_false] at hc; cases hc
end Go.Proofs.YtdflblegdfpdpaaDoor.GlobT
