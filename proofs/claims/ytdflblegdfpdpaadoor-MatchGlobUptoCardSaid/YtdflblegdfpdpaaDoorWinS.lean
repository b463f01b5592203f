/- Window over whole numbers: the program's and the document's. -/
import Derived.Test.YtdflblegdfpdpaaDoorPEx1
import Derived.Test.YtdflblegdfpdpaaDoorPEx35
namespace Go.Proofs.YtdflblegdfpdpaaDoor.WinS
open Go Go.RowKit Go.Proofs.YtdflblegdfpdpaaDoorW.PrintWords Go.Proofs.YtdflblegdfpdpaaDoorW.PrintLast Go.Proofs.YtdflblegdfpdpaaDoorW.PrintMore Go.Proofs.YtdflblegdfpdpaaDoor.PE
set_option linter.unusedVariables false

def winS (I J n : Int) : Int × Int :=
  if (if I < 0 then (if I + (if n < 0 then 0 else n) < 0 then 0 else I + (if n < 0 then 0 else n)) else I) > (if (if J < 0 then J + (if n < 0 then 0 else n) else J) ≤ (if n < 0 then 0 else n) - 1 then (if J < 0 then J + (if n < 0 then 0 else n) else J) else (if n < 0 then 0 else n) - 1) then (0, 0)
  else ((if I < 0 then (if I + (if n < 0 then 0 else n) < 0 then 0 else I + (if n < 0 then 0 else n)) else I),
    (if (if J < 0 then J + (if n < 0 then 0 else n) else J) ≤ (if n < 0 then 0 else n) - 1 then (if J < 0 then J + (if n < 0 then 0 else n) else J) else (if n < 0 then 0 else n) - 1) - (if I < 0 then (if I + (if n < 0 then 0 else n) < 0 then 0 else I + (if n < 0 then 0 else n)) else I) + 1)
def i64 (x : Int) : Prop := -9223372036854775808 ≤ x ∧ x < 9223372036854775808
theorem mx_of (a b : Int) : mx a b = if a < b then b else a := by unfold mx; split <;> omega
theorem mn_of (a b : Int) : mn a b = if b < a then b else a := by unfold mn; split <;> omega
theorem w64 {x : Int} (h : i64 x) : wrap64 x = x := by obtain ⟨h1, h2⟩ := h; unfold wrap64; omega
theorem fin2 {a b c d : Int} (h1 : a = c) (h2 : b = d) : some (a, b) = some (c, d) := by rw [h1, h2]
set_option maxHeartbeats 1600000 in
theorem win_some (I J n : Int) (hI : i64 I) (hJ : i64 J) (hn : i64 n) : match_Window.f 1 I J n = some (winS I J n) := by
  obtain ⟨m, hm⟩ : ∃ m, m = (if n < 0 then 0 else n) := ⟨_, rfl⟩
  have hmx : mx n 0 = m := by rw [mx_of, hm]
  have hm0 : 0 ≤ m ∧ m < 9223372036854775808 := by rw [hm]; unfold i64 at hn; split <;> omega
  unfold match_Window.f winS
  rw [hmx, ← hm]
  unfold i64 at hI hJ
  have e1 : I < 0 → wrap64 (I + m) = I + m := fun h => w64 ⟨by omega, by omega⟩
  have e2 : J < 0 → wrap64 (J + m) = J + m := fun h => w64 ⟨by omega, by omega⟩
  have e3 : wrap64 (m - 1) = m - 1 := w64 ⟨by omega, by omega⟩
  obtain ⟨s, hs⟩ : ∃ s, s = (if I < 0 then (if I + m < 0 then 0 else I + m) else I) := ⟨_, rfl⟩
  have hs0 : 0 ≤ s ∧ s < 9223372036854775808 := by rw [hs]; split <;> (try split) <;> omega
  rw [← hs]
  have main : match_Window.j0 1 s J m = some (if s > (if (if J < 0 then J + m else J) ≤ m - 1 then (if J < 0 then J + m else J) else m - 1) then (0, 0) else (s, (if (if J < 0 then J + m else J) ≤ m - 1 then (if J < 0 then J + m else J) else m - 1) - s + 1)) := by
    simp only [match_Window.j0]
    rw [e3]
    by_cases hj : J < 0
    · rw [if_pos hj, if_pos hj, e2 hj]
      obtain ⟨e, he⟩ : ∃ e, e = (if J + m ≤ m - 1 then J + m else m - 1) := ⟨_, rfl⟩
      have hmn : mn (J + m) (m - 1) = e := by rw [mn_of, he]; split <;> split <;> omega
      have he0 : -9223372036854775808 ≤ e ∧ e ≤ m - 1 := by rw [he]; split <;> omega
      rw [hmn, ← he]
      by_cases hc : s > e
      · rw [if_pos hc, if_pos hc]
      · rw [if_neg hc, if_neg hc, w64 (x := e - s) ⟨by omega, by omega⟩, w64 ⟨by omega, by omega⟩]
    · rw [if_neg hj, if_neg hj]
      obtain ⟨e, he⟩ : ∃ e, e = (if J ≤ m - 1 then J else m - 1) := ⟨_, rfl⟩
      have hmn : mn J (m - 1) = e := by rw [mn_of, he]; split <;> split <;> omega
      have he0 : -9223372036854775808 ≤ e ∧ e ≤ m - 1 := by rw [he]; split <;> omega
      rw [hmn, ← he]
      by_cases hc : s > e
      · rw [if_pos hc, if_pos hc]
      · rw [if_neg hc, if_neg hc, w64 (x := e - s) ⟨by omega, by omega⟩, w64 ⟨by omega, by omega⟩]
  by_cases hi : I < 0
  · rw [if_pos hi, e1 hi]
    have : mx (I + m) 0 = s := by rw [mx_of, hs, if_pos hi]
    rw [this]
    exact main
  · rw [if_neg hi]
    rw [if_neg hi] at hs
    rw [← hs]
    exact main
set_option maxHeartbeats 1600000 in
theorem ref_some (I J n : Int) (hI : i64 I) (hJ : i64 J) (hn : i64 n) : larderref9_Window.f 3 I J n = some (winS I J n) := by
  unfold i64 at hI hJ hn
  unfold larderref9_Window.f winS
  by_cases h0 : n ≤ 0
  · rw [if_pos h0]
    have hm : (if n < 0 then 0 else n) = 0 := by split <;> omega
    rw [hm]
    split <;> split <;> (try split) <;> (try split) <;> (try split) <;> first | rfl | (exfalso; omega)
  · rw [if_neg h0]
    have hm : (if n < 0 then 0 else n) = n := if_neg (by omega)
    rw [hm]
    have e1 : I < 0 → wrap64 (I + n) = I + n := fun h => w64 ⟨by omega, by omega⟩
    have e2 : J < 0 → wrap64 (J + n) = J + n := fun h => w64 ⟨by omega, by omega⟩
    have e3 : wrap64 (n - 1) = n - 1 := w64 ⟨by omega, by omega⟩
    obtain ⟨s, hs⟩ : ∃ s, s = (if I < 0 then (if I + n < 0 then 0 else I + n) else I) := ⟨_, rfl⟩
    have hs0 : 0 ≤ s ∧ s < 9223372036854775808 := by rw [hs]; split <;> (try split) <;> omega
    rw [← hs]
    have last : ∀ e0 : Int, -9223372036854775808 ≤ e0 → e0 < 9223372036854775808 → larderref9_Window.j2 1 s e0 n = some (if s > (if e0 ≤ n - 1 then e0 else n - 1) then (0, 0) else (s, (if e0 ≤ n - 1 then e0 else n - 1) - s + 1)) := by
      intro e0 h1 h2
      simp only [larderref9_Window.j2]
      rw [e3]
      by_cases hc : e0 ≥ n
      · have he : (if e0 ≤ n - 1 then e0 else n - 1) = n - 1 := if_neg (by omega)
        rw [if_pos hc, he]
        by_cases hd : s > n - 1
        · rw [if_pos hd, if_pos hd]
        · rw [if_neg hd, if_neg hd, if_neg (by omega), w64 (x := n - 1 - s) ⟨by omega, by omega⟩, w64 ⟨by omega, by omega⟩]
      · have he : (if e0 ≤ n - 1 then e0 else n - 1) = e0 := if_pos (by omega)
        rw [if_neg hc, he]
        by_cases hd : s > e0
        · rw [if_pos hd, if_pos hd]
        · rw [if_neg hd, if_neg hd, if_neg (by omega), w64 (x := e0 - s) ⟨by omega, by omega⟩, w64 ⟨by omega, by omega⟩]
    have mid : larderref9_Window.j1 2 s J n = some (if s > (if (if J < 0 then J + n else J) ≤ n - 1 then (if J < 0 then J + n else J) else n - 1) then (0, 0) else (s, (if (if J < 0 then J + n else J) ≤ n - 1 then (if J < 0 then J + n else J) else n - 1) - s + 1)) := by
      simp only [larderref9_Window.j1]
      by_cases hj : J < 0
      · rw [if_pos hj, if_pos hj, e2 hj]
        exact last _ (by omega) (by omega)
      · rw [if_neg hj, if_neg hj]
        exact last _ (by omega) (by omega)
    have fst : ∀ x, (x < 0 → s = 0) → (¬ x < 0 → s = x) → larderref9_Window.j0 3 x J n = larderref9_Window.j1 2 s J n := by
      intro x h1 h2
      simp only [larderref9_Window.j0]
      by_cases hx : x < 0
      · rw [if_pos hx, h1 hx]
      · rw [if_neg hx, h2 hx]
    by_cases hi : I < 0
    · rw [if_pos hi, e1 hi, fst _ (fun h => by rw [hs, if_pos hi, if_pos h]) (fun h => by rw [hs, if_pos hi, if_neg h])]
      exact mid
    · rw [if_neg hi, fst _ (fun h => by omega) (fun h => by rw [hs, if_neg hi])]
      exact mid
/-- What a law by elements asks. -/
theorem win_in (I J n : Int) (hn : 0 ≤ n) : ∃ f c : Int, winS I J n = (f, c) ∧ 0 ≤ f ∧ 0 ≤ c ∧ (c = 0 → f = 0) ∧ f + c ≤ n ∧ ∀ i, 0 ≤ i → i < n → ((f ≤ i ∧ i < f + c) ↔ (¬ (0 ≤ I ∧ i < I ∨ I < 0 ∧ i - n < I) ∧ ¬ (0 ≤ J ∧ J < i ∨ J < 0 ∧ J < i - n))) := by
  unfold winS
  have hm : (if n < 0 then 0 else n) = n := if_neg (by omega)
  rw [hm]
  obtain ⟨s, hs⟩ : ∃ s, s = (if I < 0 then (if I + n < 0 then 0 else I + n) else I) := ⟨_, rfl⟩
  obtain ⟨e0, he0⟩ : ∃ e0, e0 = (if J < 0 then J + n else J) := ⟨_, rfl⟩
  rw [← hs, ← he0]
  obtain ⟨e, he⟩ : ∃ e, e = (if e0 ≤ n - 1 then e0 else n - 1) := ⟨_, rfl⟩
  rw [← he]
  have h1 : I < 0 → I + n < 0 → s = 0 := fun a b => by rw [hs, if_pos a, if_pos b]
  have h2 : I < 0 → ¬ I + n < 0 → s = I + n := fun a b => by rw [hs, if_pos a, if_neg b]
  have h3 : ¬ I < 0 → s = I := fun a => by rw [hs, if_neg a]
  have h4 : J < 0 → e0 = J + n := fun a => by rw [he0, if_pos a]
  have h5 : ¬ J < 0 → e0 = J := fun a => by rw [he0, if_neg a]
  have h6 : e0 ≤ n - 1 → e = e0 := fun a => by rw [he, if_pos a]
  have h7 : ¬ e0 ≤ n - 1 → e = n - 1 := fun a => by rw [he, if_neg a]
  clear hs he0 he hm
  by_cases hc : s > e
  · rw [if_pos hc]
    exact ⟨0, 0, rfl, by omega, by omega, fun _ => rfl, by omega, fun i hi1 hi2 => by omega⟩
  · rw [if_neg hc]
    exact ⟨_, _, rfl, by omega, by omega, by omega, by omega, fun i hi1 hi2 => by omega⟩
end Go.Proofs.YtdflblegdfpdpaaDoor.WinS
