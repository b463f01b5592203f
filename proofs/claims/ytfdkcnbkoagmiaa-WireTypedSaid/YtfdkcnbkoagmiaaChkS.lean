/- Layer 8: a stream in pieces, in plain words. No program. -/
import Derived.Test.YtfdkcnbkoagmiaaParS
namespace Go.Proofs.Ytfdkcnbkoagmiaa.ChkS
open Go.Proofs.Ytfdkcnbkoagmiaa.LinS Go.Proofs.Ytfdkcnbkoagmiaa.ParS
set_option linter.unusedVariables false

def ping : List Int := [42, 49, 13, 10, 36, 52, 13, 10, 80, 73, 78, 71, 13, 10]
/-- A cut, modulo 64. -/
def win (k : Int) : Int := Int.tmod (Int.tmod k 64 + 64) 64
theorem win_le (k : Int) : 0 ≤ win k ∧ win k < 64 := by
  have h1 : -(64 : Int) < Int.tmod k 64 := Int.lt_tmod_of_pos k (by decide)
  exact ⟨Int.tmod_nonneg _ (by omega), Int.tmod_lt_of_pos _ (by decide)⟩
/-- Piece behind piece: the parser, all that is told, the errors. -/
def fedL (p : PS) (d : List Int) : List Int → PS × List (List (List Int)) × List Int
  | [] => (feed p d, (run p d).out, [(run p d).broken])
  | k :: ks =>
    let n := min (win k).toNat d.length
    let r := fedL (feed p (d.take n)) (d.drop n) ks
    (r.1, (run p (d.take n)).out ++ r.2.1, (run p (d.take n)).broken :: r.2.2)
theorem fedL_is : ∀ (ks : List Int) (p : PS) (d : List Int), (fedL p d ks).1 = feed p d ∧ (fedL p d ks).2.1 = (run p d).out ∧ (fedL p d ks).2.2.length = ks.length + 1 ∧ (fedL p d ks).2.2[ks.length]? = some (run p d).broken := by
  intro ks
  induction ks with
  | nil => intro p d; exact ⟨rfl, rfl, rfl, rfl⟩
  | cons k ks ih =>
    intro p d
    have h := ih (feed p (d.take (min (win k).toNat d.length))) (d.drop (min (win k).toNat d.length))
    have e : d.take (min (win k).toNat d.length) ++ d.drop (min (win k).toNat d.length) = d := List.take_append_drop ..
    refine ⟨?_, ?_, ?_, ?_⟩
    · show (fedL _ _ ks).1 = _
      rw [h.1, ← feed_append, e]
    · show (run p _).out ++ (fedL _ _ ks).2.1 = _
      rw [h.2.1, ← run_out, e]
    · show ((run p _).broken :: (fedL _ _ ks).2.2).length = _
      rw [List.length_cons, h.2.2.1, List.length_cons]
    · show ((run p _).broken :: (fedL _ _ ks).2.2)[ks.length + 1]? = _
      rw [List.getElem?_cons_succ, h.2.2.2]
      show some (feed (feed p _) _).broken = _
      rw [← feed_append, e]
      rfl
/-- Once refused, refused by the same error. -/
theorem fedL_chain : ∀ (ks : List Int) (p : PS) (d : List Int) (i : Nat) (a b : Int), (fedL p d ks).2.2[i]? = some a → (fedL p d ks).2.2[i + 1]? = some b → a ≠ 0 → b = a := by
  intro ks
  induction ks with
  | nil => intro p d i a b h1 h2 _; simp [fedL] at h2
  | cons k ks ih =>
    intro p d i a b h1 h2 ha
    have h1' : ((run p (d.take (min (win k).toNat d.length))).broken :: (fedL (feed p (d.take (min (win k).toNat d.length))) (d.drop (min (win k).toNat d.length)) ks).2.2)[i]? = some a := h1
    have h2' : ((run p (d.take (min (win k).toNat d.length))).broken :: (fedL (feed p (d.take (min (win k).toNat d.length))) (d.drop (min (win k).toNat d.length)) ks).2.2)[i + 1]? = some b := h2
    rw [List.getElem?_cons_succ] at h2'
    cases i with
    | succ i => rw [List.getElem?_cons_succ] at h1'; exact ih _ _ i a b h1' h2' ha
    | zero =>
      obtain rfl : (run p (d.take (min (win k).toNat d.length))).broken = a := by simpa using h1'
      cases ks with
      | nil =>
        obtain rfl : (run (feed p (d.take (min (win k).toNat d.length))) (d.drop (min (win k).toNat d.length))).broken = b := by simpa [fedL] using h2'
        rw [run_broken (p := feed p _) ha]
        rfl
      | cons k' ks =>
        obtain rfl : (run (feed p (d.take (min (win k).toNat d.length))) ((d.drop (min (win k).toNat d.length)).take _)).broken = b := by simpa [fedL] using h2'
        rw [run_broken (p := feed p _) ha]
        rfl
theorem ping_out (d : List Int) : ∃ r, (run new (ping ++ d)).out = [[80, 73, 78, 71]] :: r := by
  rw [run_out]
  exact ⟨_, rfl⟩
/-- One byte at a time. -/
theorem feed_snoc (p : PS) (d : List Int) (c : Int) : feed p (d ++ [c]) = feed (feed p d) [c] := feed_append p d [c]
theorem run_snoc_out (p : PS) (d : List Int) (c : Int) : (run p (d ++ [c])).out = (run p d).out ++ (run (feed p d) [c]).out := run_out p d [c]
theorem feed_none {p : PS} (h : p.out = []) : feed p [] = p ∧ run p [] = p := by
  refine ⟨?_, rfl⟩
  unfold feed told
  rw [run_nil]
  cases p
  simp only at h
  subst h
  rfl
end Go.Proofs.Ytfdkcnbkoagmiaa.ChkS
