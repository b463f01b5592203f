/- Layer 8: the bytes that make what is held whole, in plain words. No program. -/
import Derived.Test.YtfdkcnbkoagmiaaLivS
namespace Go.Proofs.Ytfdkcnbkoagmiaa.LivT
open Go.Proofs.Ytfdkcnbkoagmiaa.LinS Go.Proofs.Ytfdkcnbkoagmiaa.ParS Go.Proofs.Ytfdkcnbkoagmiaa.LivS
set_option linter.unusedVariables false

def one : List Int := [36, 48, 13, 10, 13, 10]
def empties (n : Nat) : List Int := (List.replicate n one).flatten
def zeros (n : Nat) : List Int := List.replicate n 0
theorem empties_succ (n : Nat) : empties (n + 1) = one ++ empties n := by simp [empties, List.replicate_succ]
def rest (p : PS) : Nat := (p.want - p.args.length).toNat
/-- What an argument of n bytes is behind its length's digits. -/
def tail1 (n : Nat) : List Int := 13 :: 10 :: (zeros n ++ [13, 10])
theorem tail1_len (n : Nat) : (tail1 n).length = n + 4 := by simp [tail1, zeros]
def compl (p : PS) : List Int :=
  match p.st with
  | .digit => if p.head = 0 then (if p.digits = 0 then [48, 13, 10] else 13 :: 10 :: empties p.num.toNat)
      else (if p.digits = 0 then [48, 13, 10, 13, 10] else tail1 p.num.toNat) ++ empties (rest p - 1)
  | .minus => 49 :: 13 :: 10 :: empties p.num.toNat
  | .minusR => 13 :: 10 :: empties p.num.toNat
  | .numF => if p.head = 0 then 10 :: empties p.num.toNat else 10 :: (zeros p.num.toNat ++ [13, 10]) ++ empties (rest p - 1)
  | .dollar => empties (rest p)
  | .content => zeros p.left.toNat ++ [13, 10] ++ empties (rest p - 1)
  | .contR => 13 :: 10 :: empties (rest p - 1)
  | .contF => 10 :: empties (rest p - 1)
  | _ => []
def cnt (p : PS) : Int :=
  match p.st with
  | .digit => if p.head = 0 then p.num else p.want
  | .minus => p.num
  | .minusR => p.num
  | .numF => if p.head = 0 then p.num else p.want
  | _ => p.want
def Arr (p : PS) : Prop := p.st ≠ .begin ∧ p.st ≠ .line
/-- What one of these bytes does. -/
structure Does (p q : PS) (r : List Int) : Prop where
  last : r = [] → q.held = 0 ∧ q.out = p.out ++ (if cnt p = 0 then [] else [q.out.getLastD []]) ∧ (cnt p ≠ 0 → ((q.out.getLastD []).length : Int) = cnt p)
  more : r ≠ [] → q.out = p.out ∧ q.held = p.held ∧ compl q = r ∧ cnt q = cnt p ∧ Arr q
theorem whole_last {p : PS} {n : Int} (ha : p.args = []) (hn : n = 0) : (whole p).held = 0 ∧ (whole p).out = p.out ++ (if n = 0 then [] else [(whole p).out.getLastD []]) ∧ (n ≠ 0 → (((whole p).out.getLastD []).length : Int) = n) := by
  refine ⟨rfl, ?_, fun h => absurd hn h⟩
  rw [if_pos hn]
  simp [whole, ha]
theorem whole_last1 {p : PS} {n : Int} {l : List (List Int)} {s : St} (hn : (l.length : Int) = n) (h0 : n ≠ 0) : (whole { p with args := l, st := s }).held = 0 ∧ (whole { p with args := l, st := s }).out = p.out ++ (if n = 0 then [] else [(whole { p with args := l, st := s }).out.getLastD []]) ∧ (n ≠ 0 → (((whole { p with args := l, st := s }).out.getLastD []).length : Int) = n) := by
  have hl : l ≠ [] := by rintro rfl; simp at hn; omega
  have e : (whole { p with args := l, st := s }).out = p.out ++ [l] := by simp [whole, hl]
  have e2 : (whole { p with args := l, st := s }).out.getLastD [] = l := by rw [e]; simp [List.getLastD_eq_getLast?]
  rw [e2, e, if_neg h0]
  exact ⟨rfl, rfl, fun _ => hn⟩
theorem compl_step {t : List Int} {p : PS} {c : Int} {r : List Int} (hi : Inv p) (h : Sh t p) (ha : Arr p) (hc : compl p = c :: r) : (ParS.step p c).2 = 0 ∧ Does p (ParS.step p c).1 r := by
  have hdg := hi.dg
  have hn0 := hi.args0.1
  cases h with
  | begin s a cc => exact absurd s ha.1
  | line d r s e hd hn a => exact absurd s ha.2
  | dig0 ds s hh m a n l nm =>
    unfold compl at hc
    rw [s] at hc
    dsimp only at hc
    rw [if_pos hh] at hc
    unfold ParS.step
    rw [s]
    dsimp only
    unfold digitB
    by_cases hd : p.digits = 0
    · have hz : p.num = 0 := by omega
      rw [if_pos hd] at hc
      cases hc
      rw [if_pos (by omega), if_neg (by omega)]
      refine ⟨rfl, fun h => (by cases h), fun _ => ⟨rfl, rfl, ?_, ?_, ?_⟩⟩
      · unfold compl
        dsimp only
        rw [s]
        dsimp only
        rw [if_pos hh, if_neg (by omega), hz]
        rfl
      · unfold cnt
        dsimp only
        rw [s]
        dsimp only
        rw [if_pos hh, if_pos hh, hz]
        rfl
      · exact ha
    · rw [if_neg hd] at hc
      cases hc
      rw [if_neg (by omega), if_pos ⟨rfl, by omega⟩]
      refine ⟨rfl, fun h => (by cases h), fun _ => ⟨rfl, rfl, ?_, ?_, ⟨fun h => (by cases h), fun h => (by cases h)⟩⟩⟩
      · unfold compl
        dsimp only
        rw [if_pos hh]
      · unfold cnt
        dsimp only
        rw [s]
  | minus s hh a n =>
    unfold compl at hc
    rw [s] at hc
    cases hc
    unfold ParS.step
    rw [s]
    dsimp only
    refine ⟨rfl, fun h => (by cases h), fun _ => ⟨rfl, rfl, rfl, ?_, ⟨fun h => (by cases h), fun h => (by cases h)⟩⟩⟩
    unfold cnt
    dsimp only
    rw [s]
  | minusR s hh a n =>
    unfold compl at hc
    rw [s] at hc
    cases hc
    unfold ParS.step
    rw [s]
    dsimp only
    refine ⟨rfl, fun h => (by cases h), fun _ => ⟨rfl, rfl, ?_, ?_, ⟨fun h => (by cases h), fun h => (by cases h)⟩⟩⟩
    · unfold compl
      dsimp only
      rw [if_pos hh]
    · unfold cnt
      dsimp only
      rw [s, if_pos hh]
  | num0 ds s hh a n ne m =>
    unfold compl at hc
    rw [s] at hc
    dsimp only at hc
    rw [if_pos hh] at hc
    cases hc
    have hcn : cnt p = p.num := by unfold cnt; rw [s]; dsimp only; rw [if_pos hh]
    unfold ParS.step
    rw [s]
    dsimp only
    unfold numFB
    rw [if_neg (by decide), if_neg (by omega)]
    by_cases hz : p.num = 0
    · rw [if_pos hz]
      exact ⟨rfl, fun _ => whole_last a (by rw [hcn]; exact hz), fun h => absurd (by rw [hz]; rfl) h⟩
    · rw [if_neg hz]
      refine ⟨rfl, fun h => ?_, fun _ => ⟨rfl, rfl, ?_, ?_, ⟨fun h => (by cases h), fun h => (by cases h)⟩⟩⟩
      · obtain ⟨k, hk⟩ : ∃ k, p.num.toNat = k + 1 := ⟨p.num.toNat - 1, by omega⟩
        rw [hk, empties_succ] at h
        cases h
      · unfold compl
        dsimp only
        unfold rest
        simp
      · rw [hcn]; rfl
  | numM s hh a n =>
    unfold compl at hc
    rw [s] at hc
    dsimp only at hc
    rw [if_pos hh] at hc
    cases hc
    have hcn : cnt p = p.num := by unfold cnt; rw [s]; dsimp only; rw [if_pos hh]
    unfold ParS.step
    rw [s]
    dsimp only
    unfold numFB
    rw [if_neg (by decide), if_neg (by omega), if_pos n]
    exact ⟨rfl, fun _ => whole_last a (by rw [hcn]; exact n), fun h => absurd (by rw [n]; rfl) h⟩
  | dollar ds l s n ne m w a ok =>
    unfold compl at hc
    rw [s] at hc
    dsimp only at hc
    obtain ⟨k, hk⟩ : ∃ k, rest p = k + 1 := ⟨rest p - 1, by unfold rest; omega⟩
    rw [hk, empties_succ] at hc
    cases hc
    unfold ParS.step
    rw [s]
    dsimp only
    refine ⟨rfl, fun h => (by cases h), fun _ => ⟨rfl, rfl, ?_, ?_, ⟨fun h => (by cases h), fun h => (by cases h)⟩⟩⟩
    · unfold compl
      show (if (1 : Int) = 0 then _ else (if (0 : Int) = 0 then [48, 13, 10, 13, 10] else tail1 _) ++ empties (rest p - 1)) = _
      rw [if_neg (by decide), if_pos rfl, hk]
      rfl
    · show p.want = cnt p
      unfold cnt
      rw [s]
  | dig1 ds l dn s hh mo n ne m w a ok nn dl =>
    unfold compl at hc
    rw [s] at hc
    dsimp only at hc
    rw [if_neg (by omega)] at hc
    have hcn : cnt p = p.want := by unfold cnt; rw [s]; dsimp only; rw [if_neg (by omega)]
    unfold ParS.step
    rw [s]
    dsimp only
    unfold digitB
    by_cases hd : p.digits = 0
    · have hz : p.num = 0 := by omega
      rw [if_pos hd] at hc
      cases hc
      rw [if_pos (by omega), if_neg (by omega)]
      refine ⟨rfl, fun h => (by cases h), fun _ => ⟨rfl, rfl, ?_, ?_, ha⟩⟩
      · unfold compl
        dsimp only
        rw [s]
        dsimp only
        rw [if_neg (by omega), if_neg (by omega), hz]
        rfl
      · rw [hcn]
        unfold cnt
        dsimp only
        rw [s]
        dsimp only
        rw [if_neg (by omega)]
    · rw [if_neg hd] at hc
      cases hc
      rw [if_neg (by omega), if_pos ⟨rfl, by omega⟩]
      refine ⟨rfl, fun h => (by cases h), fun _ => ⟨rfl, rfl, ?_, ?_, ⟨fun h => (by cases h), fun h => (by cases h)⟩⟩⟩
      · unfold compl
        dsimp only
        rw [if_neg (by omega)]
        rfl
      · rw [hcn]
        unfold cnt
        dsimp only
        rw [if_neg (by omega)]
  | num1 ds l dn s hh n ne m w a ok nn dne nm =>
    unfold compl at hc
    rw [s] at hc
    dsimp only at hc
    rw [if_neg (by omega)] at hc
    cases hc
    have hcn : cnt p = p.want := by unfold cnt; rw [s]; dsimp only; rw [if_neg (by omega)]
    unfold ParS.step
    rw [s]
    dsimp only
    unfold numFB
    rw [if_neg (by decide), if_pos hh]
    refine ⟨rfl, fun h => (by simp at h), fun _ => ⟨rfl, rfl, ?_, ?_, ?_⟩⟩
    · unfold compl
      dsimp only
      by_cases hz : p.num = 0
      · rw [if_pos hz, hz]
        rfl
      · rw [if_neg hz]
        rfl
    · rw [hcn]
      unfold cnt
      dsimp only
      by_cases hz : p.num = 0
      · rw [if_pos hz]
      · rw [if_neg hz]
    · by_cases hz : p.num = 0
      · exact ⟨fun h => (by dsimp only at h; rw [if_pos hz] at h; cases h), fun h => (by dsimp only at h; rw [if_pos hz] at h; cases h)⟩
      · exact ⟨fun h => (by dsimp only at h; rw [if_neg hz] at h; cases h), fun h => (by dsimp only at h; rw [if_neg hz] at h; cases h)⟩
  | cont ds l dn s n ne m w a ok nn dne nm =>
    rcases s with ⟨s, hl⟩ | ⟨s, hl⟩
    · have hcn : cnt p = p.want := by unfold cnt; rw [s]
      unfold compl at hc
      rw [s] at hc
      dsimp only at hc
      obtain ⟨k, hk⟩ : ∃ k, p.left.toNat = k + 1 := ⟨p.left.toNat - 1, by omega⟩
      have hk1 : (p.left - 1).toNat = k := by omega
      rw [hk] at hc
      cases hc
      unfold ParS.step
      rw [s]
      dsimp only
      refine ⟨rfl, fun h => (by simp at h), fun _ => ⟨rfl, rfl, ?_, ?_, ?_⟩⟩
      · unfold compl
        dsimp only
        by_cases hz : p.left - 1 = 0
        · obtain rfl : k = 0 := by omega
          rw [if_pos hz]
          rfl
        · rw [if_neg hz]
          dsimp only
          rw [hk1]
          rfl
      · rw [hcn]
        unfold cnt
        dsimp only
        by_cases hz : p.left - 1 = 0
        · rw [if_pos hz]
        · rw [if_neg hz]
      · by_cases hz : p.left - 1 = 0
        · exact ⟨fun h => (by dsimp only at h; rw [if_pos hz] at h; cases h), fun h => (by dsimp only at h; rw [if_pos hz] at h; cases h)⟩
        · exact ⟨fun h => (by dsimp only at h; rw [if_neg hz] at h; cases h), fun h => (by dsimp only at h; rw [if_neg hz] at h; cases h)⟩
    · have hcn : cnt p = p.want := by unfold cnt; rw [s]
      unfold compl at hc
      rw [s] at hc
      cases hc
      unfold ParS.step
      rw [s]
      dsimp only
      refine ⟨rfl, fun h => (by cases h), fun _ => ⟨rfl, rfl, rfl, ?_, ⟨fun h => (by cases h), fun h => (by cases h)⟩⟩⟩
      rw [hcn]
      rfl
  | contF ds l dn s n ne m w a ok nn dne nm =>
    have hcn : cnt p = p.want := by unfold cnt; rw [s]
    unfold compl at hc
    rw [s] at hc
    cases hc
    unfold ParS.step
    rw [s]
    dsimp only
    unfold contFB
    rw [if_neg (by decide)]
    have hr : rest p = (p.want - p.args.length).toNat := rfl
    by_cases hz : ((p.args.length + 1 : Nat) : Int) = p.want
    · rw [if_pos hz]
      refine ⟨rfl, fun _ => ?_, fun h => ?_⟩
      · rw [hcn]
        exact whole_last1 (by rw [List.length_append, List.length_singleton]; exact hz) (by omega)
      · rw [show rest p - 1 = 0 by omega] at h
        exact absurd rfl h
    · rw [if_neg hz]
      refine ⟨rfl, fun h => ?_, fun _ => ⟨rfl, rfl, ?_, ?_, ⟨fun h => (by cases h), fun h => (by cases h)⟩⟩⟩
      · obtain ⟨k, hk⟩ : ∃ k, rest p - 1 = k + 1 := ⟨rest p - 2, by omega⟩
        rw [hk, empties_succ] at h
        cases h
      · unfold compl
        show empties ((p.want - ((p.args ++ [p.cur]).length : Nat)).toNat) = _
        rw [List.length_append, List.length_singleton, show (p.want - ((p.args.length + 1 : Nat) : Int)).toNat = rest p - 1 by omega]
      · rw [hcn]
        rfl
end Go.Proofs.Ytfdkcnbkoagmiaa.LivT
