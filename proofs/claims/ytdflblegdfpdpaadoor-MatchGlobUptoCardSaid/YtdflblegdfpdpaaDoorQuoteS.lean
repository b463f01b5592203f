/- Patterns of quoted bytes: what they fit. No program. -/
import Derived.Test.YtdflblegdfpdpaaDoorGlobT
namespace Go.Proofs.YtdflblegdfpdpaaDoor.QuoteS
open Go.Proofs.YtdflblegdfpdpaaDoor.GlobS Go.Proofs.YtdflblegdfpdpaaDoor.GlobT
set_option linter.unusedVariables false

def inB (l : List Int) : Prop := ∀ c ∈ l, 0 ≤ c ∧ c < 256
def quoteL : List Int → List Int
  | [] => []
  | c :: t => 92 :: c :: quoteL t
theorem quoteL_append (a b : List Int) : quoteL (a ++ b) = quoteL a ++ quoteL b := by
  induction a with
  | nil => rfl
  | cons c a ih => simp [quoteL, ih]
theorem quoteL_len (t : List Int) : (quoteL t).length = 2 * t.length := by
  induction t with
  | nil => rfl
  | cons c t ih => simp only [quoteL, List.length_cons, ih]; omega
theorem quoteL_in {t : List Int} (h : inB t) : inB (quoteL t) := by
  induction t with
  | nil => exact h
  | cons c t ih =>
    intro x hx
    simp only [quoteL, List.mem_cons] at hx
    rcases hx with rfl | rfl | hx
    · omega
    · exact h _ (List.mem_cons_self ..)
    · exact ih (fun y hy => h y (List.mem_cons_of_mem _ hy)) x hx
def starP : Pc := ⟨true, noneQ⟩
def anyP : Pc := ⟨false, allQ⟩
def setP (c : Int) : Pc := ⟨false, oneQ c⟩
theorem pieces_quote (t r : List Int) : piecesL (quoteL t ++ r) = t.map setP ++ piecesL r := by
  induction t with
  | nil => rfl
  | cons c t ih =>
    show piecesL (92 :: c :: (quoteL t ++ r)) = _
    rw [piecesL, pieceL_cons, if_neg (by decide), if_neg (by decide), if_neg (by decide)]
    have e : quotedL (92 :: c :: (quoteL t ++ r)) = (c, quoteL t ++ r) := rfl
    rw [e]
    dsimp only
    rw [ih]
    rfl
theorem pieces_star (r : List Int) : piecesL (42 :: r) = starP :: piecesL r := by rw [piecesL, pieceL_cons, if_pos rfl]; rfl
theorem pieces_any (r : List Int) : piecesL (63 :: r) = anyP :: piecesL r := by rw [piecesL, pieceL_cons, if_neg (by decide), if_pos rfl]; rfl
theorem pieces_nil : piecesL [] = [] := by rw [piecesL]
theorem has_one (c d : Int) (hc : 0 ≤ c ∧ c < 256) (hd : 0 ≤ d ∧ d < 256) : has (oneQ c) d.toNat = decide (c = d) := by
  unfold oneQ
  rw [has_addQ _ _ _ _ (by omega) (by omega) (by omega), has_noneQ, Bool.false_or, decide_eq_decide]
  omega
theorem fits_sets (t : List Int) (l : List Pc) : ∀ (u : List Int), inB t → inB u → (fits (t.map setP ++ l) u = true ↔ ∃ r, u = t ++ r ∧ fits l r = true) := by
  induction t with
  | nil => intro u _ _; simp
  | cons c t ih =>
    intro u ht hu
    cases u with
    | nil =>
      show fits (setP c :: (t.map setP ++ l)) [] = true ↔ _
      rw [fits_set_nil rfl]
      simp
    | cons d u =>
      show fits (setP c :: (t.map setP ++ l)) (d :: u) = true ↔ _
      rw [fits_set rfl, Bool.and_eq_true]
      have h1 := has_one c d (ht c (List.mem_cons_self ..)) (hu d (List.mem_cons_self ..))
      show has (oneQ c) d.toNat = true ∧ _ ↔ _
      rw [h1, ih u (fun x hx => ht x (List.mem_cons_of_mem _ hx)) (fun x hx => hu x (List.mem_cons_of_mem _ hx)), decide_eq_true_iff]
      constructor
      · rintro ⟨rfl, r, rfl, hr⟩; exact ⟨r, rfl, hr⟩
      · rintro ⟨r, e, hr⟩
        simp only [List.cons_append, List.cons.injEq] at e
        exact ⟨e.1.symm, r, e.2, hr⟩
theorem fits_nil (u : List Int) : fits [] u = true ↔ u = [] := by rw [fits]; simp
theorem fits_starEnd (u : List Int) : fits [starP] u = true := (fits_star rfl).2 ⟨u.length, Nat.le_refl _, by simp [fits]⟩

/-- The text t lies in u at the place i. -/
def atP (u t : List Int) (i : Nat) : Prop := i + t.length ≤ u.length ∧ (u.drop i).take t.length = t
instance (u t : List Int) (i : Nat) : Decidable (atP u t i) := by unfold atP; infer_instance
theorem at_iff (u t : List Int) (i : Nat) (h : i ≤ u.length) : atP u t i ↔ ∃ r, u.drop i = t ++ r := by
  unfold atP
  constructor
  · rintro ⟨h1, h2⟩
    exact ⟨(u.drop i).drop t.length, by conv => lhs; rw [← List.take_append_drop t.length (u.drop i), h2]⟩
  · rintro ⟨r, hr⟩
    have := congrArg List.length hr
    rw [List.length_drop, List.length_append] at this
    exact ⟨by omega, by rw [hr, List.take_left]⟩
theorem glob_plain (t u : List Int) (ht : inB t) (hu : inB u) : globL (quoteL t) u = decide (t = u) := by
  unfold globL
  have e := pieces_quote t []
  rw [List.append_nil, pieces_nil] at e
  rw [e, Bool.eq_iff_iff, fits_sets t [] u ht hu, decide_eq_true_iff]
  constructor
  · rintro ⟨r, rfl, hr⟩
    rw [(fits_nil r).1 hr, List.append_nil]
  · rintro rfl
    exact ⟨[], by simp, (fits_nil []).2 rfl⟩
theorem glob_behind (t u : List Int) (ht : inB t) (hu : inB u) : globL (quoteL t ++ [42]) u = decide (atP u t 0) := by
  unfold globL
  rw [pieces_quote, pieces_star, pieces_nil, Bool.eq_iff_iff, fits_sets t _ u ht hu, decide_eq_true_iff, at_iff u t 0 (by omega)]
  constructor
  · rintro ⟨r, hr, _⟩; exact ⟨r, by simpa using hr⟩
  · rintro ⟨r, hr⟩; exact ⟨r, by simpa using hr, fits_starEnd r⟩
theorem inB_drop {u : List Int} (h : inB u) (k : Nat) : inB (u.drop k) := fun x hx => h x (List.mem_of_mem_drop hx)
theorem glob_ahead (t u : List Int) (ht : inB t) (hu : inB u) : globL (42 :: quoteL t) u = decide (t.length ≤ u.length ∧ atP u t (u.length - t.length)) := by
  unfold globL
  have e := pieces_quote t []
  rw [List.append_nil, pieces_nil] at e
  rw [pieces_star, e, Bool.eq_iff_iff, fits_star rfl, decide_eq_true_iff]
  constructor
  · rintro ⟨k, hk, h⟩
    obtain ⟨r, hr, h0⟩ := (fits_sets t [] _ ht (inB_drop hu k)).1 h
    rw [(fits_nil r).1 h0, List.append_nil] at hr
    have hl := congrArg List.length hr
    rw [List.length_drop] at hl
    refine ⟨by omega, ?_⟩
    rw [show u.length - t.length = k by omega, at_iff u t k hk]
    exact ⟨[], by rw [hr, List.append_nil]⟩
  · rintro ⟨hle, h⟩
    refine ⟨u.length - t.length, by omega, (fits_sets t [] _ ht (inB_drop hu _)).2 ⟨[], ?_, (fits_nil []).2 rfl⟩⟩
    obtain ⟨r, hr⟩ := (at_iff u t _ (by omega)).1 h
    have hl := congrArg List.length hr
    rw [List.length_drop, List.length_append] at hl
    have : r = [] := List.eq_nil_of_length_eq_zero (by omega)
    rw [hr, this]
theorem glob_both (t u : List Int) (ht : inB t) (hu : inB u) : globL (42 :: (quoteL t ++ [42])) u = decide (∃ i, i ≤ u.length ∧ atP u t i) := by
  unfold globL
  rw [pieces_star, pieces_quote, pieces_star, pieces_nil, Bool.eq_iff_iff, fits_star rfl, decide_eq_true_iff]
  constructor
  · rintro ⟨k, hk, h⟩
    obtain ⟨r, hr, _⟩ := (fits_sets t _ _ ht (inB_drop hu k)).1 h
    exact ⟨k, hk, (at_iff u t k hk).2 ⟨r, hr⟩⟩
  · rintro ⟨k, hk, h⟩
    obtain ⟨r, hr⟩ := (at_iff u t k hk).1 h
    exact ⟨k, hk, (fits_sets t _ _ ht (inB_drop hu k)).2 ⟨r, hr, fits_starEnd r⟩⟩
theorem glob_one (a b u : List Int) (ha : inB a) (hb : inB b) (hu : inB u) : globL (quoteL a ++ 63 :: quoteL b) u = decide (u.length = a.length + 1 + b.length ∧ u.take a.length = a ∧ u.drop (a.length + 1) = b) := by
  unfold globL
  have e := pieces_quote b []
  rw [List.append_nil, pieces_nil] at e
  rw [pieces_quote, pieces_any, e, Bool.eq_iff_iff, fits_sets a _ u ha hu, decide_eq_true_iff]
  constructor
  · rintro ⟨r, rfl, h⟩
    cases r with
    | nil => rw [fits_set_nil rfl] at h; cases h
    | cons c r =>
      rw [fits_set rfl, Bool.and_eq_true] at h
      obtain ⟨r', hr, h0⟩ := (fits_sets b [] r hb (fun x hx => hu x (by simp [hx]))).1 h.2
      rw [(fits_nil r').1 h0, List.append_nil] at hr
      subst hr
      refine ⟨by simp; omega, List.take_left, ?_⟩
      rw [List.drop_append]
      simp
  · rintro ⟨h1, h2, h3⟩
    refine ⟨u.drop a.length, ?_, ?_⟩
    · conv => lhs; rw [← List.take_append_drop a.length u, h2]
    · have hlt : a.length < u.length := by omega
      rw [List.drop_eq_getElem_cons hlt, fits_set rfl, Bool.and_eq_true]
      refine ⟨has_allQ _ (by have := hu _ (List.getElem_mem hlt); omega), (fits_sets b [] _ hb (inB_drop hu _)).2 ⟨[], ?_, (fits_nil []).2 rfl⟩⟩
      rw [h3, List.append_nil]
end Go.Proofs.YtdflblegdfpdpaaDoor.QuoteS
