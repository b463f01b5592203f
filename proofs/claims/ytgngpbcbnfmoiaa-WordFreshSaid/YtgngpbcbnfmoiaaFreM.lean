/- WordFresh's memory: answers that nobody has written into yet, and the book. No function of the program. -/
import Derived.Test.YtgngpbcbnfmoiaaBokJ
namespace Go.Proofs.Ytgngpbcbnfmoiaa.FreM
open Go Go.RowKit Go.Proofs.YtgngpbcbnfmoiaaW.PrintWords Go.Proofs.YtgngpbcbnfmoiaaW.PrintLast Go.Proofs.YtgngpbcbnfmoiaaW.PrintMore Go.Proofs.Ytgngpbcbnfmoiaa.RowU Go.Proofs.Ytgngpbcbnfmoiaa.ArM Go.Proofs.Ytgngpbcbnfmoiaa.GenM Go.Proofs.Ytgngpbcbnfmoiaa.GenN Go.Proofs.Ytgngpbcbnfmoiaa.BokA Go.Proofs.Ytgngpbcbnfmoiaa.BokB Go.Proofs.Ytgngpbcbnfmoiaa.BokE Go.Proofs.Ytgngpbcbnfmoiaa.BokG Go.Proofs.Ytgngpbcbnfmoiaa.BokS
set_option linter.unusedVariables false
set_option maxRecDepth 100000

/-- A list of numbers that a call has made is a whole block of its own. -/
theorem gv_of_R {k : IntKind} {T : TypeId} {w : World} {base : Nat} {ok : Nat → Prop} {v : Value} {l : List Int} (h : (Kd.int k).R T w base ok v l) : GV T w v (l.map (Value.int k)) ∧ ∀ b, v.ownBlock = some b → base ≤ b := by
  obtain ⟨_, inner, ho, h1, h2⟩ := h
  have hlen : inner.length = l.length := by rw [h1]; exact Nat.mul_one _
  have hin : inner = l.map (Value.int k) := by
    apply List.ext_getElem?
    intro j
    by_cases hj : j < l.length
    · have h3 := h2 j l[j] (List.getElem?_eq_getElem hj)
      have h3 : (inner.drop (j * 1)).take 1 = [Value.int k l[j]] := h3
      rw [Nat.mul_one] at h3
      have h4 := congrArg (fun r => r[0]?) h3
      simp only [List.getElem?_take, List.getElem?_drop] at h4
      rw [List.getElem?_map, List.getElem?_eq_getElem hj]
      simpa using h4
    · rw [List.getElem?_eq_none (by omega), List.getElem?_eq_none (by rw [List.length_map]; omega)]
  subst hin
  exact GV.of_own ho (by rw [List.length_map])
/-- A list that is read and never written into. -/
def GU (W : World) (u : Value) (l : List Value) : Prop := ∃ A c, u = .slice A l.length c ∧ l.length ≤ c ∧ l.length ≤ maxLen ∧ ((A = none ∧ l = []) ∨ ∃ g, A = some ⟨g, 0, none⟩ ∧ g < W.heap.size ∧ ∀ j x, l[j]? = some x → W.cell? ⟨g, j, none⟩ = some x)
theorem cell_congr {W W' : World} {g : Nat} (h : W'.heap[g]? = W.heap[g]?) (j : Nat) : W'.cell? ⟨g, j, none⟩ = W.cell? ⟨g, j, none⟩ := by
  simp only [World.cell?]
  rw [h]
theorem GU.upd {S : Nat → Prop} {W W' : World} {u : Value} {l : List Value} (h : GU W u l) (hu : Upd S W W') (hS : ∀ b, u.ownBlock = some b → ¬ S b) : GU W' u l := by
  obtain ⟨A, c, rfl, h1, h2, h3 | ⟨g, rfl, h4, h5⟩⟩ := h
  · exact ⟨A, c, rfl, h1, h2, .inl h3⟩
  · exact ⟨_, c, rfl, h1, h2, .inr ⟨g, rfl, Nat.lt_of_lt_of_le h4 hu.size, fun j x hj => by rw [cell_congr (hu.block g h4 (hS g rfl)) j]; exact h5 j x hj⟩⟩
theorem GU.of_gv {T : TypeId} {W : World} {u : Value} {l : List Value} (h : GV T W u l) : GU W u l := by
  rcases h with ⟨rfl, rfl⟩ | ⟨g, cap, rfl, h⟩
  · exact ⟨none, 0, rfl, Nat.le_refl _, by simp, .inl ⟨rfl, rfl⟩⟩
  · obtain ⟨cur, h1, h2, h3, h4, h5⟩ := id h
    exact ⟨_, cap, rfl, h3, by omega, .inr ⟨g, rfl, h.lt, fun j x hj => h.get j x hj⟩⟩
theorem GU.slice {W : World} {v : Value} {l : List Value} (h : GU W v l) : ∃ A c, v = .slice A l.length c := by
  obtain ⟨A, c, h1, _⟩ := h
  exact ⟨A, c, h1⟩
theorem gu_reads {k : IntKind} {w : World} {A : Option Addr} {n c : Nat} {ls : List Int} (h : GU w (.slice A n c) (ls.map (Value.int k))) : n = ls.length ∧ ls.length ≤ c ∧ (Kd.int k).C w A ls.length ls := by
  obtain ⟨A', c', h1, h2, h3, h4⟩ := h
  rw [List.length_map] at h1 h2 h3
  simp only [Value.slice.injEq] at h1
  obtain ⟨rfl, rfl, rfl⟩ := h1
  refine ⟨rfl, h2, rfl, by unfold maxLen at h3; omega, fun h0 => ?_⟩
  rcases h4 with ⟨_, h5⟩ | ⟨g, rfl, _, h5⟩
  · have : ls = [] := by simpa using h5
    subst this
    exact absurd h0 (by simp)
  · refine ⟨_, rfl, fun j p hp => ⟨[Value.int k p], rfl, rfl, fun i u hu => ?_⟩⟩
    cases i with
    | zero =>
      simp at hu
      subst hu
      have := h5 j (Value.int k p) (by rw [List.getElem?_map, hp]; rfl)
      show w.cell? ((⟨g, 0, none⟩ : Addr).add (j * 1 + 0)) = _
      rw [Addr.add_lit, Nat.mul_one, Nat.add_zero, Nat.zero_add]
      exact this
    | succ i => simp at hu
/-- An answer, what it must hold (in a list of its own), and what both hold. -/
structure It where
  v : Value
  u : Value
  l : List Value
def gs (it : List It) : List Value := it.map It.v
def us (it : List It) : List Value := it.map It.u
/-- Answers that wait. -/
structure Pn (k : Nat) (Tt Te : TypeId) (W : World) (lo : Own) (vg vw : Value) (it : List It) : Prop where
  tg : GV Tt W vg (gs it)
  tw : GV Tt W vw (us it)
  gT : ∀ b, vg.ownBlock = some b → lo b = some (k, 0)
  wT : ∀ b, vw.ownBlock = some b → lo b = some (k, 1)
  el : ∀ i x, it[i]? = some x → GV Te W x.v x.l ∧ GU W x.u x.l ∧ (∀ b, x.v.ownBlock = some b → lo b = some (k, 2 + 2 * i)) ∧ (∀ b, x.u.ownBlock = some b → lo b = some (k, 3 + 2 * i)) ∧ x.l.length ≤ 200000000000000
theorem Pn.move {k : Nat} {Tt Te : TypeId} {S : Nat → Prop} {W W' : World} {lo lo' : Own} {vg vw : Value} {it : List It} (h : Pn k Tt Te W lo vg vw it) (hu : Upd S W W') (hS : ∀ b t, lo b = some (k, t) → ¬ S b) (hle : ∀ b t, lo b = some (k, t) → lo' b = some (k, t)) : Pn k Tt Te W' lo' vg vw it :=
  ⟨h.tg.upd hu (fun b hb => hS b _ (h.gT b hb)), h.tw.upd hu (fun b hb => hS b _ (h.wT b hb)), fun b hb => hle _ _ (h.gT b hb), fun b hb => hle _ _ (h.wT b hb), fun i x hx => by
    obtain ⟨a1, a2, a3, a4, a5⟩ := h.el i x hx
    exact ⟨a1.upd hu (fun b hb => hS b _ (a3 b hb)), a2.upd hu (fun b hb => hS b _ (a4 b hb)), fun b hb => hle _ _ (a3 b hb), fun b hb => hle _ _ (a4 b hb), a5⟩⟩
theorem Pn.nil (k : Nat) (Tt Te : TypeId) (W : World) (lo : Own) : Pn k Tt Te W lo (.slice none 0 0) (.slice none 0 0) [] :=
  ⟨GV.nil _ _, GV.nil _ _, fun b hb => (by cases hb), fun b hb => (by cases hb), fun i x hx => by simp at hx⟩
theorem gs_snoc (it : List It) (x : It) : gs (it ++ [x]) = gs it ++ [x.v] := by simp [gs]
theorem us_snoc (it : List It) (x : It) : us (it ++ [x]) = us it ++ [x.u] := by simp [us]
theorem gs_len (it : List It) : (gs it).length = it.length := by simp [gs]
theorem us_len (it : List It) : (us it).length = it.length := by simp [us]
theorem gs_get {it : List It} {i : Nat} {x : It} (h : it[i]? = some x) : (gs it)[i]? = some x.v := by simp [gs, h]
theorem us_get {it : List It} {i : Nat} {x : It} (h : it[i]? = some x) : (us it)[i]? = some x.u := by simp [us, h]
/-- One answer more: both tables have grown (w3 to w8), the two lists are new. -/
theorem Pn.add {k : Nat} {Tt Te : TypeId} {S : Nat → Prop} {W W' : World} {lo lo' : Own} {vg vw vg' vw' : Value} {it : List It} (h : Pn k Tt Te W lo vg vw it) {x : It}
    (hu : Upd S W W') (hS : ∀ b t, lo b = some (k, t) → 2 ≤ t → ¬ S b) (hle : ∀ b t, lo b = some (k, t) → lo' b = some (k, t))
    (h1 : GV Tt W' vg' (gs it ++ [x.v])) (h2 : GV Tt W' vw' (us it ++ [x.u])) (t1 : ∀ b, vg'.ownBlock = some b → lo' b = some (k, 0)) (t2 : ∀ b, vw'.ownBlock = some b → lo' b = some (k, 1))
    (h3 : GV Te W' x.v x.l) (h4 : GU W' x.u x.l) (t3 : ∀ b, x.v.ownBlock = some b → lo' b = some (k, 2 + 2 * it.length)) (t4 : ∀ b, x.u.ownBlock = some b → lo' b = some (k, 3 + 2 * it.length)) (hl : x.l.length ≤ 200000000000000) : Pn k Tt Te W' lo' vg' vw' (it ++ [x]) := by
  refine ⟨by rw [gs_snoc]; exact h1, by rw [us_snoc]; exact h2, t1, t2, fun i y hy => ?_⟩
  by_cases hi : i < it.length
  · rw [List.getElem?_append_left hi] at hy
    obtain ⟨a1, a2, a3, a4, a5⟩ := h.el i y hy
    exact ⟨a1.upd hu (fun b hb => hS b _ (a3 b hb) (by omega)), a2.upd hu (fun b hb => hS b _ (a4 b hb) (by omega)), fun b hb => hle _ _ (a3 b hb), fun b hb => hle _ _ (a4 b hb), a5⟩
  · have hil : i = it.length := by
      have := (List.getElem?_eq_some_iff.1 hy).1
      rw [List.length_append, List.length_singleton] at this
      omega
    subst hil
    rw [List.getElem?_append_right (Nat.le_refl _), Nat.sub_self] at hy
    have hy : x = y := by simpa using hy
    subst hy
    exact ⟨h3, h4, t3, t4, hl⟩
end Go.Proofs.Ytgngpbcbnfmoiaa.FreM
