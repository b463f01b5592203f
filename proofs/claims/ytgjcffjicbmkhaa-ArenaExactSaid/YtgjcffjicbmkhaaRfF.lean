/- larderref2's find and whole walked. -/
import Derived.Test.YtgjcffjicbmkhaaRfM
import Derived.StillTailTactics
namespace Go.Proofs.Ytgjcffjicbmkhaa.RfF
open Go Go.RowKit Go.Proofs.YtgjcffjicbmkhaaW.PrintWords Go.Proofs.YtgjcffjicbmkhaaW.PrintLast Go.Proofs.YtgjcffjicbmkhaaW.PrintMore Go.Proofs.Ytgjcffjicbmkhaa.RowU Go.Proofs.Ytgjcffjicbmkhaa.ArS Go.Proofs.Ytgjcffjicbmkhaa.ArM Go.Proofs.Ytgjcffjicbmkhaa.GenM Go.Proofs.Ytgjcffjicbmkhaa.GenS Go.Proofs.Ytgjcffjicbmkhaa.BokA Go.Proofs.Ytgjcffjicbmkhaa.ArP Go.Proofs.Ytgjcffjicbmkhaa.RfM
set_option linter.unusedVariables false
set_option maxRecDepth 100000

structure Bs (l : List Ob) (p : Int) (lo hi : Nat) : Prop where
  le : lo ≤ hi
  hl : hi ≤ l.length
  b1 : ∀ i, i < lo → i < l.length → (place l i : Int) < p
  b2 : ∀ i, hi ≤ i → i < l.length → p ≤ place l i
theorem Bs.up {l : List Ob} {p : Int} {lo hi m : Nat} (h : Bs l p lo hi) (hm : m < hi) (hp : (place l m : Int) < p) : Bs l p (m + 1) hi := by
  refine ⟨hm, h.hl, fun i hi hil => ?_, h.b2⟩
  by_cases c : i = m
  · subst c; exact hp
  · have := place_mono (l := l) (show i < m by omega) (by have := h.hl; omega)
    omega
theorem Bs.down {l : List Ob} {p : Int} {lo hi m : Nat} (h : Bs l p lo hi) (h1 : lo ≤ m) (hm : m < hi) (hp : p ≤ (place l m : Int)) : Bs l p lo m := by
  refine ⟨h1, by have := h.hl; omega, h.b1, fun i hi hil => ?_⟩
  by_cases c : i = m
  · subst c; exact hp
  · have := place_mono (l := l) (show m < i by omega) (by omega)
    omega
theorem Bs.fin {l : List Ob} {p : Int} {m : Nat} (h : Bs l p m m) (h3 : m < l.length → (place l m : Int) ≠ p) : fiR l p = -1 := fiR_no h.b1 h.b2 h3
set_option maxHeartbeats 4000000 in
theorem find.calls {k : Nat} {W : World} {lo : Own} {g sz : Nat} {vo : Value} {es : List RO} (h : RA k W lo g sz vo es) (p : Int) :
    Calls Try.prog 83 #[.pointer (some ⟨g, 0, none⟩), .int .i64 p] W fun e w' => e = .returned (.int .i64 (fiR (obs es) p)) ∧ Below W.heap.size W w' := by
  have H := Aside0.mk h
  obtain ⟨A, c, hv, hcc⟩ := GenS.own_slice h.tb
  subst hv
  have hx2 := h.c2
  have hn := h.len
  clear h
  go_enter Try.func83, Try.ntmps83
  go_wp2_with fail
  go_quiet (fail)
  have HB0 := Aside0.mk (pw_below_drewN (Below.refl W.heap.size W) nq)
  have HS0 : Aside0 (Bs (obs es) p 0 es.length) := ⟨⟨Nat.zero_le _, by rw [obs_len]; exact Nat.le_refl _, fun i hi => absurd hi (Nat.not_lt_zero i), fun i hi hl => by rw [obs_len] at hl; omega⟩⟩
  clear hx2
  go_upto_region 2 with fail
  go_loopw [5, 6] (fun i j wr => ∃ a b : Nat, i = .int .i64 a ∧ j = .int .i64 b ∧ Aside0 (Bs (obs es) p a b) ∧ Aside0 (Below W.heap.size W wr)) (fun i j _ => (intOf j).toNat - (intOf i).toNat)
  case atStart => exact ⟨0, es.length, rfl, rfl, HS0, HB0⟩
  case round =>
    obtain ⟨a, b, rfl, rfl, HS, HB⟩ := hrel
    clear HB0 HS0
    rename World => wr
    have HR := Aside0.mk (H.out.upd (S := none_) (Upd.of_below HB.out) (fun _ _ _ h => h) (fun _ _ h => h))
    have hx2 := HR.out.c2
    have hab := HS.out.le
    have hbl := HS.out.hl
    rw [obs_len] at hbl
    by_cases hlt : a < b
    · have hlt' : (a : Int) < b := by omega
      obtain ⟨m, hm⟩ : ∃ m, m = (a + b) / 2 := ⟨_, rfl⟩
      have hma : a ≤ m := by omega
      have hmb : m < b := by omega
      obtain ⟨x, hx⟩ : ∃ x, es[m]? = some x := ⟨_, List.getElem?_eq_getElem (by omega)⟩
      obtain ⟨go, cap, cur, e1, e2, e3, e4, e5⟩ := HR.out.ob hx
      simp only [Value.slice.injEq] at e1
      obtain ⟨rfl, _, rfl⟩ := e1
      have hat : wr.cell? ⟨go, m * 6, none⟩ = some (.int .i64 (place (obs es) m : Int)) := e5 0 _ rfl
      have q1 : Int.tdiv ((a : Int) + b) 2 = m := by rw [Int.tdiv_eq_ediv_of_nonneg (by omega)]; omega
      have hml : (m : Int) < es.length := by omega
      have hm0 : (0 : Int) ≤ m := by omega
      have HM := Aside0.mk (And.intro hm (And.intro hma hmb))
      clear hm e2 e3 e4 e5
      by_cases c : (place (obs es) m : Int) < p
      · have HS2 := Aside0.mk (HS.out.up HM.out.2.2 c)
        go_wp2_with fail
        exact ⟨⟨m + 1, b, by rw [Int.natCast_succ], rfl, HS2, HB⟩, by simp only [intOf]; omega⟩
      · have HS2 := Aside0.mk (HS.out.down HM.out.2.1 HM.out.2.2 (by omega))
        go_wp2_with fail
        exact ⟨⟨a, m, rfl, rfl, HS2, HB⟩, by simp only [intOf]; omega⟩
    · obtain rfl : a = b := by omega
      clear hlt hab
      by_cases hn2 : a < es.length
      · have hn2' : (a : Int) < es.length := by omega
        have ha0 : (0 : Int) ≤ a := by omega
        obtain ⟨x, hx⟩ : ∃ x, es[a]? = some x := ⟨_, List.getElem?_eq_getElem (by omega)⟩
        obtain ⟨go, cap, cur, e1, e2, e3, e4, e5⟩ := HR.out.ob hx
        simp only [Value.slice.injEq] at e1
        obtain ⟨rfl, _, rfl⟩ := e1
        have hat : wr.cell? ⟨go, a * 6, none⟩ = some (.int .i64 (place (obs es) a : Int)) := e5 0 _ rfl
        clear e2 e3 e4 e5
        by_cases c : (place (obs es) a : Int) = p
        · have HF := Aside0.mk (fiR_at (by rw [obs_len]; exact hn2) c)
          have hc : ((place (obs es) a : Int) == p) = true := by simp [c]
          clear c
          go_wp2_with fail
          go_ret
          exact ⟨by rw [HF.out]; rfl, HB.out⟩
        · have HF := Aside0.mk (HS.out.fin (fun _ => c))
          have hc : ((place (obs es) a : Int) == p) = false := by simp [c]
          clear c
          go_wp2_with fail
          go_ret
          exact ⟨by rw [HF.out]; rfl, HB.out⟩
      · have hn2' : ¬ (a : Int) < es.length := by omega
        have HF := Aside0.mk (HS.out.fin (fun h => absurd (by rw [obs_len] at h; exact h) hn2))
        clear hn2
        go_wp2_with fail
        go_ret
        exact ⟨by rw [HF.out]; rfl, HB.out⟩
theorem whole.calls {k : Nat} {W : World} {lo : Own} {g sz : Nat} {vo : Value} {es : List RO} (h : RA k W lo g sz vo es) (p : Int) :
    Calls Try.prog 82 #[.pointer (some ⟨g, 0, none⟩), .int .i64 p] W fun e w' => e = .returned (.tuple #[.int .i64 (whR (obs es) p).1, .int .i64 (whR (obs es) p).2]) ∧ Below W.heap.size W w' := by
  have H := Aside0.mk h
  obtain ⟨A, c, hv, hcc⟩ := GenS.own_slice h.tb
  subst hv
  clear h
  go_enter Try.func82, Try.ntmps82
  go_wp2_with fail
  refine (find.calls H.out p).mono ?_
  rintro e w1 ⟨rfl, hb⟩
  have H1 := Aside0.mk (H.out.below hb)
  have HB := Aside0.mk hb
  have hx2 := H1.out.c2
  clear hb
  cases hx : obAt (obs es) p with
  | none =>
    have hw : whR (obs es) p = (0, 23) := by unfold whR badOf; rw [hx]
    rw [show fiR (obs es) p = -1 by unfold fiR; rw [hx]]
    have HW := Aside0.mk hw
    clear hx hw
    go_wp2_with fail
    go_ret2
    exact ⟨by rw [HW.out]; rfl, HB.out⟩
  | some y =>
    obtain ⟨i, o⟩ := y
    obtain ⟨h1, h2⟩ := obAt_some hx
    have hi : i < es.length := by have := (List.getElem?_eq_some_iff.1 h1).1; rwa [obs_len] at this
    obtain ⟨x, hxx⟩ : ∃ x, es[i]? = some x := ⟨_, List.getElem?_eq_getElem hi⟩
    obtain rfl : x.o = o := by have := obs_get hxx; rw [h1] at this; exact (Option.some.inj this).symm
    obtain ⟨go, cap, cur, e1, e2, e3, e4, e5⟩ := H1.out.ob hxx
    simp only [Value.slice.injEq] at e1
    obtain ⟨rfl, _, rfl⟩ := e1
    have hg : w1.cell? ⟨go, i * 6 + 4, none⟩ = some (.bool x.o.gone.isSome) := e5 4 _ rfl
    have hi' : (i : Int) < es.length := by omega
    have hi0 : (0 : Int) ≤ i := by omega
    have hi1 : ¬ (i : Int) < 0 := by omega
    have hf : fiR (obs es) p = i := by unfold fiR; rw [hx]
    rw [hf]
    cases hgs : x.o.gone.isSome with
    | false =>
      have hw : whR (obs es) p = ((i : Int), 0) := by unfold whR badOf; rw [hx]; simp [hgs, hf]
      rw [hgs] at hg
      have HW := Aside0.mk hw
      clear e2 e3 e4 e5 h1 h2 hxx hx hf hgs hw
      go_wp2_with fail
      go_ret2
      exact ⟨by rw [HW.out]; rfl, HB.out⟩
    | true =>
      have hw : whR (obs es) p = (0, 26) := by unfold whR badOf; rw [hx]; simp [hgs]
      rw [hgs] at hg
      have HW := Aside0.mk hw
      clear e2 e3 e4 e5 h1 h2 hxx hx hf hgs hw
      go_wp2_with fail
      go_ret2
      exact ⟨by rw [HW.out]; rfl, HB.out⟩
end Go.Proofs.Ytgjcffjicbmkhaa.RfF
