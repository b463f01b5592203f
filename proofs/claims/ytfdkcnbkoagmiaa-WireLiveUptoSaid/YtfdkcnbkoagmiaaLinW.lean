/- Layer 8: Line walked. -/
import Derived.Test.YtfdkcnbkoagmiaaLinQ
import Derived.Test.YtfdkcnbkoagmiaaOwnL
import Derived.Test.YtfdkcnbkoagmiaaGenL
import Derived.Deep.DeepMust
import Derived.WalkMore
namespace Go.Proofs.Ytfdkcnbkoagmiaa.LinW
open Go Go.RowKit Go.Proofs.YtfdkcnbkoagmiaaW.PrintWords Go.Proofs.YtfdkcnbkoagmiaaW.PrintLast Go.Proofs.YtfdkcnbkoagmiaaW.PrintMore Go.Proofs.Ytfdkcnbkoagmiaa.PA Go.Proofs.Ytfdkcnbkoagmiaa.RowU Go.Proofs.Ytfdkcnbkoagmiaa.ArS Go.Proofs.Ytfdkcnbkoagmiaa.ArM Go.Proofs.Ytfdkcnbkoagmiaa.GenM Go.Proofs.Ytfdkcnbkoagmiaa.GenN Go.Proofs.Ytfdkcnbkoagmiaa.GenL Go.Proofs.Ytfdkcnbkoagmiaa.OwnL Go.Proofs.Ytfdkcnbkoagmiaa.LinQ
open Go.Proofs.Ytfdkcnbkoagmiaa.LinS (inB ln wd qd gapped)
set_option linter.unusedVariables false
set_option maxRecDepth 100000

theorem w64n (n : Nat) (h : n ≤ 2000000000) : wrap64 ((n : Int) + 1) = ((n + 1 : Nat) : Int) := by unfold wrap64; omega
theorem blankW (c : Int) (w : World) : Calls Try.prog 29 #[.int .u8 c] w fun e w' => e = .returned (.bool (LinS.blank c)) ∧ w' = w := by
  unfold LinS.blank
  by_cases h1 : 9 ≤ c
  · by_cases h2 : c ≤ 13
    · rw [decide_eq_true (by omega)]
      go_enter Try.func29, Try.ntmps29
      go_wp2_with fail
      go_ret
      exact ⟨rfl, rfl⟩
    · by_cases h3 : c = 32
      · subst h3
        go_enter Try.func29, Try.ntmps29
        go_wp2_with fail
        go_ret
        exact ⟨rfl, rfl⟩
      · rw [decide_eq_false (by omega)]
        go_enter Try.func29, Try.ntmps29
        go_wp2_with fail
        go_ret
        exact ⟨by simp [h3], rfl⟩
  · have h3 : ¬ c = 32 := by omega
    rw [decide_eq_false (by omega)]
    go_enter Try.func29, Try.ntmps29
    go_wp2_with fail
    go_ret
    exact ⟨by simp [h3], rfl⟩
/-- A byte of what is read. -/
theorem byteAt {w : World} {A : Option Addr} {l : List Int} (h : (Kd.int .u8).C w A l.length l) {i : Nat} (hi : i < l.length) : ∃ ad, A = some ad ∧ w.cell? (ad.add i) = some (.int .u8 l[i]) := by
  obtain ⟨ad, e, hc⟩ := h.2.2 (by omega)
  obtain ⟨cs, c1, c2, c3⟩ := hc i l[i] (List.getElem?_eq_getElem hi)
  have c4 : cs = [Value.int .u8 l[i]] := c2
  subst c4
  have := c3 0 _ rfl
  rw [show (Kd.int .u8).sz = 1 from rfl, Nat.mul_one, Nat.add_zero] at this
  exact ⟨ad, e, this⟩
theorem drop_at {b : List Int} {k : Nat} {x : Int} (h : b[k]? = some x) : b.drop k = x :: b.drop (k + 1) := by
  obtain ⟨hk, rfl⟩ := List.getElem?_eq_some_iff.1 h
  exact List.drop_eq_getElem_cons hk
/-- What quoted answers at place j. -/
def QC (W : World) (ad : Addr) (c : Nat) (b : List Int) (j : Nat) (p : List Int) (n : Int) : Prop := ∀ w', Below W.heap.size W w' → Calls Try.prog 30 #[.slice (some (ad.add j)) (b.length - j) (c - j)] w' fun e w'' => ∃ v0, e = .returned (.tuple #[v0, .int .i64 n]) ∧ Kd.R (Kd.int .u8) 5 w'' w'.heap.size (fun _ => True) v0 p ∧ Below w'.heap.size w' w''
/-- What the loop over words keeps. -/
structure LR (b : List Int) (W w : World) (vo : Value) (k : Nat) (ll : List (List Int)) (O : Nat → Nat) : Prop where
  le : k ≤ b.length
  eq : ln (b.drop k) ll = ln b []
  len : ll.length ≤ k
  ro : RwR w vo ll O
  one : ∀ a, O a ≤ 1
  new : ∀ a, O a ≠ 0 → W.heap.size ≤ a
  bel : Below W.heap.size W w
theorem LR.upd {b : List Int} {W w w' : World} {vo : Value} {k : Nat} {ll : List (List Int)} {O : Nat → Nat} {S : Nat → Prop} (h : LR b W w vo k ll O) (hu : Upd S w w') (hS : ∀ a, O a ≠ 0 → ¬ S a) (hn : ∀ a, S a → W.heap.size ≤ a) : LR b W w' vo k ll O :=
  ⟨h.le, h.eq, h.len, RwR.fit.upd h.ro hu hS, h.one, h.new, Upd.to_below h.bel hu h.bel.size hn⟩
theorem LR.below {b : List Int} {W w w' : World} {vo : Value} {k : Nat} {ll : List (List Int)} {O : Nat → Nat} (h : LR b W w vo k ll O) (hb : Below w.heap.size w w') : LR b W w' vo k ll O := h.upd (S := fun _ => False) (Upd.of_below hb) (fun _ _ hf => hf) (fun _ hf => hf.elim)
/-- A word more. -/
theorem LR.grow {b : List Int} {W w w1 w2 : World} {vo vw v2 : Value} {k j : Nat} {ll : List (List Int)} {wv : List Int} {O Ow O1 : Nat → Nat} {vs : List Value} {x : Int} (h : LR b W w vo k ll O) (hx : b[k]? = some x) (hbl : LinS.blank x = false) (hj : j ≤ b.length) (hkj : k < j) (hw : wd (b.drop k) [] = some (wv, b.drop j))
    (hbw : BtR w vw wv Ow) (hone : ∀ a, O a + Ow a ≤ 1) (hnew : ∀ a, Ow a ≠ 0 → W.heap.size ≤ a) (hel : El BtR w vs ll O1) (hO : ∀ a, O a = oc vo a + O1 a) (hb : Below w.heap.size w w1) (hg : Grew 26 w1 w2 vo v2 vs vw) : ∃ O', LR b W w2 v2 j (ll ++ [wv]) O' := by
  obtain ⟨O', h1, h2, h3⟩ := LAt.grew BtR.fit (hel.upd BtR.fit (S := fun _ => False) (Upd.of_below hb) (fun _ _ hf => hf)) (BtR.fit.upd (S := fun _ => False) hbw (Upd.of_below hb) (fun _ _ hf => hf)) (fun a => by have := hone a; rw [hO] at this; omega) hg
  have hs := hb.size
  have hW := h.bel.size
  refine ⟨O', hj, ?_, by have := h.len; rw [List.length_append, List.length_singleton]; omega, h1, h2, fun a ha => ?_, ?_⟩
  · rw [← h.eq, drop_at hx]
    rw [drop_at hx] at hw
    exact (LinS.ln_word hbl hw).symm
  · by_cases hl : a < w1.heap.size
    · have := h3 a hl
      by_cases h0 : O a = 0
      · exact hnew a (by have := hO a; omega)
      · exact h.new a h0
    · omega
  · have u1 : Below W.heap.size W w1 := below_next h.bel hb
    exact Upd.to_below u1 hg.upd u1.size (fun a ha => h.new a (by rw [hO]; unfold oc; rw [if_pos ha]; omega))
theorem start_one {b : List Int} {W w : World} {vo : Value} {k : Nat} {ll : List (List Int)} {O : Nat → Nat} (h : LR b W w vo k ll O) (a : Nat) : O a + oc (.slice (some ⟨w.heap.size, 0, none⟩) 0 0) a ≤ 1 := by
  by_cases e : w.heap.size = a
  · have : O a = 0 := Decidable.not_not.1 fun hne => by have := RwR.fit.lt h.ro hne; omega
    have := oc_le (.slice (some ⟨w.heap.size, 0, none⟩) 0 0) a
    omega
  · have : oc (.slice (some ⟨w.heap.size, 0, none⟩) 0 0) a = 0 := by
      show (if some w.heap.size = some a then 1 else 0) = 0
      rw [if_neg (fun h => e (Option.some.inj h))]
    have := h.one a
    omega
theorem start_new {b : List Int} {W w : World} {vo : Value} {k : Nat} {ll : List (List Int)} {O : Nat → Nat} (h : LR b W w vo k ll O) {a : Nat} (ha : oc (.slice (some ⟨w.heap.size, 0, none⟩) 0 0) a ≠ 0) : W.heap.size ≤ a := by
  have e : some w.heap.size = some a := oc_ne ha
  have := Option.some.inj e
  have := h.bel.size
  omega
/-- What the loop inside a word keeps. -/
structure WR (b : List Int) (W w : World) (vo vw : Value) (k j : Nat) (ll : List (List Int)) (wv : List Int) (O Ow : Nat → Nat) : Prop where
  lr : LR b W w vo k ll O
  le : k ≤ j ∧ j ≤ b.length
  eq : wd (b.drop j) wv = wd (b.drop k) []
  bw : BtR w vw wv Ow
  one : ∀ a, O a + Ow a ≤ 1
  new : ∀ a, Ow a ≠ 0 → W.heap.size ≤ a
  len : wv.length ≤ j
theorem WR.below {b : List Int} {W w w' : World} {vo vw : Value} {k j : Nat} {ll : List (List Int)} {wv : List Int} {O Ow : Nat → Nat} (h : WR b W w vo vw k j ll wv O Ow) (hb : Below w.heap.size w w') : WR b W w' vo vw k j ll wv O Ow :=
  ⟨h.lr.below hb, h.le, h.eq, BtR.fit.upd (S := fun _ => False) h.bw (Upd.of_below hb) (fun _ _ hf => hf), h.one, h.new, h.len⟩
/-- A byte more. -/
theorem WR.grow {b : List Int} {W w w1 w2 : World} {vo vw v2 : Value} {k j : Nat} {ll : List (List Int)} {wv : List Int} {O Ow : Nat → Nat} {y : Int} (h : WR b W w vo vw k j ll wv O Ow) (hy : b[j]? = some y) (hbl : LinS.blank y = false) (hq : y ≠ 34 ∧ y ≠ 39) (hb : Below w.heap.size w w1) (hg : Grew 5 w1 w2 vw v2 (wv.map (Value.int .u8)) (.int .u8 y)) : WR b W w2 vo v2 k (j + 1) ll (wv ++ [y]) O (oc v2) := by
  have hj := (List.getElem?_eq_some_iff.1 hy).1
  have hu : Upd (fun a => vw.ownBlock = some a) w w2 := (Upd.of_below hb).trans2 hg.upd (fun a ha => .inl ha)
  have hOw := h.bw.2
  have hs := hb.size
  have hne : ∀ a, O a ≠ 0 → ¬ vw.ownBlock = some a := fun a ha e => by have := h.one a; rw [hOw] at this; unfold oc at this; rw [if_pos e] at this; omega
  refine ⟨h.lr.upd hu hne (fun a ha => h.new a (by rw [hOw]; unfold oc; rw [if_pos ha]; omega)), ⟨by have := h.le; omega, by omega⟩, ?_, ⟨?_, fun _ => rfl⟩, fun a => ?_, fun a ha => ?_, by have := h.len; rw [List.length_append, List.length_singleton]; omega⟩
  · rw [← h.eq, drop_at hy]
    show _ = wd (y :: b.drop (j + 1)) wv
    rw [wd, if_neg (by rw [hbl]; decide), if_pos hq]
  · have := hg.gv
    rw [List.map_append]
    exact this
  · by_cases hz : oc v2 a = 0
    · have := h.one a; omega
    · rcases hg.block a (oc_ne hz) with e | e
      · have h1 : oc vw a = 1 := by unfold oc; rw [if_pos e]
        have := h.one a
        have := hOw a
        have := oc_le v2 a
        omega
      · have : O a = 0 := Decidable.not_not.1 fun hne => by have := RwR.fit.lt h.lr.ro hne; omega
        have := oc_le v2 a
        omega
  · rcases hg.block a (oc_ne ha) with e | e
    · exact h.new a (by rw [hOw]; unfold oc; rw [if_pos e]; omega)
    · have := h.lr.bel.size; omega
/-- The quoted part's bytes more. -/
theorem WR.more {b : List Int} {W w w2 : World} {vo vw v2 : Value} {k j : Nat} {ll : List (List Int)} {wv p : List Int} {O Ow : Nat → Nat} (h : WR b W w vo vw k j ll wv O Ow) (hg : GrewL 5 w w2 vw v2 (wv.map (Value.int .u8)) (p.map (Value.int .u8))) : LR b W w2 vo k ll O ∧ BtR w2 v2 (wv ++ p) (oc v2) ∧ (∀ a, O a + oc v2 a ≤ 1) ∧ ∀ a, oc v2 a ≠ 0 → W.heap.size ≤ a := by
  obtain ⟨g1, g2, g3⟩ := hg
  have hOw := h.bw.2
  have hne : ∀ a, O a ≠ 0 → ¬ vw.ownBlock = some a := fun a ha e => by have := h.one a; rw [hOw] at this; unfold oc at this; rw [if_pos e] at this; omega
  refine ⟨h.lr.upd g3 hne (fun a ha => h.new a (by rw [hOw]; unfold oc; rw [if_pos ha]; omega)), ⟨by rw [List.map_append]; exact g1, fun _ => rfl⟩, fun a => ?_, fun a ha => ?_⟩
  · by_cases hz : oc v2 a = 0
    · have := h.one a; omega
    · rcases g2 a (oc_ne hz) with e | e
      · have h1 : oc vw a = 1 := by unfold oc; rw [if_pos e]
        have := h.one a
        have := hOw a
        have := oc_le v2 a
        omega
      · have : O a = 0 := Decidable.not_not.1 fun hne => by have := RwR.fit.lt h.lr.ro hne; omega
        have := oc_le v2 a
        omega
  · rcases g2 a (oc_ne ha) with e | e
    · exact h.new a (by rw [hOw]; unfold oc; rw [if_pos e]; omega)
    · have := h.lr.bel.size; omega
set_option maxHeartbeats 8000000 in
theorem line.calls (A : Option Addr) (c : Nat) (b : List Int) (W : World) (hC : (Kd.int .u8).C W A b.length b) (hb : inB b) (hc : b.length ≤ c) :
    Calls Try.prog 9 #[.slice A b.length c] W fun e w' => ∃ v O, e = .returned (.tuple #[v, .int .i64 (LinS.line b).2]) ∧ RwR w' v (LinS.line b).1 O ∧ (∀ a, O a ≤ 1) ∧ (∀ a, O a ≠ 0 → W.heap.size ≤ a) ∧ Below W.heap.size W w' := by
  have HC := Aside0.mk hC
  have HB := Aside0.mk hb
  have HCC := Aside0.mk hc
  by_cases hl : 1024 < b.length
  · have HE : Aside0 (LinS.line b = ([], 83)) := ⟨by unfold LinS.line; rw [if_pos hl]⟩
    have hl' : (1024 : Int) < (b.length : Int) := by omega
    clear hC hb hc hl
    go_enter Try.func9, Try.ntmps9
    go_wp2_with fail
    go_step3
    go_wp2_with fail
    rw [Exit.noGoto_ret]
    go_ret2
    rw [HE.out]
    exact ⟨_, _, rfl, LAt.nil _ _ _, fun _ => Nat.zero_le _, fun _ h => absurd rfl h, Below.refl _ _⟩
  · have hl' : ¬ (1024 : Int) < (b.length : Int) := by omega
    have HL := Aside0.mk hl
    have hbl : b.length ≤ 1024 := by omega
    have HQ : Aside0 (∀ w', Below W.heap.size W w' → ∀ i, i < b.length → ∃ ad x, A = some ad ∧ w'.cell? (ad.add i) = some (.int .u8 x) ∧ b[i]? = some x) := ⟨fun w' hw i hi => by
      obtain ⟨ad, e, h⟩ := byteAt (Kd.C_below hC hw) hi
      exact ⟨ad, _, e, h, List.getElem?_eq_getElem hi⟩⟩
    clear hC hb hc hl
    go_enter Try.func9, Try.ntmps9
    go_wp2_with fail
    go_step3
    go_wp2_with fail
    go_step3
    go_wp2_with fail
    go_loopw [4, 5] (fun vo i wr => ∃ (k : Nat) (ll : List (List Int)) (O : Nat → Nat), i = .int .i64 k ∧ Aside0 (LR b W wr vo k ll O)) (fun _ i _ => b.length - (intOf i).toNat)
    case atStart => exact ⟨0, [], _, rfl, ⟨⟨Nat.zero_le _, by rw [List.drop_zero], Nat.le_refl _, LAt.nil _ _ _, fun _ => Nat.zero_le _, fun _ h => absurd rfl h, Below.refl _ _⟩⟩⟩
    case round =>
      obtain ⟨k, ll, O, rfl, H⟩ := hrel
      by_cases hk : k < b.length
      · obtain ⟨ad, x, rfl, hx, hbx⟩ := HQ.out wr H.out.bel k hk
        have HX := Aside0.mk hbx
        have hk' : (k : Int) < (b.length : Int) := by omega
        have hk0 : (0 : Int) ≤ (k : Int) := by omega
        clear hbx
        by_cases hbl : LinS.blank x = true
        · have HW := Aside0.mk (w64n k (by omega))
          go_wp2_with (go_at_call 29; refine (blankW _ _).mono ?_; rintro e w2 ⟨rfl, rfl⟩)
          refine ⟨⟨k + 1, ll, O, by rw [Int.natCast_succ], ⟨⟨by omega, ?_, by have := H.out.len; omega, H.out.ro, H.out.one, H.out.new, H.out.bel⟩⟩⟩, by simp only [intOf]; omega⟩
          rw [← H.out.eq, drop_at HX.out, LinS.ln_blank _ _ hbl]
        · have hbl' : LinS.blank x = false := by simpa using hbl
          clear hbl
          go_wp2_with (go_at_call 29; refine (blankW _ _).mono ?_; rintro e w2 ⟨rfl, rfl⟩)
          have HBL := Aside0.mk hbl'
          go_hide hQ
          go_loopw [4, 5, 6] (fun vo i vw w2 => ∃ (j : Nat) (wv : List Int) (Ow : Nat → Nat), i = .int .i64 j ∧ Aside0 (WR b W w2 vo vw k j ll wv O Ow)) (fun _ i _ _ => b.length - (intOf i).toNat)
          case atStart => exact ⟨k, [], _, rfl, ⟨⟨H.out.below (below_alloc (Below.refl _ _) _), ⟨Nat.le_refl _, H.out.le⟩, rfl, ⟨.inr ⟨_, 0, rfl, [], blk_new _ _, rfl, Nat.zero_le _, by decide, rfl⟩, fun _ => rfl⟩, fun a => start_one H.out a, fun a ha => start_new H.out ha, Nat.zero_le _⟩⟩⟩
          case round =>
            obtain ⟨j, wv, Ow, rfl, H1⟩ := hrel
            have hle := H1.out.le
            have hwb := BtR.fit.one H1.out.bw
            by_cases hj : j < b.length
            · obtain ⟨ad', y, e, hy, hby⟩ := HQ.out wr H1.out.lr.bel j hj
              obtain rfl := Option.some.inj e
              have HY := Aside0.mk hby
              have hj' : (j : Int) < (b.length : Int) := by omega
              have hj0 : (0 : Int) ≤ (j : Int) := by omega
              clear hby e
              by_cases hbly : LinS.blank y = true
              · have HKJ : Aside0 (k < j) := ⟨by
                  refine Nat.lt_of_le_of_ne hle.1 (fun e => ?_)
                  subst e
                  have e2 := HX.out.symm.trans HY.out
                  rw [Option.some.inj e2, hbly] at hbl'
                  cases hbl'⟩
                have HWD : Aside0 (wd (b.drop k) [] = some (wv, b.drop j)) := ⟨by rw [← H1.out.eq, drop_at HY.out, wd, if_pos hbly]⟩
                obtain ⟨Aw, cw, rfl, _⟩ := H1.out.bw.slice
                obtain ⟨vs, O1, hgv, hel, hO1⟩ := H1.out.lr.ro
                have HVS : Aside0 (vs.length ≤ 100000000) := ⟨by rw [hel.len]; have := H1.out.lr.len; have := H1.out.lr.le; omega⟩
                have HG := Aside0.mk hgv
                have HE1 := Aside0.mk hel
                have HO1 := Aside0.mk hO1
                obtain ⟨Ao, co, rfl⟩ := hgv.slice
                clear hgv hel hO1
                go_wp2_with (go_at_call 29; refine (blankW _ _).mono ?_; rintro e wb ⟨rfl, rfl⟩)
                subst hQ
                go_upto_region 19 with ((with_reducible refine gate_builtin (b := .append) (xs := #[.tmp 89, .tmp 91]) rfl ?_); at_builtin; refine wpList_gen2 _ rfl (.tmp 89) (.tmp 91) 22 26 rfl Try.underlying22 (.slice none 0 0) 24 (by kernel_rfl) rfl (by decide) (.slice Ao vs.length co) vs rfl ?hv ⟨_, 0, none⟩ (.slice Aw wv.length cw) rfl ?hc rfl ?hb ?_; (case hv => exact HG.out.upd (S := none_) (Upd.of_below (below_alloc (Below.refl _ _) _)) (fun _ _ h => h)); (case hc => exact cell_one_new _ _ _ 0 _ rfl); (case hb => exact HVS.out); intro v5 w5 hr; obtain ⟨O5, hr5⟩ := LR.grow H1.out.lr HX.out HBL.out H1.out.le.2 HKJ.out HWD.out H1.out.bw H1.out.one H1.out.new HE1.out HO1.out (below_alloc (Below.refl _ _) _) hr; have H5 := Aside0.mk hr5; obtain ⟨g5, c5, e5⟩ := hr.form; subst e5; clear hr hr5)
                exact ⟨⟨j, _, O5, rfl, H5⟩, by simp only [intOf]; have := HKJ.out; omega⟩
              · have hbly' : LinS.blank y = false := by simpa using hbly
                clear hbly
                have HBY := Aside0.mk hbly'
                by_cases hq : y = 34 ∨ y = 39
                · have hw0 : wd (b.drop k) [] = (match qd y (b.drop (j + 1)) [] 1 with | none => none | some (p, n) => if gapped (b.drop (j + n)) = true then some (wv ++ p, b.drop (j + n)) else none) := by
                    rw [← H1.out.eq, drop_at HY.out, wd, if_neg (by rw [hbly']; decide), if_neg (fun h => hq.elim h.1 h.2)]
                    cases qd y (b.drop (j + 1)) [] 1 with
                    | none => rfl
                    | some pn =>
                      obtain ⟨p, n⟩ := pn
                      dsimp only
                      rw [← drop_at HY.out, List.drop_drop]
                  have hqs : QC W ad c b j (qans (qd y (b.drop (j + 1)) [] 1)).1 (qans (qd y (b.drop (j + 1)) [] 1)).2 := fun w' hw' => by
                    have hcb := HCC.out
                    have h1 := Kd.C_drop (m := j) (Kd.C_below HC.out hw') (by omega) hcb
                    rw [if_neg (by omega), show (Kd.int .u8).sz = 1 from rfl, Nat.mul_one] at h1
                    have h2 := quoted_f y (b.drop (j + 1)) hq (fun z hz => HB.out z (List.mem_of_mem_drop hz)) (by rw [List.length_drop]; omega)
                    rw [← drop_at HY.out] at h2
                    have := wire_quoted.calls _ (some (ad.add j)) (c - j) (b.drop j) _ _ w' h1 (by rw [List.length_drop]; omega) h2
                    rw [List.length_drop] at this
                    exact this
                  cases hZ : qd y (b.drop (j + 1)) [] 1 with
                  | none =>
                    rw [hZ] at hqs hw0
                    have HQS : Aside0 (QC W ad c b j [] 0) := ⟨hqs⟩
                    have HE : Aside0 (LinS.line b = ([], 84)) := ⟨by
                      have e1 := H1.out.lr.eq
                      rw [drop_at HX.out] at e1 hw0
                      rw [LinS.ln_none HBL.out hw0] at e1
                      unfold LinS.line
                      rw [if_neg HL.out, ← e1]⟩
                    have hcj : ¬ c = j := by have := HCC.out; omega
                    clear hqs hw0 hZ
                    rcases hq with rfl | rfl
                    · go_wp2_with (first | (go_at_call 29; refine (blankW _ _).mono ?_; rintro e wb ⟨rfl, rfl⟩) | (go_at_call 30; refine (HQS.out _ H1.out.lr.bel).mono ?_; rintro e w3 ⟨v0, rfl, hR, hb3⟩; obtain ⟨A2, c2, rfl, _, _⟩ := Kd.R_reads hR; have H3 := Aside0.mk (H1.out.below hb3); clear hR hb3))
                      subst hQ
                      go_wp2_with fail
                      (try rw [Exit.noGoto_ret])
                      go_ret2
                      rw [HE.out]
                      exact ⟨_, _, rfl, LAt.nil _ _ _, fun _ => Nat.zero_le _, fun _ h => absurd rfl h, H3.out.lr.bel⟩
                    · go_wp2_with (first | (go_at_call 29; refine (blankW _ _).mono ?_; rintro e wb ⟨rfl, rfl⟩) | (go_at_call 30; refine (HQS.out _ H1.out.lr.bel).mono ?_; rintro e w3 ⟨v0, rfl, hR, hb3⟩; obtain ⟨A2, c2, rfl, _, _⟩ := Kd.R_reads hR; have H3 := Aside0.mk (H1.out.below hb3); clear hR hb3))
                      subst hQ
                      go_wp2_with fail
                      (try rw [Exit.noGoto_ret])
                      go_ret2
                      rw [HE.out]
                      exact ⟨_, _, rfl, LAt.nil _ _ _, fun _ => Nat.zero_le _, fun _ h => absurd rfl h, H3.out.lr.bel⟩
                  | some pn =>
                    obtain ⟨p, n⟩ := pn
                    have hql := LinS.qd_le y _ (b.drop (j + 1)) [] 1 p n (Nat.le_refl _) hZ
                    rw [hZ] at hqs hw0
                    dsimp only at hw0
                    rw [List.length_drop, List.length_nil] at hql
                    have HQS : Aside0 (QC W ad c b j p (n : Int)) := ⟨hqs⟩
                    obtain ⟨m, hm⟩ : ∃ m, m = j + n := ⟨_, rfl⟩
                    rw [← hm] at hw0
                    have hcj : ¬ c = j := by have := HCC.out; omega
                    have HM : Aside0 (m ≤ b.length ∧ k < m) := ⟨by omega⟩
                    have hn0 : ¬ (n : Int) = 0 := by omega
                    have hwl := H1.out.len
                    have hpl : wv.length + p.length ≤ 1000000000 := by omega
                    have hwm0 : wrap64 ((j : Int) + (n : Int)) = (m : Int) := by rw [show (j : Int) + (n : Int) = (m : Int) by omega]; unfold wrap64; omega
                    have HWM := Aside0.mk hwm0
                    obtain ⟨Aw, cw, rfl, _⟩ := H1.out.bw.slice
                    obtain ⟨Ao, co, rfl⟩ := H1.out.lr.ro.slice
                    clear hqs hZ hwm0
                    by_cases hg : gapped (b.drop m) = true
                    · rw [if_pos hg] at hw0
                      have HWD := Aside0.mk hw0
                      clear hw0
                      by_cases hml : m < b.length
                      · obtain ⟨z, hz⟩ : ∃ z, b[m]? = some z := ⟨_, List.getElem?_eq_getElem hml⟩
                        have HZ := Aside0.mk hz
                        have HML := Aside0.mk hml
                        have hzb : LinS.blank z = true := by rw [drop_at hz] at hg; exact hg
                        have hm1 : (m : Int) < (b.length : Int) := by omega
                        have hm0 : (0 : Int) ≤ (m : Int) := by omega
                        clear hz hg hql hm hle hwl hml
                        have hwm := HWM.out
                        rcases hq with rfl | rfl
                        · go_upto_region 19 with (first | (go_at_call 29; refine (blankW _ _).mono ?_; rintro e wb ⟨rfl, rfl⟩) | (go_at_call 30; refine (HQS.out _ H1.out.lr.bel).mono ?_; rintro e w3 ⟨v0, rfl, hR, hb3⟩; obtain ⟨A2, c2, rfl, _, hC2⟩ := Kd.R_reads hR; have HC2 := Aside0.mk hC2; have H3 := Aside0.mk (H1.out.below hb3); have hz3 : w3.cell? (ad.add m) = some (.int .u8 z) := (by obtain ⟨ad3, z3, e3, h3, b3⟩ := HQ.out w3 H3.out.lr.bel m HML.out; obtain rfl := Option.some.inj e3; rw [HZ.out] at b3; obtain rfl := Option.some.inj b3; exact h3); clear hR hb3 hC2) | ((with_reducible refine gate_builtin (b := .append) (xs := #[.tmp 84, .tmp 85]) rfl ?_); at_builtin; refine wpList_bytes _ rfl (.tmp 84) (.tmp 85) rfl (.slice Aw wv.length cw) (wv.map (Value.int .u8)) rfl H3.out.bw.1 A2 c2 p rfl HC2.out (by rw [List.length_map]; omega) ?_; intro v4 w4 hr4; have H4 := Aside0.mk (WR.more H3.out hr4); obtain ⟨A4, c4, e4, _⟩ := H4.out.2.1.slice; rw [List.length_append] at e4; subst e4; obtain ⟨vs, O1, hgv, hel, hO1⟩ := H4.out.1.ro; have HG := Aside0.mk hgv; have HE1 := Aside0.mk hel; have HO1 := Aside0.mk hO1; have HVS : Aside0 (vs.length ≤ 100000000) := ⟨by rw [hel.len]; have := H4.out.1.len; have := H4.out.1.le; omega⟩; clear hr4 hgv hel hO1) | ((with_reducible refine gate_builtin (b := .append) (xs := #[.tmp 83, .tmp 87]) rfl ?_); at_builtin; refine wpList_gen2 _ rfl (.tmp 83) (.tmp 87) 22 26 rfl Try.underlying22 (.slice none 0 0) 24 (by kernel_rfl) rfl (by decide) (.slice Ao ll.length co) vs rfl ?hv ⟨_, 0, none⟩ (.slice A4 (wv.length + p.length) c4) rfl ?hc rfl ?hb ?_; (case hv => exact HG.out.upd (S := none_) (Upd.of_below (below_alloc (Below.refl _ _) _)) (fun _ _ h => h)); (case hc => exact cell_one_new _ _ _ 0 _ rfl); (case hb => exact HVS.out); intro v5 w5 hr; obtain ⟨O5, hr5⟩ := LR.grow H4.out.1 HX.out HBL.out HM.out.1 HM.out.2 HWD.out H4.out.2.1 H4.out.2.2.1 H4.out.2.2.2 HE1.out HO1.out (below_alloc (Below.refl _ _) _) hr; have H5 := Aside0.mk hr5; obtain ⟨g5, c5, e5⟩ := hr.form; subst e5; clear hr hr5))
                          subst hQ
                          go_wp2_with fail
                          exact ⟨⟨m, _, O5, rfl, H5⟩, by have := HM.out; simp only [intOf]; omega⟩
                        · go_upto_region 19 with (first | (go_at_call 29; refine (blankW _ _).mono ?_; rintro e wb ⟨rfl, rfl⟩) | (go_at_call 30; refine (HQS.out _ H1.out.lr.bel).mono ?_; rintro e w3 ⟨v0, rfl, hR, hb3⟩; obtain ⟨A2, c2, rfl, _, hC2⟩ := Kd.R_reads hR; have HC2 := Aside0.mk hC2; have H3 := Aside0.mk (H1.out.below hb3); have hz3 : w3.cell? (ad.add m) = some (.int .u8 z) := (by obtain ⟨ad3, z3, e3, h3, b3⟩ := HQ.out w3 H3.out.lr.bel m HML.out; obtain rfl := Option.some.inj e3; rw [HZ.out] at b3; obtain rfl := Option.some.inj b3; exact h3); clear hR hb3 hC2) | ((with_reducible refine gate_builtin (b := .append) (xs := #[.tmp 84, .tmp 85]) rfl ?_); at_builtin; refine wpList_bytes _ rfl (.tmp 84) (.tmp 85) rfl (.slice Aw wv.length cw) (wv.map (Value.int .u8)) rfl H3.out.bw.1 A2 c2 p rfl HC2.out (by rw [List.length_map]; omega) ?_; intro v4 w4 hr4; have H4 := Aside0.mk (WR.more H3.out hr4); obtain ⟨A4, c4, e4, _⟩ := H4.out.2.1.slice; rw [List.length_append] at e4; subst e4; obtain ⟨vs, O1, hgv, hel, hO1⟩ := H4.out.1.ro; have HG := Aside0.mk hgv; have HE1 := Aside0.mk hel; have HO1 := Aside0.mk hO1; have HVS : Aside0 (vs.length ≤ 100000000) := ⟨by rw [hel.len]; have := H4.out.1.len; have := H4.out.1.le; omega⟩; clear hr4 hgv hel hO1) | ((with_reducible refine gate_builtin (b := .append) (xs := #[.tmp 83, .tmp 87]) rfl ?_); at_builtin; refine wpList_gen2 _ rfl (.tmp 83) (.tmp 87) 22 26 rfl Try.underlying22 (.slice none 0 0) 24 (by kernel_rfl) rfl (by decide) (.slice Ao ll.length co) vs rfl ?hv ⟨_, 0, none⟩ (.slice A4 (wv.length + p.length) c4) rfl ?hc rfl ?hb ?_; (case hv => exact HG.out.upd (S := none_) (Upd.of_below (below_alloc (Below.refl _ _) _)) (fun _ _ h => h)); (case hc => exact cell_one_new _ _ _ 0 _ rfl); (case hb => exact HVS.out); intro v5 w5 hr; obtain ⟨O5, hr5⟩ := LR.grow H4.out.1 HX.out HBL.out HM.out.1 HM.out.2 HWD.out H4.out.2.1 H4.out.2.2.1 H4.out.2.2.2 HE1.out HO1.out (below_alloc (Below.refl _ _) _) hr; have H5 := Aside0.mk hr5; obtain ⟨g5, c5, e5⟩ := hr.form; subst e5; clear hr hr5))
                          subst hQ
                          go_wp2_with fail
                          exact ⟨⟨m, _, O5, rfl, H5⟩, by have := HM.out; simp only [intOf]; omega⟩
                      · have hm1 : ¬ (m : Int) < (b.length : Int) := by omega
                        clear hg hql hm hle hwl hml
                        have hwm := HWM.out
                        rcases hq with rfl | rfl
                        · go_upto_region 19 with (first | (go_at_call 29; refine (blankW _ _).mono ?_; rintro e wb ⟨rfl, rfl⟩) | (go_at_call 30; refine (HQS.out _ H1.out.lr.bel).mono ?_; rintro e w3 ⟨v0, rfl, hR, hb3⟩; obtain ⟨A2, c2, rfl, _, hC2⟩ := Kd.R_reads hR; have HC2 := Aside0.mk hC2; have H3 := Aside0.mk (H1.out.below hb3); clear hR hb3 hC2) | ((with_reducible refine gate_builtin (b := .append) (xs := #[.tmp 84, .tmp 85]) rfl ?_); at_builtin; refine wpList_bytes _ rfl (.tmp 84) (.tmp 85) rfl (.slice Aw wv.length cw) (wv.map (Value.int .u8)) rfl H3.out.bw.1 A2 c2 p rfl HC2.out (by rw [List.length_map]; omega) ?_; intro v4 w4 hr4; have H4 := Aside0.mk (WR.more H3.out hr4); obtain ⟨A4, c4, e4, _⟩ := H4.out.2.1.slice; rw [List.length_append] at e4; subst e4; obtain ⟨vs, O1, hgv, hel, hO1⟩ := H4.out.1.ro; have HG := Aside0.mk hgv; have HE1 := Aside0.mk hel; have HO1 := Aside0.mk hO1; have HVS : Aside0 (vs.length ≤ 100000000) := ⟨by rw [hel.len]; have := H4.out.1.len; have := H4.out.1.le; omega⟩; clear hr4 hgv hel hO1) | ((with_reducible refine gate_builtin (b := .append) (xs := #[.tmp 83, .tmp 87]) rfl ?_); at_builtin; refine wpList_gen2 _ rfl (.tmp 83) (.tmp 87) 22 26 rfl Try.underlying22 (.slice none 0 0) 24 (by kernel_rfl) rfl (by decide) (.slice Ao ll.length co) vs rfl ?hv ⟨_, 0, none⟩ (.slice A4 (wv.length + p.length) c4) rfl ?hc rfl ?hb ?_; (case hv => exact HG.out.upd (S := none_) (Upd.of_below (below_alloc (Below.refl _ _) _)) (fun _ _ h => h)); (case hc => exact cell_one_new _ _ _ 0 _ rfl); (case hb => exact HVS.out); intro v5 w5 hr; obtain ⟨O5, hr5⟩ := LR.grow H4.out.1 HX.out HBL.out HM.out.1 HM.out.2 HWD.out H4.out.2.1 H4.out.2.2.1 H4.out.2.2.2 HE1.out HO1.out (below_alloc (Below.refl _ _) _) hr; have H5 := Aside0.mk hr5; obtain ⟨g5, c5, e5⟩ := hr.form; subst e5; clear hr hr5))
                          subst hQ
                          go_wp2_with fail
                          exact ⟨⟨m, _, O5, rfl, H5⟩, by have := HM.out; simp only [intOf]; omega⟩
                        · go_upto_region 19 with (first | (go_at_call 29; refine (blankW _ _).mono ?_; rintro e wb ⟨rfl, rfl⟩) | (go_at_call 30; refine (HQS.out _ H1.out.lr.bel).mono ?_; rintro e w3 ⟨v0, rfl, hR, hb3⟩; obtain ⟨A2, c2, rfl, _, hC2⟩ := Kd.R_reads hR; have HC2 := Aside0.mk hC2; have H3 := Aside0.mk (H1.out.below hb3); clear hR hb3 hC2) | ((with_reducible refine gate_builtin (b := .append) (xs := #[.tmp 84, .tmp 85]) rfl ?_); at_builtin; refine wpList_bytes _ rfl (.tmp 84) (.tmp 85) rfl (.slice Aw wv.length cw) (wv.map (Value.int .u8)) rfl H3.out.bw.1 A2 c2 p rfl HC2.out (by rw [List.length_map]; omega) ?_; intro v4 w4 hr4; have H4 := Aside0.mk (WR.more H3.out hr4); obtain ⟨A4, c4, e4, _⟩ := H4.out.2.1.slice; rw [List.length_append] at e4; subst e4; obtain ⟨vs, O1, hgv, hel, hO1⟩ := H4.out.1.ro; have HG := Aside0.mk hgv; have HE1 := Aside0.mk hel; have HO1 := Aside0.mk hO1; have HVS : Aside0 (vs.length ≤ 100000000) := ⟨by rw [hel.len]; have := H4.out.1.len; have := H4.out.1.le; omega⟩; clear hr4 hgv hel hO1) | ((with_reducible refine gate_builtin (b := .append) (xs := #[.tmp 83, .tmp 87]) rfl ?_); at_builtin; refine wpList_gen2 _ rfl (.tmp 83) (.tmp 87) 22 26 rfl Try.underlying22 (.slice none 0 0) 24 (by kernel_rfl) rfl (by decide) (.slice Ao ll.length co) vs rfl ?hv ⟨_, 0, none⟩ (.slice A4 (wv.length + p.length) c4) rfl ?hc rfl ?hb ?_; (case hv => exact HG.out.upd (S := none_) (Upd.of_below (below_alloc (Below.refl _ _) _)) (fun _ _ h => h)); (case hc => exact cell_one_new _ _ _ 0 _ rfl); (case hb => exact HVS.out); intro v5 w5 hr; obtain ⟨O5, hr5⟩ := LR.grow H4.out.1 HX.out HBL.out HM.out.1 HM.out.2 HWD.out H4.out.2.1 H4.out.2.2.1 H4.out.2.2.2 HE1.out HO1.out (below_alloc (Below.refl _ _) _) hr; have H5 := Aside0.mk hr5; obtain ⟨g5, c5, e5⟩ := hr.form; subst e5; clear hr hr5))
                          subst hQ
                          go_wp2_with fail
                          exact ⟨⟨m, _, O5, rfl, H5⟩, by have := HM.out; simp only [intOf]; omega⟩
                    · rw [if_neg hg] at hw0
                      have hml : m < b.length := by
                        refine Nat.lt_of_not_le (fun hle => hg ?_)
                        rw [List.drop_of_length_le hle]
                        rfl
                      have HE : Aside0 (LinS.line b = ([], 84)) := ⟨by
                        have e1 := H1.out.lr.eq
                        rw [drop_at HX.out] at e1 hw0
                        rw [LinS.ln_none HBL.out hw0] at e1
                        unfold LinS.line
                        rw [if_neg HL.out, ← e1]⟩
                      obtain ⟨z, hz⟩ : ∃ z, b[m]? = some z := ⟨_, List.getElem?_eq_getElem hml⟩
                      have HZ := Aside0.mk hz
                      have HML := Aside0.mk hml
                      have hzb : LinS.blank z = false := by
                        rw [drop_at hz] at hg
                        exact Bool.eq_false_iff.2 hg
                      have hm1 : (m : Int) < (b.length : Int) := by omega
                      have hm0 : (0 : Int) ≤ (m : Int) := by omega
                      clear hz hg hql hm hle hwl hml hw0
                      have hwm := HWM.out
                      rcases hq with rfl | rfl
                      · go_wp2_with (first | (go_at_call 29; refine (blankW _ _).mono ?_; rintro e wb ⟨rfl, rfl⟩) | (go_at_call 30; refine (HQS.out _ H1.out.lr.bel).mono ?_; rintro e w3 ⟨v0, rfl, hR, hb3⟩; obtain ⟨A2, c2, rfl, _, hC2⟩ := Kd.R_reads hR; have HC2 := Aside0.mk hC2; have H3 := Aside0.mk (H1.out.below hb3); have hz3 : w3.cell? (ad.add m) = some (.int .u8 z) := (by obtain ⟨ad3, z3, e3, h3, b3⟩ := HQ.out w3 H3.out.lr.bel m HML.out; obtain rfl := Option.some.inj e3; rw [HZ.out] at b3; obtain rfl := Option.some.inj b3; exact h3); clear hR hb3 hC2))
                        subst hQ
                        go_wp2_with fail
                        (try rw [Exit.noGoto_ret])
                        go_ret2
                        rw [HE.out]
                        exact ⟨_, _, rfl, LAt.nil _ _ _, fun _ => Nat.zero_le _, fun _ h => absurd rfl h, H3.out.lr.bel⟩
                      · go_wp2_with (first | (go_at_call 29; refine (blankW _ _).mono ?_; rintro e wb ⟨rfl, rfl⟩) | (go_at_call 30; refine (HQS.out _ H1.out.lr.bel).mono ?_; rintro e w3 ⟨v0, rfl, hR, hb3⟩; obtain ⟨A2, c2, rfl, _, hC2⟩ := Kd.R_reads hR; have HC2 := Aside0.mk hC2; have H3 := Aside0.mk (H1.out.below hb3); have hz3 : w3.cell? (ad.add m) = some (.int .u8 z) := (by obtain ⟨ad3, z3, e3, h3, b3⟩ := HQ.out w3 H3.out.lr.bel m HML.out; obtain rfl := Option.some.inj e3; rw [HZ.out] at b3; obtain rfl := Option.some.inj b3; exact h3); clear hR hb3 hC2))
                        subst hQ
                        go_wp2_with fail
                        (try rw [Exit.noGoto_ret])
                        go_ret2
                        rw [HE.out]
                        exact ⟨_, _, rfl, LAt.nil _ _ _, fun _ => Nat.zero_le _, fun _ h => absurd rfl h, H3.out.lr.bel⟩
                · have hq1 : ¬ y = 34 := fun h => hq (.inl h)
                  have hq2 : ¬ y = 39 := fun h => hq (.inr h)
                  have hb1 : (y != 34) = true := by simpa using hq1
                  have hb2 : (y != 39) = true := by simpa using hq2
                  have hwl := H1.out.len
                  have HD : Aside0 (b.length - (j + 1) < b.length - j) := ⟨by omega⟩
                  clear hq
                  obtain ⟨Aw, cw, rfl, _⟩ := H1.out.bw.slice
                  go_upto_region 12 with (first | (go_at_call 29; refine (blankW _ _).mono ?_; rintro e wb ⟨rfl, rfl⟩) | ((with_reducible refine gate_builtin (b := .append) (xs := #[.tmp 48, .tmp 53]) rfl ?_); at_builtin; refine wpList_gen2 _ rfl (.tmp 48) (.tmp 53) 26 5 rfl Try.underlying26 (.int .u8 0) 1 (by kernel_rfl) rfl (by decide) (.slice Aw wv.length cw) (wv.map (Value.int .u8)) rfl ?hv ⟨_, 0, none⟩ (.int .u8 y) rfl ?hc rfl ?hb ?_; (case hv => exact H1.out.bw.1.upd (S := none_) (Upd.of_below (below_alloc (Below.refl _ _) _)) (fun _ _ h => h)); (case hc => exact cell_one_new _ _ _ 0 _ rfl); (case hb => rw [List.length_map]; omega); intro v5 w5 hr; have H5 := Aside0.mk (WR.grow H1.out HY.out HBY.out ⟨hq1, hq2⟩ (below_alloc (Below.refl _ _) _) hr); clear hr hy))
                  go_wp2_with fail
                  exact ⟨⟨j + 1, _, _, by rw [Int.natCast_succ], H5⟩, by have := HD.out; simp only [intOf]; omega⟩
            · have hjl : j = b.length := by omega
              have HKJ : Aside0 (k < j) := ⟨by omega⟩
              have HWD : Aside0 (wd (b.drop k) [] = some (wv, b.drop j)) := ⟨by rw [← H1.out.eq, hjl, List.drop_length]; rfl⟩
              have hj' : ¬ (j : Int) < (b.length : Int) := by omega
              clear hjl hj
              obtain ⟨Aw, cw, rfl, _⟩ := H1.out.bw.slice
              obtain ⟨vs, O1, hgv, hel, hO1⟩ := H1.out.lr.ro
              have HVS : Aside0 (vs.length ≤ 100000000) := ⟨by rw [hel.len]; have := H1.out.lr.len; have := H1.out.lr.le; omega⟩
              have HG := Aside0.mk hgv
              have HE1 := Aside0.mk hel
              have HO1 := Aside0.mk hO1
              obtain ⟨Ao, co, rfl⟩ := hgv.slice
              clear hgv hel hO1
              go_wp2_with (go_at_call 29; refine (blankW _ _).mono ?_; rintro e wb ⟨rfl, rfl⟩)
              subst hQ
              go_upto_region 19 with ((with_reducible refine gate_builtin (b := .append) (xs := #[.tmp 89, .tmp 91]) rfl ?_); at_builtin; refine wpList_gen2 _ rfl (.tmp 89) (.tmp 91) 22 26 rfl Try.underlying22 (.slice none 0 0) 24 (by kernel_rfl) rfl (by decide) (.slice Ao vs.length co) vs rfl ?hv ⟨_, 0, none⟩ (.slice Aw wv.length cw) rfl ?hc rfl ?hb ?_; (case hv => exact HG.out.upd (S := none_) (Upd.of_below (below_alloc (Below.refl _ _) _)) (fun _ _ h => h)); (case hc => exact cell_one_new _ _ _ 0 _ rfl); (case hb => exact HVS.out); intro v5 w5 hr; obtain ⟨O5, hr5⟩ := LR.grow H1.out.lr HX.out HBL.out H1.out.le.2 HKJ.out HWD.out H1.out.bw H1.out.one H1.out.new HE1.out HO1.out (below_alloc (Below.refl _ _) _) hr; have H5 := Aside0.mk hr5; obtain ⟨g5, c5, e5⟩ := hr.form; subst e5; clear hr hr5)
              exact ⟨⟨j, _, O5, rfl, H5⟩, by simp only [intOf]; have := HKJ.out; omega⟩
      · obtain rfl : k = b.length := by have := H.out.le; omega
        clear hk
        obtain ⟨Ao, co, rfl⟩ := H.out.ro.slice
        have hln : ln b [] = some ll := by
          have := H.out.eq
          rw [List.drop_length, LinS.ln_nil] at this
          exact this.symm
        have hll := H.out.len
        by_cases h128 : 128 < ll.length
        · have HE : Aside0 (LinS.line b = ([], 83)) := ⟨by unfold LinS.line; rw [if_neg HL.out, hln]; dsimp only; rw [if_pos h128]⟩
          have h128' : (128 : Int) < (ll.length : Int) := by omega
          clear hln hll h128
          go_wp2_with fail
          (try rw [Exit.noGoto_ret])
          go_ret2
          rw [HE.out]
          exact ⟨_, _, rfl, LAt.nil _ _ _, fun _ => Nat.zero_le _, fun _ h => absurd rfl h, H.out.bel⟩
        · have HE : Aside0 (LinS.line b = (ll, 0)) := ⟨by unfold LinS.line; rw [if_neg HL.out, hln]; dsimp only; rw [if_neg h128]⟩
          have h128' : ¬ (128 : Int) < (ll.length : Int) := by omega
          clear hln hll h128
          go_wp2_with fail
          (try rw [Exit.noGoto_ret])
          go_ret2
          rw [HE.out]
          exact ⟨_, _, rfl, H.out.ro, H.out.one, H.out.new, H.out.bel⟩
end Go.Proofs.Ytfdkcnbkoagmiaa.LinW
