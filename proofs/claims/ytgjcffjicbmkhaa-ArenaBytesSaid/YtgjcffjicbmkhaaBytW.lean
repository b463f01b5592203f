/- ArenaBytes walked. -/
import Derived.Test.YtgjcffjicbmkhaaBytO
import Derived.Deep.QuietTactic
import Derived.BigQuiet
import Derived.Deep.DeepMust
import Derived.Deep.RegionHeld3
namespace Go.Proofs.Ytgjcffjicbmkhaa.BytW
open Go Go.RowKit Go.Proofs.YtgjcffjicbmkhaaW.PrintWords Go.Proofs.YtgjcffjicbmkhaaW.PrintLast Go.Proofs.YtgjcffjicbmkhaaW.PrintMore Go.Proofs.Ytgjcffjicbmkhaa.PF Go.Proofs.Ytgjcffjicbmkhaa.MemO Go.Proofs.Ytgjcffjicbmkhaa.RowU Go.Proofs.Ytgjcffjicbmkhaa.ArS Go.Proofs.Ytgjcffjicbmkhaa.ArM Go.Proofs.Ytgjcffjicbmkhaa.ArW Go.Proofs.Ytgjcffjicbmkhaa.ArX Go.Proofs.Ytgjcffjicbmkhaa.ArY Go.Proofs.Ytgjcffjicbmkhaa.ArZ Go.Proofs.Ytgjcffjicbmkhaa.GenM Go.Proofs.Ytgjcffjicbmkhaa.ArV Go.Proofs.Ytgjcffjicbmkhaa.ArB Go.Proofs.Ytgjcffjicbmkhaa.ArC Go.Proofs.Ytgjcffjicbmkhaa.RowB Go.Proofs.Ytgjcffjicbmkhaa.TakS Go.Proofs.Ytgjcffjicbmkhaa.FillL Go.Proofs.Ytgjcffjicbmkhaa.BytO
set_option linter.unusedVariables false
set_option maxRecDepth 100000

/-- All bits. -/
def topN : Nat := 18446744073709551615
theorem top_int : (18446744073709551615 : Int) = (topN : Int) := by unfold topN; rfl
/-- The three shapes. -/
def shapes (r s : Nat) : List S28 := [⟨2, 0, 3⟩, ⟨3, r, s⟩, ⟨4, 2, 1⟩]
theorem shapes_ok (r s : Nat) (hr : r ≤ 24) (hs : s ≤ 24) : ∀ x ∈ shapes r s, ShOk x := by
  intro x hx
  unfold shapes at hx
  rcases List.mem_cons.1 hx with rfl | hx
  · exact ⟨by decide, by decide, by decide, by decide, by decide, by decide⟩
  · rcases List.mem_cons.1 hx with rfl | hx
    · exact ⟨by show (1 : Int) ≤ 3; decide, by show (3 : Int) ≤ 255; decide, by show (0 : Int) ≤ r; omega, by show (r : Int) ≤ 24; omega, by show (0 : Int) ≤ s; omega, by show (s : Int) ≤ 24; omega⟩
    · rw [List.mem_singleton.1 hx]; exact ⟨by decide, by decide, by decide, by decide, by decide, by decide⟩
theorem shapes_cells (W : World) (r s : Nat) (g : Nat) (h : W.heap[g]? = some (.cells #[.int .i64 2, .int .i64 0, .int .i64 3, .int .i64 3, .int .i64 (r : Int), .int .i64 (s : Int), .int .i64 4, .int .i64 2, .int .i64 1] 28 (0, 0))) :
    Kd.C k28 W (some ⟨g, 0, none⟩) (shapes r s).length (shapes r s) := by
  refine ⟨rfl, by show 3 ≤ 9223372036854775807; decide, fun _ => ⟨_, rfl, fun j p hp => ?_⟩⟩
  have hc := fun n => blk_cell h n
  rcases j with _ | _ | _ | j
  · obtain rfl : (⟨2, 0, 3⟩ : S28) = p := by simpa [shapes] using hp
    refine ⟨_, rfl, k28_mk W _, fun i u hu => ?_⟩
    rcases i with _ | _ | _ | i <;> simp at hu <;> (subst hu; rw [Addr.add_lit]; exact (hc _).trans rfl)
  · obtain rfl : (⟨3, r, s⟩ : S28) = p := by simpa [shapes] using hp
    refine ⟨_, rfl, k28_mk W _, fun i u hu => ?_⟩
    rcases i with _ | _ | _ | i <;> simp at hu <;> (subst hu; rw [Addr.add_lit]; exact (hc _).trans rfl)
  · obtain rfl : (⟨4, 2, 1⟩ : S28) = p := by simpa [shapes] using hp
    refine ⟨_, rfl, k28_mk W _, fun i u hu => ?_⟩
    rcases i with _ | _ | _ | i <;> simp at hu <;> (subst hu; rw [Addr.add_lit]; exact (hc _).trans rfl)
  · simp [shapes] at hp
/-- What the walk keeps: three objects. -/
structure By (Wf wr : World) (r s N : Nat) (g gw gf : Nat) (va : Value) (a0 a1 a2 : Ob) : Prop where
  ar : ArAt wr g gw gf N [a0, a1, a2]
  at_ : GV 3 wr va (placesV (shapes r s) 3)
  s0 : a0.gone = none ∧ a0.fields.length = 3
  s1 : a1.gone = none ∧ a1.refs = r ∧ a1.fields.length = r + s ∧ ∀ i, i < r → a1.fields[i]? = some 0
  s2 : a2.gone = none ∧ a2.fields.length = 3
  p0 : place [a0, a1, a2] 0 = place (obsOf (shapes r s)) 0
  p1 : place [a0, a1, a2] 1 = place (obsOf (shapes r s)) 1
  p2 : place [a0, a1, a2] 2 = place (obsOf (shapes r s)) 2
  g0 : Wf.heap.size ≤ g
  gw0 : Wf.heap.size ≤ gw
  gf0 : Wf.heap.size ≤ gf
  va0 : ∀ k, va.ownBlock = some k → Wf.heap.size ≤ k
  below : Below Wf.heap.size Wf wr
theorem By.move {Wf wr w' : World} {r s N g gw gf : Nat} {va : Value} {a0 a1 a2 : Ob} (h : By Wf wr r s N g gw gf va a0 a1 a2) (hb : Below wr.heap.size wr w') : By Wf w' r s N g gw gf va a0 a1 a2 :=
  ⟨h.ar.below hb, h.at_.upd (S := none_) (Upd.of_below hb) (fun _ _ h => h), h.s0, h.s1, h.s2, h.p0, h.p1, h.p2, h.g0, h.gw0, h.gf0, h.va0, below_next h.below hb⟩
theorem By.upd {Wf wr w' : World} {r s N g gw gf : Nat} {va : Value} {a0 a1 a2 b0 b1 b2 : Ob} (h : By Wf wr r s N g gw gf va a0 a1 a2) (hA : ArAt w' g gw gf N [b0, b1, b2]) (hu : Upd (fun b => b = gw) wr w')
    (s0 : b0.gone = none ∧ b0.fields.length = 3) (s1 : b1.gone = none ∧ b1.refs = r ∧ b1.fields.length = r + s ∧ ∀ i, i < r → b1.fields[i]? = some 0) (s2 : b2.gone = none ∧ b2.fields.length = 3) : By Wf w' r s N g gw gf va b0 b1 b2 := by
  have e : ∀ k, place [b0, b1, b2] k = place [a0, a1, a2] k := by
    have hw : ∀ x y : Ob, x.fields.length = y.fields.length → x.ws.length = y.ws.length := fun x y hxy => by rw [ws_len, ws_len, hxy]
    have h0 := hw b0 a0 (s0.2.trans h.s0.2.symm)
    have h1 := hw b1 a1 (s1.2.2.1.trans h.s1.2.2.1.symm)
    have h2 := hw b2 a2 (s2.2.trans h.s2.2.symm)
    intro k
    unfold place used words
    rcases k with _ | _ | _ | k <;> simp [h0, h1, h2]
  exact ⟨hA, h.at_.upd hu (fun k hk hg => gv_not_ar h.at_ h.ar (by decide) (by decide) k hk (.inr (.inl hg))), s0, s1, s2, (e 0).trans h.p0, (e 1).trans h.p1, (e 2).trans h.p2, h.g0, h.gw0, h.gf0, h.va0, Upd.to_below h.below hu h.below.size (fun i hi => by rw [hi]; exact h.gw0)⟩
theorem By.le {Wf wr : World} {r s N g gw gf : Nat} {va : Value} {a0 a1 a2 : Ob} (h : By Wf wr r s N g gw gf va a0 a1 a2) : Wf.heap.size ≤ wr.heap.size := h.below.size
theorem topN_lt : topN < 18446744073709551616 := by unfold topN; omega
theorem by_set0 {Wf wr : World} {r s N g gw gf : Nat} {va : Value} {a0 a1 a2 : Ob} (h : By Wf wr r s N g gw gf va a0 a1 a2) (i : Nat) (hi : i < 3) (q : Nat) (hq : q = place (obsOf (shapes r s)) 0) :
    Calls Try.prog 13 #[.pointer (some ⟨g, 0, none⟩), .int .i64 (q : Int), .int .i64 (i : Int), .int .u64 18446744073709551615] wr fun e w' => ∃ b0, e = .returned (.int .i64 0) ∧ By Wf w' r s N g gw gf va b0 a1 a2 ∧ b0.fields = a0.fields.set i topN := by
  rw [top_int]
  refine (set_yes h.ar (k := 0) (o := a0) rfl h.s0.1 i topN (by rw [h.s0.2]; exact hi) topN_lt q (hq.trans h.p0.symm)).mono ?_
  rintro e w' ⟨he, hA, hu⟩
  exact ⟨Ob.put a0 i topN, he, h.upd hA hu ⟨h.s0.1, by rw [Ob.put_len]; exact h.s0.2⟩ h.s1 h.s2, rfl⟩
theorem by_set2 {Wf wr : World} {r s N g gw gf : Nat} {va : Value} {a0 a1 a2 : Ob} (h : By Wf wr r s N g gw gf va a0 a1 a2) (i : Nat) (hi : i < 3) (q : Nat) (hq : q = place (obsOf (shapes r s)) 2) :
    Calls Try.prog 13 #[.pointer (some ⟨g, 0, none⟩), .int .i64 (q : Int), .int .i64 (i : Int), .int .u64 18446744073709551615] wr fun e w' => ∃ b2, e = .returned (.int .i64 0) ∧ By Wf w' r s N g gw gf va a0 a1 b2 ∧ b2.fields = a2.fields.set i topN := by
  rw [top_int]
  refine (set_yes h.ar (k := 2) (o := a2) rfl h.s2.1 i topN (by rw [h.s2.2]; exact hi) topN_lt q (hq.trans h.p2.symm)).mono ?_
  rintro e w' ⟨he, hA, hu⟩
  exact ⟨Ob.put a2 i topN, he, h.upd hA hu h.s0 h.s1 ⟨h.s2.1, by rw [Ob.put_len]; exact h.s2.2⟩, rfl⟩
theorem by_get {Wf wr : World} {r s N g gw gf : Nat} {va : Value} {a0 a1 a2 : Ob} (h : By Wf wr r s N g gw gf va a0 a1 a2) (k : Nat) (o : Ob) (hk : ([a0, a1, a2] : List Ob)[k]? = some o) (i x : Nat) (hx : o.fields[i]? = some x) (q : Nat) (hq : q = place (obsOf (shapes r s)) k) :
    Calls Try.prog 16 #[.pointer (some ⟨g, 0, none⟩), .int .i64 (q : Int), .int .i64 (i : Int)] wr fun e w' => e = .returned (.tuple #[.int .u64 (x : Int), .int .i64 0]) ∧ By Wf w' r s N g gw gf va a0 a1 a2 ∧ Below wr.heap.size wr w' := by
  have hg : o.gone = none ∧ place [a0, a1, a2] k = place (obsOf (shapes r s)) k := by
    rcases k with _ | _ | _ | k
    · obtain rfl : a0 = o := by simpa using hk
      exact ⟨h.s0.1, h.p0⟩
    · obtain rfl : a1 = o := by simpa using hk
      exact ⟨h.s1.1, h.p1⟩
    · obtain rfl : a2 = o := by simpa using hk
      exact ⟨h.s2.1, h.p2⟩
    · simp at hk
  refine (get_yes h.ar hk hg.1 i x hx q (hq.trans hg.2.symm)).mono ?_
  rintro e w' ⟨he, hb⟩
  exact ⟨he, h.move hb, hb⟩
theorem within24 (x : Int) (w : World) : Calls Try.prog 12 #[.int .i64 x, .int .i64 24] w fun e w' => ∃ r : Nat, r < 24 ∧ e = .returned (.int .i64 (r : Int)) ∧ Below w.heap.size w w' := by
  obtain ⟨r, hr, _, h⟩ := within_calls x 24 (by omega) (by omega)
  exact (h w).mono fun e w' ⟨he, hb⟩ => ⟨r, hr, he, hb⟩
set_option maxHeartbeats 8000000 in
theorem bytes.calls (R Q C : Int) (lp : List (Int × List Int)) (A : Option Addr) (c : Nat) (W : World) (hC : Kd.C kP W A lp.length lp) (hc : lp.length ≤ c) (hlp : lp.length ≤ 100000000000000) (hwf : ∀ x ∈ lp, gBytes x.2) :
    Calls Try.prog 6 #[.agg #[.int .i64 R, .int .i64 Q, .slice A lp.length c, .int .i64 C]] W fun e w' => e = .returned (.bool true) ∧ Below W.heap.size W w' := by
  have HC := Aside0.mk hC
  have HWF := Aside0.mk hwf
  clear hC hwf
  go_enter Try.func6, Try.ntmps6
  go_wp2_with fail
  obtain ⟨bx, hbx⟩ : ∃ bx, bx = W.heap.size := ⟨_, rfl⟩
  have hB1 : Below W.heap.size W (W.alloc (.cells #[.int .i64 R, .int .i64 Q, .slice A lp.length c, .int .i64 C] 66)) := below_alloc (Below.refl _ _) _
  have hbk : (W.alloc (.cells #[.int .i64 R, .int .i64 Q, .slice A lp.length c, .int .i64 C] 66)).heap[bx]? = some (.cells #[.int .i64 R, .int .i64 Q, .slice A lp.length c, .int .i64 C] 66 (0, 0)) := by rw [hbx]; exact blk_new W _
  rw [← hbx]
  generalize W.alloc (.cells #[.int .i64 R, .int .i64 Q, .slice A lp.length c, .int .i64 C] 66) = w1 at *
  have HBx : Aside0 (∀ w', Below w1.heap.size w1 w' → w'.cell? ⟨bx, 0, none⟩ = some (.int .i64 R) ∧ w'.cell? ⟨bx, 1, none⟩ = some (.int .i64 Q) ∧ w'.cell? ⟨bx, 2, none⟩ = some (.slice A lp.length c) ∧ w'.cell? ⟨bx, 3, none⟩ = some (.int .i64 C)) := ⟨fun w' hb => by
    have h := blk_below hbk hb
    exact ⟨(blk_cell h 0).trans rfl, (blk_cell h 1).trans rfl, (blk_cell h 2).trans rfl, (blk_cell h 3).trans rfl⟩⟩
  have H1 := Aside0.mk hB1
  have HK0 := Aside0.mk (HBx.out w1 (Below.refl _ _))
  clear hB1 hbk hbx
  go_region_held3 (fun w' => w'.cell? ⟨bx, 0, none⟩ = some (.int .i64 R) ∧ w'.cell? ⟨bx, 1, none⟩ = some (.int .i64 Q) ∧ w'.cell? ⟨bx, 2, none⟩ = some (.slice A lp.length c) ∧ w'.cell? ⟨bx, 3, none⟩ = some (.int .i64 C)) (first | exact HK2.out | exact HK1.out | exact HK0.out) (first | (go_at_call 12; refine (within24 _ _).mono ?_; first | (have _t := H2; clear _t; rintro e w3 ⟨s0, hs0, rfl, hb⟩; go_must (have H3 := Aside0.mk (below_next H2.out hb)); go_must (have HK2 := Aside0.mk (HBx.out w3 H3.out)); clear hb) | (rintro e w2 ⟨r, hr, rfl, hb⟩; have H2 := Aside0.mk (below_next (Below.refl w1.heap.size w1).drew hb); have HK1 := Aside0.mk (HBx.out w2 H2.out); clear hb)))
  obtain ⟨s, hse⟩ : ∃ s : Nat, 1 + (s0 : Int) = s := ⟨1 + s0, by omega⟩
  rw [hse]
  have hs24 : s ≤ 24 := by omega
  have hs1 : 1 ≤ s := by omega
  clear hse
  rw [show IntKind.i64.wrap (s : Int) = (s : Int) by rw [IntKind.wrap_i64]; omega]
  go_wp2_with fail
  refine (fill.calls (shapes r s) (some ⟨w3.heap.size, 0, none⟩) 3 _ (shapes_cells _ r s _ (blk_new w3 _)) (Nat.le_refl 3) (shapes_ok r s (Nat.le_of_lt hr) hs24) (show 3 ≤ 2001 by decide)).mono ?_
  rintro e w4 ⟨g, gw, gf, va, rfl, hfi⟩
  have hobs : obsOf (shapes r s) = [newOb 2 0 3, newOb 3 r s, newOb 4 2 1] := by simp [obsOf, obOf, shapes]
  have hW3 : Below W.heap.size W (w3.alloc (.cells #[.int .i64 2, .int .i64 0, .int .i64 3, .int .i64 3, .int .i64 (r : Int), .int .i64 (s : Int), .int .i64 4, .int .i64 2, .int .i64 1] 28)) := below_alloc (below_next H1.out H3.out) _
  obtain ⟨N, hN⟩ : ∃ N, N = used (obsOf (shapes r s)) := ⟨_, rfl⟩
  have HBY : Aside0 (By W w4 r s N g gw gf va (newOb 2 0 3) (newOb 3 r s) (newOb 4 2 1)) := ⟨by
    refine ⟨by rw [← hobs, hN]; exact hfi.ar, hfi.at_, ⟨rfl, by simp [newOb]⟩, ⟨rfl, rfl, by simp [newOb], fun i hi => ?_⟩, ⟨rfl, by simp [newOb]⟩, by rw [hobs], by rw [hobs], by rw [hobs], Nat.le_trans hW3.size hfi.g0, Nat.le_trans hW3.size hfi.gw0, Nat.le_trans hW3.size hfi.gf0, fun k hk => Nat.le_trans hW3.size (hfi.v0 k hk), below_next hW3 hfi.below⟩
    show (List.replicate (r + s) 0)[i]? = some 0
    rw [List.getElem?_replicate, if_pos (by omega)]⟩
  have h3l : (placesV (shapes r s) 3).length = 3 := by simp [placesV]
  obtain ⟨gp, cp, hva, hcp⟩ := HBY.out.at_.form (by rw [h3l]; decide)
  rw [h3l] at hva hcp
  subst hva
  obtain ⟨q0, hq0⟩ : ∃ q0, q0 = place (obsOf (shapes r s)) 0 := ⟨_, rfl⟩
  obtain ⟨q1, hq1⟩ : ∃ q1, q1 = place (obsOf (shapes r s)) 1 := ⟨_, rfl⟩
  obtain ⟨q2, hq2⟩ : ∃ q2, q2 = place (obsOf (shapes r s)) 2 := ⟨_, rfl⟩
  have HQ := Aside0.mk (And.intro hq0 (And.intro hq1 hq2))
  have HCE : Aside0 (∀ W2 a0 a1 a2, By W W2 r s N g gw gf (.slice (some ⟨gp, 0, none⟩) 3 cp) a0 a1 a2 → W2.cell? ⟨gp, 0, none⟩ = some (.int .i64 (q0 : Int)) ∧ W2.cell? ⟨gp, 1, none⟩ = some (.int .i64 (q1 : Int)) ∧ W2.cell? ⟨gp, 2, none⟩ = some (.int .i64 (q2 : Int))) := ⟨fun W2 a0 a1 a2 hB => ⟨by rw [hq0]; exact hB.at_.cell 0 _ (placesV_get (shapes r s) 3 0 (by decide)), by rw [hq1]; exact hB.at_.cell 1 _ (placesV_get (shapes r s) 3 1 (by decide)), by rw [hq2]; exact hB.at_.cell 2 _ (placesV_get (shapes r s) 3 2 (by decide))⟩⟩
  clear hfi hobs hW3 hN h3l hq0 hq1 hq2 HK0 HK1 HK2 H2 H3
  go_wp2_with fail
  go_loopw [10] (fun i wr => ∃ k : Nat, k ≤ 3 ∧ i = .int .i64 k ∧ ∃ a0 a2, Aside0 (By W wr r s N g gw gf (.slice (some ⟨gp, 0, none⟩) 3 cp) a0 (newOb 3 r s) a2 ∧ ∀ j, j < k → a0.fields[j]? = some topN ∧ a2.fields[j]? = some topN)) (fun i _ => 3 - (intOf i).toNat)
  case atStart => exact ⟨0, Nat.zero_le _, rfl, _, _, ⟨HBY.out, fun j hj => absurd hj (Nat.not_lt_zero j)⟩⟩
  case round =>
    obtain ⟨i, hi, rfl, a0, a2, HI⟩ := hrel
    clear HBY
    rename World => wr
    obtain ⟨c0, c1, c2⟩ := HCE.out _ _ _ _ HI.out.1
    by_cases hi3 : i < 3
    · have hi3' : (i : Int) < 3 := by omega
      have HS0 := Aside0.mk (by_set0 HI.out.1 i hi3 q0 HQ.out.1)
      go_wp2_with fail
      refine HS0.out.mono ?_
      rintro e w5 ⟨b0, rfl, hB5, hf0⟩
      have HB5 := Aside0.mk (And.intro hB5 hf0)
      have HS2 := Aside0.mk (by_set2 hB5 i hi3 q2 HQ.out.2.2)
      clear hB5 hf0 HS0 c0 c1 c2
      obtain ⟨c0, c1, c2⟩ := HCE.out _ _ _ _ HB5.out.1
      go_wp2_with fail
      refine HS2.out.mono ?_
      rintro e w6 ⟨b2, rfl, hB6, hf2⟩
      have HB6 := Aside0.mk (And.intro hB6 hf2)
      clear hB6 hf2 HS2 c0 c1 c2
      go_wp2_with fail
      go_roundw
      case rel =>
        refine ⟨i + 1, by omega, by go_num, b0, b2, ⟨HB6.out.1, fun j hj => ?_⟩⟩
        rw [HB5.out.2, HB6.out.2]
        by_cases hji : i = j
        · subst hji
          exact ⟨List.getElem?_set_self (by rw [HI.out.1.s0.2]; exact hi3), List.getElem?_set_self (by rw [HI.out.1.s2.2]; exact hi3)⟩
        · rw [List.getElem?_set_ne hji, List.getElem?_set_ne hji]
          exact HI.out.2 j (by omega)
      case measure => simp [intOf]; omega
    · obtain rfl : i = 3 := by omega
      clear c0 c1 c2 hi3
      obtain ⟨m, hm⟩ : ∃ m, m = 8 * s := ⟨_, rfl⟩
      have hm1 : m ≤ 192 := by omega
      have hm2 : 8 ≤ m := by omega
      have HM := Aside0.mk hm
      have HME := Aside0.mk (NumB.mul_i 8 (s : Int) m (by omega) (by omega))
      have hmk := make_u8 m (by omega)
      clear hm
      obtain ⟨e1, f1⟩ := HME.out
      go_wp2_with fail
      clear e1 f1 hmk
      have HROW := Aside0.mk (bytes_made wr m (by unfold maxLen; omega) (Ob.byte (newOb 3 r s)))
      have hz0 : bytesV (Ob.byte (newOb 3 r s)) 0 m = bytesV (Ob.byte (newOb 3 r s)) m m := by
        apply List.ext_getElem?
        intro j
        by_cases hj : j < m
        · rw [bytesV_get _ 0 m j hj, bytesV_get _ m m j hj, if_pos hj, byte_new]; rfl
        · rw [List.getElem?_eq_none (by rw [bytesV_len]; omega), List.getElem?_eq_none (by rw [bytesV_len]; omega)]
      rw [hz0] at HROW
      clear hz0
      obtain ⟨gr, hgr⟩ : ∃ gr, gr = wr.heap.size := ⟨_, rfl⟩
      rw [← hgr] at HROW ⊢
      have HGR : Aside0 (W.heap.size ≤ gr) := ⟨by rw [hgr]; exact HI.out.1.le⟩
      have HI0 := Aside0.mk (And.intro (HI.out.1.move (below_alloc (Below.refl wr.heap.size wr) (.cells (madeCells #[.int .u8 0] m) 5))) HROW.out)
      have HTOP := Aside0.mk HI.out.2
      clear hgr HROW HI
      generalize wr.alloc (.cells (madeCells #[.int .u8 0] m) 5) = wr1 at *
      go_loopw [12] (fun i wr => ∃ k : Nat, k ≤ lp.length ∧ k ≤ 2000 ∧ i = .int .i64 k ∧ ∃ a1, Aside0 (By W wr r s N g gw gf (.slice (some ⟨gp, 0, none⟩) 3 cp) a0 a1 a2 ∧ GenAt 5 wr gr m (bytesV (Ob.byte a1) m m))) (fun i _ => 2001 - (intOf i).toNat)
      case atStart => exact ⟨0, Nat.zero_le _, Nat.zero_le _, rfl, _, HI0⟩
      case round =>
        obtain ⟨i, hi1, hi2, rfl, a1, HI⟩ := hrel
        clear HI0
        rename World => wr2
        by_cases hlt : i < lp.length
        · by_cases hlt2 : i < 2000
          · obtain ⟨x, hx⟩ : ∃ x, lp[i]? = some x := ⟨_, List.getElem?_eq_getElem hlt⟩
            obtain ⟨at0, D⟩ := x
            obtain ⟨ad, B, c', hA, hx0, hx1, hDc, hDC⟩ := piece_at HC.out i _ hx
            subst hA
            have hDb := HWF.out _ (List.mem_of_getElem? hx)
            obtain ⟨bs, hbs, hb256⟩ := byte_nat D (fun y hy => wf_u8 (hDb.2 y hy))
            have hDl : D.length = bs.length := by rw [hbs, List.length_map]
            have hDlen : D.length ≤ 140737488351232 := by have := hDb.1; simp only at this; omega
            have hDC : Kd.C (Kd.int .u8) W B D.length D := hDC
            rw [hbs] at hDC
            have HX3 : Aside0 (∀ W2, Below W.heap.size W W2 → W2.cell? (ad.add (i * 2)) = some (.int .i64 at0) ∧ W2.cell? ⟨(ad.add (i * 2)).block, (ad.add (i * 2)).off + 1, none⟩ = some (.slice B D.length c')) := ⟨fun W2 hb => ⟨(hb.cell (World.block_lt_of_cell? _ _ hx0)).trans hx0, (hb.cell (World.block_lt_of_cell? _ _ hx1)).trans hx1⟩⟩
            have HCL : Aside0 (∀ W2, Below W.heap.size W W2 → ∀ (j y : Nat), bs[j]? = some y → ∃ ad, B = some ad ∧ ad.block < W.heap.size ∧ W2.cell? (ad.add j) = some (.int .u8 (y : Int))) := ⟨fun W2 hb j y hy => by
              obtain ⟨ad, h1, h2⟩ := byte_cell hDC j y hy
              have h3 := World.block_lt_of_cell? _ _ h2
              rw [addr_block] at h3
              exact ⟨ad, h1, h3, (hb.cell (by rw [addr_block]; exact h3)).trans h2⟩⟩
            obtain ⟨m1, hme⟩ : ∃ m1, m1 = m + 1 := ⟨_, rfl⟩
            obtain ⟨f, hf, _, HWf⟩ := within_calls at0 m1 (by omega) (by omega)
            have HHW := Aside0.mk HWf
            obtain ⟨z, hz⟩ : ∃ z, z = m - f := ⟨_, rfl⟩
            obtain ⟨n, hn⟩ : ∃ n, n = D.length := ⟨_, rfl⟩
            rw [← hn] at HX3 hDlen hDl hDc
            have HZ := Aside0.mk (And.intro hz (And.intro hme (And.intro hf hDl)))
            have HE1 := Aside0.mk (And.intro (NumB.sum_i (m : Int) 1 m1 (by omega) (by omega)) (NumB.dif_i (m : Int) (f : Int) z (by omega) (by omega)))
            have HB256 := Aside0.mk hb256
            have hilt : (i : Int) < lp.length := by omega
            have hfm : f ≤ m := by omega
            have hzm : z ≤ m := by omega
            obtain ⟨hx0, hx1⟩ := HX3.out _ HI.out.1.below
            have HSBg : Aside0 (∀ bs2 : List Nat, (∀ c ∈ bs2, c < 256) → f + bs2.length ≤ m → (∀ (W2 : World), Below W.heap.size W W2 → ∀ (j y : Nat), bs2[j]? = some y → ∃ ad, B = some ad ∧ ad.block < W.heap.size ∧ W2.cell? (ad.add j) = some (.int .u8 (y : Int))) → ∀ W2, By W W2 r s N g gw gf (.slice (some ⟨gp, 0, none⟩) 3 cp) a0 a1 a2 → GenAt 5 W2 gr m (bytesV (Ob.byte a1) m m) → Calls Try.prog 26 #[.pointer (some ⟨g, 0, none⟩), .int .i64 (q1 : Int), .int .i64 (f : Int), .slice B bs2.length c'] W2 fun e w' => e = .returned (.int .i64 0) ∧ By W w' r s N g gw gf (.slice (some ⟨gp, 0, none⟩) 3 cp) a0 (putBs a1 f bs2) a2 ∧ GenAt 5 w' gr m (bytesV (Ob.byte a1) m m) ∧ Upd (fun b => b = gw) W2 w') := ⟨fun bs2 h256 hfl hcl W2 hB hG => by
              refine (setBytes.yes hB.ar (k := 1) (o := a1) rfl hB.s1.1 q1 (HQ.out.2.1.trans hB.p1.symm) r s hB.s1.2.1 hB.s1.2.2.1 f bs2 h256 B c' (fun j y hy => ?_) (by rw [← HM.out]; exact hfl)).mono ?_
              · obtain ⟨ad, h1, h2, h3⟩ := hcl W2 hB.below j y hy
                exact ⟨ad, h1, fun hh => by have := hB.gw0; omega, h3⟩
              · rintro e w' ⟨he, hA, hu⟩
                obtain ⟨t1, t2, t3, t4⟩ := putBs_same bs2 a1 f
                have hgg : ¬ gr = gw := fun hh => by
                  obtain ⟨_, _, _, hAr⟩ := hB.ar
                  obtain ⟨cur, k1, _⟩ := hAr.ws
                  obtain ⟨cur2, k2, _⟩ := hG
                  rw [hh] at k2
                  have := k1.symm.trans k2
                  simp at this
                exact ⟨he, hB.upd hA hu hB.s0 ⟨t4.trans hB.s1.1, t2.trans hB.s1.2.1, t3.trans hB.s1.2.2.1, fun j hj => by rw [field_putBs bs2 f j (by rw [hB.s1.2.1]; exact hj)]; exact hB.s1.2.2.2 j hj⟩ hB.s2, hG.upd hu hgg, hu⟩⟩
            have HFINg : Aside0 (∀ bs2 : List Nat, (∀ c ∈ bs2, c < 256) → f + bs2.length ≤ m → ∀ W2 w', (By W W2 r s N g gw gf (.slice (some ⟨gp, 0, none⟩) 3 cp) a0 (putBs a1 f bs2) a2 ∧ GenAt 5 W2 gr m (bytesV (Ob.byte a1) m m)) → GenAt 5 w' gr m ((bytesV (Ob.byte a1) m m).take f ++ bs2.map (fun x : Nat => Value.int .u8 (x : Int)) ++ (bytesV (Ob.byte a1) m m).drop (f + bs2.length)) → Upd (fun k => k = gr) W2 w' → By W w' r s N g gw gf (.slice (some ⟨gp, 0, none⟩) 3 cp) a0 (putBs a1 f bs2) a2 ∧ GenAt 5 w' gr m (bytesV (Ob.byte (putBs a1 f bs2)) m m)) := ⟨fun bs2 h256 hfl W2 w' hB hG hu => by
              have hok : a1.ok := by
                obtain ⟨_, _, _, hAr⟩ := HI.out.1.ar
                exact hAr.ok a1 (by simp)
              rw [bytes_splice bs2 h256 f m hok hfl (fun j hj => by rw [HI.out.1.s1.2.1, HI.out.1.s1.2.2.1]; have := HM.out; omega)] at hG
              have hty : ∃ cs, W2.heap[gr]? = some (.cells cs 5 (0, 0)) := by obtain ⟨cur, k1, _⟩ := hB.2; exact ⟨_, k1⟩
              obtain ⟨cs, hcs⟩ := hty
              obtain ⟨cw, cf, fs, hAr⟩ := hB.1.ar
              have n1 : ¬ g = gr := fun hh => by rw [← hh] at hcs; have := hAr.hd.symm.trans hcs; simp at this
              have n2 : ¬ gw = gr := fun hh => by obtain ⟨cur, k1, _⟩ := hAr.ws; rw [← hh] at hcs; have := k1.symm.trans hcs; simp at this
              have n3 : ¬ gf = gr := fun hh => by obtain ⟨cur, k1, _⟩ := hAr.fb; rw [← hh] at hcs; have := k1.symm.trans hcs; simp at this
              have n4 : ∀ k, (Value.slice (some ⟨gp, 0, none⟩) 3 cp).ownBlock = some k → ¬ k = gr := fun k hk hh => by
                obtain ⟨cs2, hcs2⟩ : ∃ cs, W2.heap[k]? = some (.cells cs 3 (0, 0)) := by
                  rcases hB.1.at_ with ⟨h0, _⟩ | ⟨b, cap, hv, hb⟩
                  · cases h0
                  · rw [hv] at hk
                    obtain rfl := Option.some.inj hk
                    obtain ⟨cur, k1, _⟩ := hb
                    exact ⟨_, k1⟩
                rw [hh] at hcs2
                have := hcs2.symm.trans hcs
                simp at this
              exact ⟨⟨ArAt.upd ⟨cw, cf, fs, hAr⟩ hu n1 n2 n3, hB.1.at_.upd hu n4, hB.1.s0, hB.1.s1, hB.1.s2, hB.1.p0, hB.1.p1, hB.1.p2, hB.1.g0, hB.1.gw0, hB.1.gf0, hB.1.va0, Upd.to_below hB.1.below hu hB.1.le (fun k hk => by rw [hk]; exact HGR.out)⟩, hG⟩⟩
            clear hx hDb hbs hb256 hDl HWf hz hme hf hn hDC
            obtain ⟨⟨e1, f1⟩, e2, f2⟩ := HE1.out
            go_wp2_with fail
            refine (HHW.out _).mono ?_
            rintro e w5 ⟨rfl, hb⟩
            have HI2 := Aside0.mk (And.intro (HI.out.1.move hb) (HI.out.2.upd (S := none_) (Upd.of_below hb) (fun h => h)))
            clear hb hx0 hx1 HHW HI
            obtain ⟨hx0, hx1⟩ := HX3.out _ HI2.out.1.below
            obtain ⟨c0, c1, c2⟩ := HCE.out _ _ _ _ HI2.out.1
            clear e1 f1 e2 f2
            by_cases hzn : z < n
            · obtain ⟨bs2, hbs2⟩ : ∃ bs2, bs2 = bs.take z := ⟨_, rfl⟩
              obtain ⟨n2, hn2⟩ : ∃ n2, n2 = z := ⟨_, rfl⟩
              have hl2 : bs2.length = n2 := by rw [hbs2, hn2, List.length_take]; have := HZ.out.2.2.2; omega
              have H256 : Aside0 (∀ c ∈ bs2, c < 256) := ⟨fun c hc => HB256.out c (by rw [hbs2] at hc; exact List.mem_of_mem_take hc)⟩
              have HFL : Aside0 (f + bs2.length ≤ m) := ⟨by have := HZ.out.1; omega⟩
              have HCL2 : Aside0 (∀ (W2 : World), Below W.heap.size W W2 → ∀ (j y : Nat), bs2[j]? = some y → ∃ ad, B = some ad ∧ ad.block < W.heap.size ∧ W2.cell? (ad.add j) = some (.int .u8 (y : Int))) := ⟨fun W2 hb j y hy => by
                rw [hbs2, List.getElem?_take] at hy
                split at hy
                · exact HCL.out W2 hb j y hy
                · cases hy⟩
              have HB2 : Aside0 (bs2.length = n2 ∧ n2 ≤ m - f ∧ f + (m - f) ≤ m ∧ (m = f → n2 ≤ 0)) := ⟨by have := HZ.out.1; omega⟩
              have HSB : Aside0 (∀ W2, By W W2 r s N g gw gf (.slice (some ⟨gp, 0, none⟩) 3 cp) a0 a1 a2 → GenAt 5 W2 gr m (bytesV (Ob.byte a1) m m) → Calls Try.prog 26 #[.pointer (some ⟨g, 0, none⟩), .int .i64 (q1 : Int), .int .i64 (f : Int), .slice B n2 c'] W2 fun e w' => e = .returned (.int .i64 0) ∧ By W w' r s N g gw gf (.slice (some ⟨gp, 0, none⟩) 3 cp) a0 (putBs a1 f bs2) a2 ∧ GenAt 5 w' gr m (bytesV (Ob.byte a1) m m) ∧ Upd (fun b => b = gw) W2 w') := ⟨by have := HSBg.out bs2 H256.out HFL.out HCL2.out; rw [hl2] at this; exact this⟩
              have HFIN := Aside0.mk (HFINg.out bs2 H256.out HFL.out)
              rw [hl2] at HFIN
              have HSRC : Aside0 (∀ (W2 : World), Below W.heap.size W W2 → ∀ (j : Nat) (y : Value), (bs2.map (fun x : Nat => Value.int .u8 (x : Int)))[j]? = some y → ∃ ad, B = some ad ∧ W2.cell? (ad.add j) = some y) := ⟨fun W2 hb j y hy => by
                rw [List.getElem?_map, Option.map_eq_some_iff] at hy
                obtain ⟨v, hv, rfl⟩ := hy
                obtain ⟨ad, h1, _, h3⟩ := HCL2.out W2 hb j v hv
                exact ⟨ad, h1, h3⟩⟩
              have HNo := Aside0.mk (setBytes.no HI2.out.1.ar (k := 1) (o := a1) rfl HI2.out.1.s1.1 q1 (HQ.out.2.1.trans HI2.out.1.p1.symm) r s HI2.out.1.s1.2.1 HI2.out.1.s1.2.2.1 (f : Int) B n c' (by unfold InSpan; have := HZ.out.1; have := HM.out; omega))
              have hd1 : decide ((z : Int) < (n : Int)) = true := decide_eq_true (by omega)
              have hzc : z ≤ c' := by omega
              have hzc' : (z : Int) ≤ c' := by omega
              clear hl2 hbs2
              obtain ⟨⟨e1, f1⟩, e2, f2⟩ := HE1.out
              go_wp2_with fail
              refine HNo.out.mono ?_
              rintro e w6 ⟨rfl, hb⟩
              have HI3 := Aside0.mk (And.intro (HI2.out.1.move hb) (HI2.out.2.upd (S := none_) (Upd.of_below hb) (fun h => h)))
              clear hb HNo HI2 hx0 hx1 c0 c1 c2
              obtain ⟨c0, c1, c2⟩ := HCE.out _ _ _ _ HI3.out.1
              go_wp2_with fail
              refine (num.calls _ _).mono ?_
              rintro e w7 ⟨rfl, rfl⟩
              have hn3 := hn2.symm
              subst hn3
              go_wp2_with fail
              refine (HSB.out _ HI3.out.1 HI3.out.2).mono ?_
              rintro e w8 ⟨rfl, hB8, hg8, hu8⟩
              have HI8 := Aside0.mk (And.intro hB8 hg8)
              have HB8 := Aside0.mk (hB8.below)
              clear hB8 hg8 hu8 HSB
              go_wp2_with fail
              refine (num.calls _ _).mono ?_
              rintro e w9 ⟨rfl, rfl⟩
              by_cases hmf : m = f
              · subst hmf
                go_wp2_with ((with_reducible refine gate_builtin (b := .copy) (xs := #[.tmp 127, .tmp 128]) rfl ?_); go_must (refine wpList_plain rfl fun K hK' => oper_copyB _ (.tmp 127) (.tmp 128) rfl _ gr m _ _ rfl B _ _ rfl m _ HI8.out.2 (bs2.map (fun x : Nat => Value.int .u8 (x : Int))) ?hl ?hle ?hfit ?hc ?h1 ?hdp ?_); go_must ((case hl => rw [List.length_map]; exact HB2.out.1)); go_must ((case hle => first | exact HB2.out.2.1 | exact Nat.le_trans HB2.out.2.1 (Nat.le_of_eq (Nat.sub_self m)))); go_must ((case hfit => rw [bytesV_len]; first | exact HB2.out.2.2.1 | exact Nat.le_refl _)); go_must ((case hc => exact fun j y hy => HSRC.out w9 HB8.out j y hy)); go_must ((case h1 => intro y hy; obtain ⟨x, _, rfl⟩ := List.mem_map.1 hy; rfl)); go_must ((case hdp => intro h0; first | rfl | exact absurd (HB2.out.2.2.2 rfl) (Nat.not_le_of_gt h0) | exact absurd (HB2.out.2.2.2 trivial) (Nat.not_le_of_gt h0))); intro w10 hg10 hu10; have R10 := Aside0.mk (And.intro hg10 hu10); refine hK' _ _ ?_; clear hg10 hu10 hK' K)
                clear e1 f1 e2 f2
                go_roundw
                case rel => first | exact ⟨i + 1, by omega, by omega, by go_num, _, ⟨HFIN.out _ _ HI8.out R10.out.1 R10.out.2⟩⟩ | ((repeat apply Exists.intro); exact ⟨⟨i + 1, by omega, by omega, by go_num, _, ⟨HFIN.out _ _ HI8.out R10.out.1 R10.out.2⟩⟩, rfl⟩)
                case measure => simp [intOf]; omega
              · skip
                go_wp2_with ((with_reducible refine gate_builtin (b := .copy) (xs := #[.tmp 127, .tmp 128]) rfl ?_); go_must (refine wpList_plain rfl fun K hK' => oper_copyB _ (.tmp 127) (.tmp 128) rfl _ gr f _ _ rfl B _ _ rfl m _ HI8.out.2 (bs2.map (fun x : Nat => Value.int .u8 (x : Int))) ?hl ?hle ?hfit ?hc ?h1 ?hdp ?_); go_must ((case hl => rw [List.length_map]; exact HB2.out.1)); go_must ((case hle => first | exact HB2.out.2.1 | exact Nat.le_trans HB2.out.2.1 (Nat.le_of_eq (Nat.sub_self m)))); go_must ((case hfit => rw [bytesV_len]; first | exact HB2.out.2.2.1 | exact Nat.le_refl _)); go_must ((case hc => exact fun j y hy => HSRC.out w9 HB8.out j y hy)); go_must ((case h1 => intro y hy; obtain ⟨x, _, rfl⟩ := List.mem_map.1 hy; rfl)); go_must ((case hdp => intro h0; first | rfl | exact absurd (HB2.out.2.2.2 rfl) (Nat.not_le_of_gt h0) | exact absurd (HB2.out.2.2.2 trivial) (Nat.not_le_of_gt h0))); intro w10 hg10 hu10; have R10 := Aside0.mk (And.intro hg10 hu10); refine hK' _ _ ?_; clear hg10 hu10 hK' K)
                clear e1 f1 e2 f2
                go_roundw
                case rel => first | exact ⟨i + 1, by omega, by omega, by go_num, _, ⟨HFIN.out _ _ HI8.out R10.out.1 R10.out.2⟩⟩ | ((repeat apply Exists.intro); exact ⟨⟨i + 1, by omega, by omega, by go_num, _, ⟨HFIN.out _ _ HI8.out R10.out.1 R10.out.2⟩⟩, rfl⟩)
                case measure => simp [intOf]; omega
            · obtain ⟨bs2, hbs2⟩ : ∃ bs2, bs2 = bs := ⟨_, rfl⟩
              obtain ⟨n2, hn2⟩ : ∃ n2, n2 = n := ⟨_, rfl⟩
              have hl2 : bs2.length = n2 := by rw [hbs2, hn2]; exact HZ.out.2.2.2.symm
              have H256 : Aside0 (∀ c ∈ bs2, c < 256) := ⟨fun c hc => HB256.out c (by rw [hbs2] at hc; exact hc)⟩
              have HFL : Aside0 (f + bs2.length ≤ m) := ⟨by have := HZ.out.1; omega⟩
              have HCL2 : Aside0 (∀ (W2 : World), Below W.heap.size W W2 → ∀ (j y : Nat), bs2[j]? = some y → ∃ ad, B = some ad ∧ ad.block < W.heap.size ∧ W2.cell? (ad.add j) = some (.int .u8 (y : Int))) := ⟨fun W2 hb j y hy => by rw [hbs2] at hy; exact HCL.out W2 hb j y hy⟩
              have HB2 : Aside0 (bs2.length = n2 ∧ n2 ≤ m - f ∧ f + (m - f) ≤ m ∧ (m = f → n2 ≤ 0)) := ⟨by have := HZ.out.1; omega⟩
              have HSB : Aside0 (∀ W2, By W W2 r s N g gw gf (.slice (some ⟨gp, 0, none⟩) 3 cp) a0 a1 a2 → GenAt 5 W2 gr m (bytesV (Ob.byte a1) m m) → Calls Try.prog 26 #[.pointer (some ⟨g, 0, none⟩), .int .i64 (q1 : Int), .int .i64 (f : Int), .slice B n2 c'] W2 fun e w' => e = .returned (.int .i64 0) ∧ By W w' r s N g gw gf (.slice (some ⟨gp, 0, none⟩) 3 cp) a0 (putBs a1 f bs2) a2 ∧ GenAt 5 w' gr m (bytesV (Ob.byte a1) m m) ∧ Upd (fun b => b = gw) W2 w') := ⟨by have := HSBg.out bs2 H256.out HFL.out HCL2.out; rw [hl2] at this; exact this⟩
              have HFIN := Aside0.mk (HFINg.out bs2 H256.out HFL.out)
              rw [hl2] at HFIN
              have HSRC : Aside0 (∀ (W2 : World), Below W.heap.size W W2 → ∀ (j : Nat) (y : Value), (bs2.map (fun x : Nat => Value.int .u8 (x : Int)))[j]? = some y → ∃ ad, B = some ad ∧ W2.cell? (ad.add j) = some y) := ⟨fun W2 hb j y hy => by
                rw [List.getElem?_map, Option.map_eq_some_iff] at hy
                obtain ⟨v, hv, rfl⟩ := hy
                obtain ⟨ad, h1, _, h3⟩ := HCL2.out W2 hb j v hv
                exact ⟨ad, h1, h3⟩⟩
              have hd1 : decide ((z : Int) < (n : Int)) = false := decide_eq_false (by omega)
              have HI3 := HI2
              clear hl2 hbs2
              obtain ⟨⟨e1, f1⟩, e2, f2⟩ := HE1.out
              have hn3 := hn2.symm
              subst hn3
              go_wp2_with fail
              refine (HSB.out _ HI3.out.1 HI3.out.2).mono ?_
              rintro e w8 ⟨rfl, hB8, hg8, hu8⟩
              have HI8 := Aside0.mk (And.intro hB8 hg8)
              have HB8 := Aside0.mk (hB8.below)
              clear hB8 hg8 hu8 HSB
              go_wp2_with fail
              refine (num.calls _ _).mono ?_
              rintro e w9 ⟨rfl, rfl⟩
              by_cases hmf : m = f
              · subst hmf
                go_wp2_with ((with_reducible refine gate_builtin (b := .copy) (xs := #[.tmp 127, .tmp 128]) rfl ?_); go_must (refine wpList_plain rfl fun K hK' => oper_copyB _ (.tmp 127) (.tmp 128) rfl _ gr m _ _ rfl B _ _ rfl m _ HI8.out.2 (bs2.map (fun x : Nat => Value.int .u8 (x : Int))) ?hl ?hle ?hfit ?hc ?h1 ?hdp ?_); go_must ((case hl => rw [List.length_map]; exact HB2.out.1)); go_must ((case hle => first | exact HB2.out.2.1 | exact Nat.le_trans HB2.out.2.1 (Nat.le_of_eq (Nat.sub_self m)))); go_must ((case hfit => rw [bytesV_len]; first | exact HB2.out.2.2.1 | exact Nat.le_refl _)); go_must ((case hc => exact fun j y hy => HSRC.out w9 HB8.out j y hy)); go_must ((case h1 => intro y hy; obtain ⟨x, _, rfl⟩ := List.mem_map.1 hy; rfl)); go_must ((case hdp => intro h0; first | rfl | exact absurd (HB2.out.2.2.2 rfl) (Nat.not_le_of_gt h0) | exact absurd (HB2.out.2.2.2 trivial) (Nat.not_le_of_gt h0))); intro w10 hg10 hu10; have R10 := Aside0.mk (And.intro hg10 hu10); refine hK' _ _ ?_; clear hg10 hu10 hK' K)
                clear e1 f1 e2 f2
                go_roundw
                case rel => first | exact ⟨i + 1, by omega, by omega, by go_num, _, ⟨HFIN.out _ _ HI8.out R10.out.1 R10.out.2⟩⟩ | ((repeat apply Exists.intro); exact ⟨⟨i + 1, by omega, by omega, by go_num, _, ⟨HFIN.out _ _ HI8.out R10.out.1 R10.out.2⟩⟩, rfl⟩)
                case measure => simp [intOf]; omega
              · skip
                go_wp2_with ((with_reducible refine gate_builtin (b := .copy) (xs := #[.tmp 127, .tmp 128]) rfl ?_); go_must (refine wpList_plain rfl fun K hK' => oper_copyB _ (.tmp 127) (.tmp 128) rfl _ gr f _ _ rfl B _ _ rfl m _ HI8.out.2 (bs2.map (fun x : Nat => Value.int .u8 (x : Int))) ?hl ?hle ?hfit ?hc ?h1 ?hdp ?_); go_must ((case hl => rw [List.length_map]; exact HB2.out.1)); go_must ((case hle => first | exact HB2.out.2.1 | exact Nat.le_trans HB2.out.2.1 (Nat.le_of_eq (Nat.sub_self m)))); go_must ((case hfit => rw [bytesV_len]; first | exact HB2.out.2.2.1 | exact Nat.le_refl _)); go_must ((case hc => exact fun j y hy => HSRC.out w9 HB8.out j y hy)); go_must ((case h1 => intro y hy; obtain ⟨x, _, rfl⟩ := List.mem_map.1 hy; rfl)); go_must ((case hdp => intro h0; first | rfl | exact absurd (HB2.out.2.2.2 rfl) (Nat.not_le_of_gt h0) | exact absurd (HB2.out.2.2.2 trivial) (Nat.not_le_of_gt h0))); intro w10 hg10 hu10; have R10 := Aside0.mk (And.intro hg10 hu10); refine hK' _ _ ?_; clear hg10 hu10 hK' K)
                clear e1 f1 e2 f2
                go_roundw
                case rel => first | exact ⟨i + 1, by omega, by omega, by go_num, _, ⟨HFIN.out _ _ HI8.out R10.out.1 R10.out.2⟩⟩ | ((repeat apply Exists.intro); exact ⟨⟨i + 1, by omega, by omega, by go_num, _, ⟨HFIN.out _ _ HI8.out R10.out.1 R10.out.2⟩⟩, rfl⟩)
                case measure => simp [intOf]; omega
          · clear hi1 hi2
            go_wp2_with fail
            go_loopw [17] (fun i wr => ∃ k : Nat, k ≤ r ∧ i = .int .i64 k ∧ Aside0 (By W wr r s N g gw gf (.slice (some ⟨gp, 0, none⟩) 3 cp) a0 a1 a2 ∧ GenAt 5 wr gr m (bytesV (Ob.byte a1) m m))) (fun i _ => r - (intOf i).toNat)
            case atStart => exact ⟨0, Nat.zero_le _, rfl, HI⟩
            case round =>
              obtain ⟨j, hj, rfl, HJ⟩ := hrel
              clear HI
              rename World => wr3
              obtain ⟨c0, c1, c2⟩ := HCE.out _ _ _ _ HJ.out.1
              by_cases hjr : j < r
              · have hjr' : (j : Int) < r := by omega
                have HG : Aside0 (Calls Try.prog 16 #[.pointer (some ⟨g, 0, none⟩), .int .i64 (q1 : Int), .int .i64 (j : Int)] wr3 fun e w' => e = .returned (.tuple #[.int .u64 0, .int .i64 0]) ∧ By W w' r s N g gw gf (.slice (some ⟨gp, 0, none⟩) 3 cp) a0 a1 a2 ∧ Below wr3.heap.size wr3 w') := ⟨by_get HJ.out.1 1 a1 rfl j 0 (HJ.out.1.s1.2.2.2 j hjr) q1 HQ.out.2.1⟩
                go_wp2_with fail
                refine HG.out.mono ?_
                rintro e w5 ⟨rfl, hB, hb⟩
                have HJ2 := Aside0.mk (And.intro hB (HJ.out.2.upd (S := none_) (Upd.of_below hb) (fun h => h)))
                clear hB hb HG c0 c1 c2
                go_wp2_with fail
                refine (num.calls _ _).mono ?_
                rintro e w6 ⟨rfl, rfl⟩
                go_wp2_with fail
                go_roundw
                case rel => first | exact ⟨j + 1, by omega, by go_num, HJ2⟩ | ((repeat apply Exists.intro); exact ⟨⟨j + 1, by omega, by go_num, HJ2⟩, rfl⟩)
                case measure => simp [intOf]; omega
              · clear c0 c1 c2 hj
                go_wp2_with fail
                go_loopw [20] (fun i wr => ∃ k : Nat, k ≤ 3 ∧ i = .int .i64 k ∧ Aside0 (By W wr r s N g gw gf (.slice (some ⟨gp, 0, none⟩) 3 cp) a0 a1 a2 ∧ GenAt 5 wr gr m (bytesV (Ob.byte a1) m m))) (fun i _ => 3 - (intOf i).toNat)
                case atStart => exact ⟨0, Nat.zero_le _, rfl, HJ⟩
                case round =>
                  obtain ⟨k, hk, rfl, HK⟩ := hrel
                  clear HJ
                  rename World => wr4
                  obtain ⟨c0, c1, c2⟩ := HCE.out _ _ _ _ HK.out.1
                  by_cases hk3 : k < 3
                  · have hk3' : (k : Int) < 3 := by omega
                    have HG0 : Aside0 (Calls Try.prog 16 #[.pointer (some ⟨g, 0, none⟩), .int .i64 (q0 : Int), .int .i64 (k : Int)] wr4 fun e w' => e = .returned (.tuple #[.int .u64 18446744073709551615, .int .i64 0]) ∧ By W w' r s N g gw gf (.slice (some ⟨gp, 0, none⟩) 3 cp) a0 a1 a2 ∧ Below wr4.heap.size wr4 w') := ⟨by rw [top_int]; exact by_get HK.out.1 0 a0 rfl k topN (HTOP.out k hk3).1 q0 HQ.out.1⟩
                    have HG2 : Aside0 (∀ W2, By W W2 r s N g gw gf (.slice (some ⟨gp, 0, none⟩) 3 cp) a0 a1 a2 → Calls Try.prog 16 #[.pointer (some ⟨g, 0, none⟩), .int .i64 (q2 : Int), .int .i64 (k : Int)] W2 fun e w' => e = .returned (.tuple #[.int .u64 18446744073709551615, .int .i64 0]) ∧ By W w' r s N g gw gf (.slice (some ⟨gp, 0, none⟩) 3 cp) a0 a1 a2 ∧ Below W2.heap.size W2 w') := ⟨fun W2 hB => by rw [top_int]; exact by_get hB 2 a2 rfl k topN (HTOP.out k hk3).2 q2 HQ.out.2.2⟩
                    go_wp2_with fail
                    refine HG0.out.mono ?_
                    rintro e w5 ⟨rfl, hB, hb⟩
                    have HK2 := Aside0.mk (And.intro hB (HK.out.2.upd (S := none_) (Upd.of_below hb) (fun h => h)))
                    clear hB hb HG0 c0 c1 c2
                    obtain ⟨c0, c1, c2⟩ := HCE.out _ _ _ _ HK2.out.1
                    go_wp2_with fail
                    refine (HG2.out _ HK2.out.1).mono ?_
                    rintro e w6 ⟨rfl, hB, hb⟩
                    have HK3 := Aside0.mk (And.intro hB (HK2.out.2.upd (S := none_) (Upd.of_below hb) (fun h => h)))
                    clear hB hb HG2 c0 c1 c2
                    go_wp2_with fail
                    refine (num.calls _ _).mono ?_
                    rintro e w7 ⟨rfl, rfl⟩
                    go_wp2_with fail
                    refine (num.calls _ _).mono ?_
                    rintro e w8 ⟨rfl, rfl⟩
                    go_wp2_with fail
                    go_roundw
                    case rel => first | exact ⟨k + 1, by omega, by go_num, HK3⟩ | ((repeat apply Exists.intro); exact ⟨⟨k + 1, by omega, by go_num, HK3⟩, rfl⟩)
                    case measure => simp [intOf]; omega
                  · obtain ⟨m1, hme⟩ : ∃ m1, m1 = m + 1 := ⟨_, rfl⟩
                    obtain ⟨cut, hcut, _, HWc⟩ := within_calls C m1 (by omega) (by omega)
                    have HHW := Aside0.mk HWc
                    have HCM : Aside0 (cut ≤ m) := ⟨by omega⟩
                    have HRB : Aside0 (∀ W2, By W W2 r s N g gw gf (.slice (some ⟨gp, 0, none⟩) 3 cp) a0 a1 a2 → GenAt 5 W2 gr m (bytesV (Ob.byte a1) m m) → Calls Try.prog 27 #[.pointer (some ⟨g, 0, none⟩), .int .i64 (q1 : Int), .int .i64 (r : Int), .slice (some ⟨gr, 0, none⟩) m m, .int .i64 (cut : Int)] W2 fun e w' => e = .returned (.bool true) ∧ Below W2.heap.size W2 w') := ⟨fun W2 hB hG => rowBytes.calls q1 r s m cut ⟨hB.ar, hG, Below.refl _ _⟩ (k := 1) (o := a1) rfl hB.s1.1 (HQ.out.2.1.trans hB.p1.symm) hB.s1.2.1 hB.s1.2.2.1 (by omega) HM.out HCM.out⟩
                    have HE2 := Aside0.mk (NumB.sum_i (m : Int) 1 m1 (by omega) (by omega))
                    have HCE2 : Aside0 (∀ W2 a0 a1 a2, By W W2 r s N g gw gf (.slice (some ⟨gp, 0, none⟩) 3 cp) a0 a1 a2 → W2.cell? ⟨gp, 1, none⟩ = some (.int .i64 (q1 : Int))) := ⟨fun W2 a0 a1 a2 hB => (HCE.out W2 a0 a1 a2 hB).2.1⟩
                    clear hme hcut HWc c0 c2 hk
                    obtain ⟨e1, f1⟩ := HE2.out
                    go_wp2_with fail
                    go_region_held3 (fun w' => w'.cell? ⟨gp, 1, none⟩ = some (.int .i64 (q1 : Int))) (first | exact c1 | exact HK5.out | exact HK6.out | go_keep) (first | (go_at_call 12; refine (HHW.out _).mono ?_; rintro e w5 ⟨rfl, hb⟩; have hb2 := below_next (Below.refl wr4.heap.size wr4).drew hb; have HK2 := Aside0.mk (And.intro (HK.out.1.move hb2) (HK.out.2.upd (S := none_) (Upd.of_below hb2) (fun h => h))); have HK5 := Aside0.mk (HCE2.out _ _ _ _ HK2.out.1); clear hb hb2) | (go_at_call 27; refine (HRB.out _ HK2.out.1 HK2.out.2).mono ?_; rintro e w6 ⟨rfl, hb⟩; have HB6 := Aside0.mk (below_next HK2.out.1.below hb); have HK6 := Aside0.mk (HCE2.out _ _ _ _ (HK2.out.1.move hb)); clear hb))
                    go_wp2_with fail
                    go_ret
                    exact ⟨rfl, HB6.out⟩
        · clear hi1 hi2
          go_wp2_with fail
          go_loopw [17] (fun i wr => ∃ k : Nat, k ≤ r ∧ i = .int .i64 k ∧ Aside0 (By W wr r s N g gw gf (.slice (some ⟨gp, 0, none⟩) 3 cp) a0 a1 a2 ∧ GenAt 5 wr gr m (bytesV (Ob.byte a1) m m))) (fun i _ => r - (intOf i).toNat)
          case atStart => exact ⟨0, Nat.zero_le _, rfl, HI⟩
          case round =>
            obtain ⟨j, hj, rfl, HJ⟩ := hrel
            clear HI
            rename World => wr3
            obtain ⟨c0, c1, c2⟩ := HCE.out _ _ _ _ HJ.out.1
            by_cases hjr : j < r
            · have hjr' : (j : Int) < r := by omega
              have HG : Aside0 (Calls Try.prog 16 #[.pointer (some ⟨g, 0, none⟩), .int .i64 (q1 : Int), .int .i64 (j : Int)] wr3 fun e w' => e = .returned (.tuple #[.int .u64 0, .int .i64 0]) ∧ By W w' r s N g gw gf (.slice (some ⟨gp, 0, none⟩) 3 cp) a0 a1 a2 ∧ Below wr3.heap.size wr3 w') := ⟨by_get HJ.out.1 1 a1 rfl j 0 (HJ.out.1.s1.2.2.2 j hjr) q1 HQ.out.2.1⟩
              go_wp2_with fail
              refine HG.out.mono ?_
              rintro e w5 ⟨rfl, hB, hb⟩
              have HJ2 := Aside0.mk (And.intro hB (HJ.out.2.upd (S := none_) (Upd.of_below hb) (fun h => h)))
              clear hB hb HG c0 c1 c2
              go_wp2_with fail
              refine (num.calls _ _).mono ?_
              rintro e w6 ⟨rfl, rfl⟩
              go_wp2_with fail
              go_roundw
              case rel => first | exact ⟨j + 1, by omega, by go_num, HJ2⟩ | ((repeat apply Exists.intro); exact ⟨⟨j + 1, by omega, by go_num, HJ2⟩, rfl⟩)
              case measure => simp [intOf]; omega
            · clear c0 c1 c2 hj
              go_wp2_with fail
              go_loopw [20] (fun i wr => ∃ k : Nat, k ≤ 3 ∧ i = .int .i64 k ∧ Aside0 (By W wr r s N g gw gf (.slice (some ⟨gp, 0, none⟩) 3 cp) a0 a1 a2 ∧ GenAt 5 wr gr m (bytesV (Ob.byte a1) m m))) (fun i _ => 3 - (intOf i).toNat)
              case atStart => exact ⟨0, Nat.zero_le _, rfl, HJ⟩
              case round =>
                obtain ⟨k, hk, rfl, HK⟩ := hrel
                clear HJ
                rename World => wr4
                obtain ⟨c0, c1, c2⟩ := HCE.out _ _ _ _ HK.out.1
                by_cases hk3 : k < 3
                · have hk3' : (k : Int) < 3 := by omega
                  have HG0 : Aside0 (Calls Try.prog 16 #[.pointer (some ⟨g, 0, none⟩), .int .i64 (q0 : Int), .int .i64 (k : Int)] wr4 fun e w' => e = .returned (.tuple #[.int .u64 18446744073709551615, .int .i64 0]) ∧ By W w' r s N g gw gf (.slice (some ⟨gp, 0, none⟩) 3 cp) a0 a1 a2 ∧ Below wr4.heap.size wr4 w') := ⟨by rw [top_int]; exact by_get HK.out.1 0 a0 rfl k topN (HTOP.out k hk3).1 q0 HQ.out.1⟩
                  have HG2 : Aside0 (∀ W2, By W W2 r s N g gw gf (.slice (some ⟨gp, 0, none⟩) 3 cp) a0 a1 a2 → Calls Try.prog 16 #[.pointer (some ⟨g, 0, none⟩), .int .i64 (q2 : Int), .int .i64 (k : Int)] W2 fun e w' => e = .returned (.tuple #[.int .u64 18446744073709551615, .int .i64 0]) ∧ By W w' r s N g gw gf (.slice (some ⟨gp, 0, none⟩) 3 cp) a0 a1 a2 ∧ Below W2.heap.size W2 w') := ⟨fun W2 hB => by rw [top_int]; exact by_get hB 2 a2 rfl k topN (HTOP.out k hk3).2 q2 HQ.out.2.2⟩
                  go_wp2_with fail
                  refine HG0.out.mono ?_
                  rintro e w5 ⟨rfl, hB, hb⟩
                  have HK2 := Aside0.mk (And.intro hB (HK.out.2.upd (S := none_) (Upd.of_below hb) (fun h => h)))
                  clear hB hb HG0 c0 c1 c2
                  obtain ⟨c0, c1, c2⟩ := HCE.out _ _ _ _ HK2.out.1
                  go_wp2_with fail
                  refine (HG2.out _ HK2.out.1).mono ?_
                  rintro e w6 ⟨rfl, hB, hb⟩
                  have HK3 := Aside0.mk (And.intro hB (HK2.out.2.upd (S := none_) (Upd.of_below hb) (fun h => h)))
                  clear hB hb HG2 c0 c1 c2
                  go_wp2_with fail
                  refine (num.calls _ _).mono ?_
                  rintro e w7 ⟨rfl, rfl⟩
                  go_wp2_with fail
                  refine (num.calls _ _).mono ?_
                  rintro e w8 ⟨rfl, rfl⟩
                  go_wp2_with fail
                  go_roundw
                  case rel => first | exact ⟨k + 1, by omega, by go_num, HK3⟩ | ((repeat apply Exists.intro); exact ⟨⟨k + 1, by omega, by go_num, HK3⟩, rfl⟩)
                  case measure => simp [intOf]; omega
                · obtain ⟨m1, hme⟩ : ∃ m1, m1 = m + 1 := ⟨_, rfl⟩
                  obtain ⟨cut, hcut, _, HWc⟩ := within_calls C m1 (by omega) (by omega)
                  have HHW := Aside0.mk HWc
                  have HCM : Aside0 (cut ≤ m) := ⟨by omega⟩
                  have HRB : Aside0 (∀ W2, By W W2 r s N g gw gf (.slice (some ⟨gp, 0, none⟩) 3 cp) a0 a1 a2 → GenAt 5 W2 gr m (bytesV (Ob.byte a1) m m) → Calls Try.prog 27 #[.pointer (some ⟨g, 0, none⟩), .int .i64 (q1 : Int), .int .i64 (r : Int), .slice (some ⟨gr, 0, none⟩) m m, .int .i64 (cut : Int)] W2 fun e w' => e = .returned (.bool true) ∧ Below W2.heap.size W2 w') := ⟨fun W2 hB hG => rowBytes.calls q1 r s m cut ⟨hB.ar, hG, Below.refl _ _⟩ (k := 1) (o := a1) rfl hB.s1.1 (HQ.out.2.1.trans hB.p1.symm) hB.s1.2.1 hB.s1.2.2.1 (by omega) HM.out HCM.out⟩
                  have HE2 := Aside0.mk (NumB.sum_i (m : Int) 1 m1 (by omega) (by omega))
                  have HCE2 : Aside0 (∀ W2 a0 a1 a2, By W W2 r s N g gw gf (.slice (some ⟨gp, 0, none⟩) 3 cp) a0 a1 a2 → W2.cell? ⟨gp, 1, none⟩ = some (.int .i64 (q1 : Int))) := ⟨fun W2 a0 a1 a2 hB => (HCE.out W2 a0 a1 a2 hB).2.1⟩
                  clear hme hcut HWc c0 c2 hk
                  obtain ⟨e1, f1⟩ := HE2.out
                  go_wp2_with fail
                  go_region_held3 (fun w' => w'.cell? ⟨gp, 1, none⟩ = some (.int .i64 (q1 : Int))) (first | exact c1 | exact HK5.out | exact HK6.out | go_keep) (first | (go_at_call 12; refine (HHW.out _).mono ?_; rintro e w5 ⟨rfl, hb⟩; have hb2 := below_next (Below.refl wr4.heap.size wr4).drew hb; have HK2 := Aside0.mk (And.intro (HK.out.1.move hb2) (HK.out.2.upd (S := none_) (Upd.of_below hb2) (fun h => h))); have HK5 := Aside0.mk (HCE2.out _ _ _ _ HK2.out.1); clear hb hb2) | (go_at_call 27; refine (HRB.out _ HK2.out.1 HK2.out.2).mono ?_; rintro e w6 ⟨rfl, hb⟩; have HB6 := Aside0.mk (below_next HK2.out.1.below hb); have HK6 := Aside0.mk (HCE2.out _ _ _ _ (HK2.out.1.move hb)); clear hb))
                  go_wp2_with fail
                  go_ret
                  exact ⟨rfl, HB6.out⟩
end Go.Proofs.Ytgjcffjicbmkhaa.BytW
