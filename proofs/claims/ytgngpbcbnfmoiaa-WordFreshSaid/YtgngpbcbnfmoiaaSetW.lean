/- larderlaw1.words2.settle walked: the words that wait are as they were, and go into the book. -/
import Derived.Test.YtgngpbcbnfmoiaaFreM
import Derived.Test.YtgngpbcbnfmoiaaPAx7
import Derived.Test.YtgngpbcbnfmoiaaRefL
namespace Go.Proofs.Ytgngpbcbnfmoiaa.SetW
open Go Go.RowKit Go.Proofs.YtgngpbcbnfmoiaaW.PrintWords Go.Proofs.YtgngpbcbnfmoiaaW.PrintLast Go.Proofs.YtgngpbcbnfmoiaaW.PrintMore Go.Proofs.Ytgngpbcbnfmoiaa.RowU Go.Proofs.Ytgngpbcbnfmoiaa.ArM Go.Proofs.Ytgngpbcbnfmoiaa.GenM Go.Proofs.Ytgngpbcbnfmoiaa.GenN Go.Proofs.Ytgngpbcbnfmoiaa.BokA Go.Proofs.Ytgngpbcbnfmoiaa.BokB Go.Proofs.Ytgngpbcbnfmoiaa.BokE Go.Proofs.Ytgngpbcbnfmoiaa.BokG Go.Proofs.Ytgngpbcbnfmoiaa.BokS Go.Proofs.Ytgngpbcbnfmoiaa.FreM
set_option linter.unusedVariables false
set_option maxRecDepth 100000

/-- The blocks of the answers that wait. -/
def Xof (it : List It) : Nat → Prop := fun b => ∃ x, x ∈ it ∧ x.v.ownBlock = some b
/-- The book has taken the first i answers. -/
structure Tk (k : Nat) (Tt Te : TypeId) (W wr : World) (gb gh : Nat) (Th : TypeId) (ow ow' : Own) (vg vw : Value) (it : List It) (i : Nat) : Prop where
  own : ∀ b, ow' b ≠ none → ow b ≠ none ∨ Xof it b ∨ W.heap.size ≤ b
  upd : Upd (fun b => b = gb ∨ ow b ≠ none ∨ Xof it b) W wr
  rest : ∀ j x, it[j]? = some x → i ≤ j → GV Te wr x.v x.l ∧ ∀ b, x.v.ownBlock = some b → ow' b = none ∧ b ≠ gb
  tg : GV Tt wr vg (gs it)
  hd : wr.heap[gh]? = some (.cells #[vg, vw] Th (0, 0))
  ng : ow' gh = none
theorem Tk.start {k : Nat} {Tt Te Th : TypeId} {W wr : World} {gb gh : Nat} {ow lo : Own} {vg vw : Value} {it : List It} (h : Pn k Tt Te W lo vg vw it) (hd : W.heap[gh]? = some (.cells #[vg, vw] Th (0, 0))) (hng : ow gh = none) (dis : ∀ b, lo b ≠ none → ow b = none) (hgb : lo gb = none) (hb : Below W.heap.size W wr) : Tk k Tt Te W wr gb gh Th ow ow vg vw it 0 :=
  ⟨fun b hb => .inl hb, Upd.of_below hb, fun j x hj _ => by
    obtain ⟨a1, _, a3, _, _⟩ := h.el j x hj
    exact ⟨a1.upd (S := none_) (Upd.of_below hb) (fun _ _ h => h), fun b hb => ⟨dis b (by rw [a3 b hb]; simp), fun e => by have := a3 b hb; rw [e, hgb] at this; cases this⟩⟩, h.tg.upd (S := none_) (Upd.of_below hb) (fun _ _ h => h), blk_below hd hb, hng⟩
/-- One answer more has been taken. -/
theorem Tk.step {k : Nat} {Tt Te Th : TypeId} {W wr w' : World} {gb gh off : Nat} {ow ow1 ow' lo : Own} {vg vw : Value} {it : List It} {i : Nat} (h : Tk k Tt Te W wr gb gh Th ow ow1 vg vw it i) (hP : Pn k Tt Te W lo vg vw it) (dis : ∀ b, lo b ≠ none → ow b = none) (hgb : lo gb = none) (hgh : lo gh = none) (hne : gh ≠ gb) {x : It} (hx : it[i]? = some x) (hS : BkS wr w' gb off ow1 ow' (vB_ x.v)) : Tk k Tt Te W w' gb gh Th ow ow' vg vw it (i + 1) := by
  have hX : ∀ b, vB_ x.v b → Xof it b := fun b hb => ⟨x, List.mem_of_getElem? hx, hb⟩
  have hsz := h.upd.size
  have tag : ∀ j y b, it[j]? = some y → y.v.ownBlock = some b → lo b = some (k, 2 + 2 * j) := fun j y b hj hb => (hP.el j y hj).2.2.1 b hb
  have xlo : ∀ b, Xof it b → lo b ≠ none ∧ ∃ j, lo b = some (k, 2 + 2 * j) := by
    rintro b ⟨y, hy, hb⟩
    obtain ⟨j, hj⟩ := List.getElem?_of_mem hy
    exact ⟨by rw [tag j y b hj hb]; simp, j, tag j y b hj hb⟩
  have vgn : ∀ b, vg.ownBlock = some b → ¬ (b = gb ∨ ow1 b ≠ none ∨ vB_ x.v b) := by
    intro b hb
    have h0 := hP.gT b hb
    have hl := hP.tg.lt b hb
    rintro (rfl | h1 | h1)
    · rw [hgb] at h0; cases h0
    · rcases h.own b h1 with h2 | h2 | h2
      · exact h2 (dis b (by rw [h0]; simp))
      · obtain ⟨_, j, h3⟩ := xlo b h2
        rw [h0] at h3; simp at h3; omega
      · omega
    · have := tag i x b hx h1
      rw [h0] at this; simp at this; omega
  have ghn : ¬ (gh = gb ∨ ow1 gh ≠ none ∨ vB_ x.v gh) := by
    rintro (h1 | h1 | h1)
    · exact hne h1
    · exact h1 h.ng
    · have := tag i x gh hx h1; rw [hgh] at this; cases this
  have hlt : ∀ b, Xof it b → b < wr.heap.size := by
    rintro b ⟨y, hy, hb⟩
    obtain ⟨j, hj⟩ := List.getElem?_of_mem hy
    have := (hP.el j y hj).1.lt b hb
    omega
  refine ⟨fun b hb => ?_, h.upd.trans2 hS.upd (fun b hb => ?_), fun j y hj hij => ?_, h.tg.upd hS.upd vgn, blk_upd h.hd hS.upd ghn, ?_⟩
  · rcases hS.own b hb with h1 | h1 | h1
    · exact h.own b h1
    · exact .inr (.inl (hX b h1))
    · exact .inr (.inr (by omega))
  · rcases hb with h1 | h1 | h1
    · exact .inl (.inl h1)
    · rcases h.own b h1 with h2 | h2 | h2
      · exact .inl (.inr (.inl h2))
      · exact .inl (.inr (.inr h2))
      · exact .inr h2
    · exact .inl (.inr (.inr (hX b h1)))
  · obtain ⟨b1, b2⟩ := h.rest j y hj (by omega)
    have key : ∀ b, y.v.ownBlock = some b → ow' b = none ∧ b ≠ gb := fun b hb => by
      obtain ⟨c1, c2⟩ := b2 b hb
      refine ⟨Classical.byContradiction fun hne' => ?_, c2⟩
      rcases hS.own b hne' with h1 | h1 | h1
      · exact h1 c1
      · have e1 := tag i x b hx h1
        have e2 := tag j y b hj hb
        rw [e1] at e2; simp at e2; omega
      · have := b1.lt b hb; omega
    refine ⟨b1.upd hS.upd (fun b hb => ?_), key⟩
    obtain ⟨c1, c2⟩ := b2 b hb
    rintro (h1 | h1 | h1)
    · exact c2 h1
    · exact h1 c1
    · have e1 := tag i x b hx h1
      have e2 := tag j y b hj hb
      rw [e1] at e2; simp at e2; omega
  · refine Classical.byContradiction fun hne' => ?_
    rcases hS.own gh hne' with h1 | h1 | h1
    · exact h1 h.ng
    · have := tag i x gh hx h1; rw [hgh] at this; cases this
    · have := cell_lt h.hd; omega
/-- A list of numbers, as a printed contract reads it. -/
theorem gv_reads {k : IntKind} {T : TypeId} {w : World} {A : Option Addr} {n c : Nat} {ls : List Int} (h : GV T w (.slice A n c) (ls.map (Value.int k))) : n = ls.length ∧ ls.length ≤ c ∧ (Kd.int k).C w A ls.length ls := by
  rcases h with ⟨h1, h2⟩ | ⟨g, cap, h1, h2⟩
  · simp only [Value.slice.injEq] at h1
    have hl : ls = [] := by simpa using h2
    subst hl
    exact ⟨h1.2.1, Nat.zero_le _, rfl, by decide, fun h0 => absurd h0 (by simp)⟩
  · simp only [Value.slice.injEq, List.length_map] at h1
    obtain ⟨rfl, rfl, rfl⟩ := h1
    obtain ⟨cur, a1, a2, a3, a4, a5⟩ := h2
    rw [List.length_map] at a3
    refine ⟨rfl, a3, rfl, by unfold maxLen at a4; omega, fun _ => ⟨_, rfl, fun j p hp => ⟨[Value.int k p], rfl, rfl, fun i u hu => ?_⟩⟩⟩
    cases i with
    | zero =>
      simp at hu
      subst hu
      have := GenAt.get (⟨cur, a1, a2, by rw [List.length_map]; exact a3, a4, a5⟩ : GenAt T w g c (ls.map (Value.int k))) j (Value.int k p) (by rw [List.getElem?_map, hp]; rfl)
      show w.cell? ((⟨g, 0, none⟩ : Addr).add (j * 1 + 0)) = _
      rw [Addr.add_lit, Nat.mul_one, Nat.add_zero, Nat.zero_add]
      exact this
    | succ i => simp at hu
set_option maxHeartbeats 8000000 in
theorem settle.calls {W : World} {gb gh : Nat} {ow lo : Own} {vB vBo : Value} {eB : List Ent} {aB : Nat} {vW vWo : Value} {eW : List Ent} {aW turn done used : Nat} (h : Bk W gb 0 ow vB vBo eB aB vW vWo eW aW turn done used) {vg vw : Value} {it : List It}
    (hP : Pn 11 43 23 W lo vg vw it) (hd : W.heap[gh]? = some (.cells #[vg, vw] 69 (0, 0))) (hng : ow gh = none) (dis : ∀ b, lo b ≠ none → ow b = none) (hgb : lo gb = none) (hgh : lo gh = none) (hne : gh ≠ gb)
    (hU : ∀ x, x ∈ it → ∃ ls : List Int, x.l = ls.map (Value.int .u64)) (hlen : it.length ≤ 100000) (ht : turn + it.length ≤ 1000000000000000) :
    Calls Try.prog 31 #[.pointer (some ⟨gh, 0, none⟩), .pointer (some ⟨gb, 0, none⟩)] W fun e w' => e = .returned (.bool true) ∧ ∃ ow' vB' vBo' eB' aB' vW' vWo' eW' aW' done' used', Bk w' gb 0 ow' vB' vBo' eB' aB' vW' vWo' eW' aW' (turn + it.length) done' used' ∧
      w'.heap[gh]? = some (.cells #[.slice none 0 0, .slice none 0 0] 69 (0, 0)) ∧ (∀ b, ow' b ≠ none → ow b ≠ none ∨ Xof it b ∨ W.heap.size ≤ b) ∧ Upd (fun b => b = gb ∨ b = gh ∨ ow b ≠ none ∨ Xof it b) W w' := by
  have HB := Aside0.mk h
  have HP := Aside0.mk hP
  have HD := Aside0.mk hd
  have HX := Aside0.mk (And.intro hng (And.intro dis (And.intro hgb (And.intro hgh hne))))
  have HU := Aside0.mk hU
  obtain ⟨A0, c0, e0⟩ := hP.tg.slice
  obtain ⟨A1, c1, e1⟩ := hP.tw.slice
  rw [gs_len] at e0
  rw [us_len] at e1
  subst e0 e1
  clear h hP hd hng dis hgb hgh hne hU
  go_enter Try.func31, Try.ntmps31
  go_wp2_with fail
  go_loopw [5] (fun i wr => ∃ k : Nat, k ≤ it.length ∧ i = .int .i64 k ∧ Aside0 (Below W.heap.size W wr)) (fun i _ => it.length - (intOf i).toNat)
  case atStart => exact ⟨0, by omega, rfl, ⟨Below.refl _ _⟩⟩
  case round =>
    obtain ⟨i, hi, rfl, H0⟩ := hrel
    rename World => wr
    have hx0 : wr.cell? ⟨gh, 0, none⟩ = some (.slice A0 it.length c0) := (blk_cell (blk_below HD.out H0.out) 0).trans rfl
    by_cases hlt : i < it.length
    · have hlt' : (i : Int) < it.length := by omega
      have hi0 : (0 : Int) ≤ (i : Int) := by omega
      obtain ⟨x, hx⟩ : ∃ x, it[i]? = some x := ⟨_, List.getElem?_eq_getElem hlt⟩
      obtain ⟨ls, hls⟩ := HU.out x (List.mem_of_getElem? hx)
      obtain ⟨q1, q2, _, _, q5⟩ := HP.out.el i x hx
      rw [hls] at q1 q2 q5
      rw [List.length_map] at q5
      obtain ⟨Ag, cg, eg⟩ := q1.slice
      obtain ⟨Au, cu, eu⟩ := q2.slice
      rw [List.length_map] at eg eu
      rw [eg] at q1
      rw [eu] at q2
      obtain ⟨gt, ct, e1, d1⟩ := HP.out.tg.get i _ (gs_get hx)
      obtain ⟨gy, cy, e2, d2⟩ := HP.out.tw.get i _ (us_get hx)
      rw [gs_len] at e1
      rw [us_len] at e2
      simp only [Value.slice.injEq, true_and] at e1 e2
      obtain ⟨rfl, rfl⟩ := e1
      obtain ⟨rfl, rfl⟩ := e2
      rw [eg] at d1
      rw [eu] at d2
      have HS : Aside0 (∀ w', Below W.heap.size W w' → w'.cell? ⟨gh, 0, none⟩ = some (.slice (some ⟨gt, 0, none⟩) it.length c0) ∧ w'.cell? ⟨gt, i, none⟩ = some (.slice Ag ls.length cg) ∧ w'.cell? ⟨gh, 1, none⟩ = some (.slice (some ⟨gy, 0, none⟩) it.length c1) ∧ w'.cell? ⟨gy, i, none⟩ = some (.slice Au ls.length cu)) := ⟨fun w' hb => ⟨(blk_cell (blk_below HD.out hb) 0).trans rfl, (hb.cell (World.block_lt_of_cell? _ _ d1)).trans d1, (blk_cell (blk_below HD.out hb) 1).trans rfl, (hb.cell (World.block_lt_of_cell? _ _ d2)).trans d2⟩⟩
      have HSame : Aside0 (∀ w', Below W.heap.size W w' → Calls Try.prog 27 #[.slice Ag ls.length cg, .slice Au ls.length cu] w' fun e w'' => e = .returned (.bool true) ∧ Below w'.heap.size w' w'') := ⟨fun w' hb => by
        obtain ⟨K, hK⟩ := RefS.sameWords ls (by omega)
        obtain ⟨_, z1, z2⟩ := gv_reads (q1.upd (S := none_) (Upd.of_below hb) (fun _ _ h => h))
        obtain ⟨_, z3, z4⟩ := gu_reads (q2.upd (S := none_) (Upd.of_below hb) (fun _ _ h => h))
        exact (PA.larderlaw1_sameWords.calls K Ag cg ls Au cu ls true w' z2 z1 z4 z3 (hK K (Nat.le_refl _))).mono fun e w'' ⟨he, hd⟩ => ⟨he, hd.below⟩⟩
      clear hx hls q1 q2 q5 eg eu d1 d2
      go_wp2_with fail
      clear hx0
      have HK0 := Aside0.mk (HS.out wr H0.out)
      go_region_held3 (fun w' => w'.cell? ⟨gh, 0, none⟩ = some (.slice (some ⟨gt, 0, none⟩) it.length c0) ∧ w'.cell? ⟨gt, i, none⟩ = some (.slice Ag ls.length cg) ∧ w'.cell? ⟨gh, 1, none⟩ = some (.slice (some ⟨gy, 0, none⟩) it.length c1) ∧ w'.cell? ⟨gy, i, none⟩ = some (.slice Au ls.length cu)) (first | exact HK1.out | exact HK0.out) (first | (go_at_call 27; refine (HSame.out _ H0.out.drew).mono ?_; rintro e w2 ⟨rfl, hb⟩; have H2 := Aside0.mk (below_next H0.out.drew hb); have HK1 := Aside0.mk (HS.out w2 H2.out); clear hb))
      go_wp2_with fail
      exact ⟨⟨i + 1, by omega, by rw [Int.natCast_succ], H2⟩, by simp only [intOf]; omega⟩
    · obtain rfl : i = it.length := by omega
      clear hlt
      go_wp2_with fail
      go_wp2_with fail
      go_loopw [6] (fun i wr => ∃ k : Nat, k ≤ it.length ∧ i = .int .i64 k ∧ Aside0 (∃ ow' vB' vBo' eB' aB' vW' vWo' eW' aW' done' used', Bk wr gb 0 ow' vB' vBo' eB' aB' vW' vWo' eW' aW' (turn + k) done' used' ∧ Tk 11 43 23 W wr gb gh 69 ow ow' (.slice A0 it.length c0) (.slice A1 it.length c1) it k)) (fun i _ => it.length - (intOf i).toNat)
      case atStart => exact ⟨0, by omega, rfl, ⟨ow, vB, vBo, eB, aB, vW, vWo, eW, aW, done, used, by rw [Nat.add_zero]; exact HB.out.below H0.out, Tk.start HP.out HD.out HX.out.1 HX.out.2.1 HX.out.2.2.1 H0.out⟩⟩
      case round =>
        obtain ⟨i, hi, rfl, H1⟩ := hrel
        rename_i wr0 wr
        have hx0 : wr.cell? ⟨gh, 0, none⟩ = some (.slice A0 it.length c0) := by
          obtain ⟨ow', _, _, _, _, _, _, _, _, _, _, h1, h2⟩ := H1.out
          exact (blk_cell h2.hd 0).trans rfl
        by_cases hlt : i < it.length
        · have hlt' : (i : Int) < it.length := by omega
          have hi0 : (0 : Int) ≤ (i : Int) := by omega
          obtain ⟨x, hx⟩ : ∃ x, it[i]? = some x := ⟨_, List.getElem?_eq_getElem hlt⟩
          obtain ⟨ow', vB', vBo', eB', aB', vW', vWo', eW', aW', done', used', h1, h2⟩ := H1.out
          have HB1 := Aside0.mk h1
          have HT1 := Aside0.mk h2
          obtain ⟨q1, q2⟩ := h2.rest i x hx (Nat.le_refl _)
          obtain ⟨Ag, cg, eg⟩ := q1.slice
          have q5 := (HP.out.el i x hx).2.2.2.2
          obtain ⟨gt, ct, e1, d1⟩ := h2.tg.get i _ (gs_get hx)
          rw [gs_len] at e1
          simp only [Value.slice.injEq, true_and] at e1
          obtain ⟨rfl, rfl⟩ := e1
          rw [eg] at d1
          have HX1 := Aside0.mk hx
          have HC := Aside0.mk (BokD.words.calls h1 Ag x.l.length cg x.l (by rw [← eg]; exact q1) q5 (by rw [← eg]; exact q2) (by omega))
          rw [← eg] at HC
          have HE := Aside0.mk eg
          clear hx q1 q2 q5 h1 h2
          go_wp2_with fail
          rw [← HE.out]
          refine HC.out.mono ?_
          rintro e w2 ⟨rfl, ow2, vW2, vWo2, eW2, used2, b1, b2⟩
          have H2 := Aside0.mk (Tk.step HT1.out HP.out HX.out.2.1 HX.out.2.2.1 HX.out.2.2.2.1 HX.out.2.2.2.2 HX1.out b2)
          have HB2 := Aside0.mk b1
          clear b1 b2
          go_wp2_with fail
          exact ⟨⟨i + 1, by omega, by rw [Int.natCast_succ], ⟨ow2, vB', vBo', eB', aB', vW2, vWo2, eW2, aW', done', used2, by have := HB2.out; rw [Nat.add_assoc] at this; exact this, H2.out⟩⟩, by simp only [intOf]; omega⟩
        · obtain rfl : i = it.length := by omega
          clear hlt
          obtain ⟨ow', vB', vBo', eB', aB', vW', vWo', eW', aW', done', used', h1, h2⟩ := H1.out
          have HB1 := Aside0.mk h1
          have HT1 := Aside0.mk h2
          have hfz := blk_frozen h2.hd 0
          have hd2 := blk_set h2.hd 0 (.slice none 0 0)
          have hfz2 := blk_frozen hd2 1
          have hx2 : (wr.setCell ⟨gh, 0, none⟩ (.slice none 0 0)).cell? ⟨gh, 1, none⟩ = some (.slice A1 it.length c1) := (blk_cell hd2 1).trans rfl
          have HD2 := Aside0.mk (blk_set hd2 1 (.slice none 0 0))
          have HU2 := Aside0.mk (Upd.put (S := fun b => b = gh) (Upd.put (S := fun b => b = gh) (Upd.refl _ wr) (.inl rfl) 0 (.slice none 0 0)) (.inl rfl) 1 (.slice none 0 0))
          have HB2 := Aside0.mk (h1.move HU2.out (fun e => HX.out.2.2.2.2 e.symm) (fun b hb => by rintro rfl; exact hb h2.ng))
          clear h1 h2 hd2
          go_wp2_with fail
          clear hfz hfz2 hx0 hx2
          refine (BokJ.look.calls HB2.out).mono ?_
          rintro e w3 ⟨rfl, ow3, vB3, vBo3, eB3, aB3, vW3, vWo3, eW3, aW3, done3, b1, b2⟩
          have H3 := Aside0.mk b1
          have H4 := Aside0.mk b2
          clear b1 b2
          go_wp2_with fail
          go_ret
          have hsz := HT1.out.upd.size
          have hsz2 := HU2.out.size
          have ho : ∀ b, ow' b ≠ none → ow b ≠ none ∨ Xof it b ∨ W.heap.size ≤ b := HT1.out.own
          refine ⟨rfl, ow3, vB3, vBo3, eB3, aB3, vW3, vWo3, eW3, aW3, done3, used', H3.out, ?_, fun b hb => ?_, ?_⟩
          · refine (blk_upd HD2.out H4.out.upd ?_).trans rfl
            rintro (h1 | h1 | h1)
            · exact HX.out.2.2.2.2 h1
            · exact h1 HT1.out.ng
            · exact h1
          · rcases H4.out.own b hb with h1 | h1 | h1
            · exact ho b h1
            · exact h1.elim
            · exact .inr (.inr (by omega))
          · refine ((HT1.out.upd.mono ?_).trans (HU2.out.mono ?_)).trans2 H4.out.upd ?_
            · exact fun b => fun h1 => h1.elim .inl (fun h1 => .inr (.inr h1))
            · exact fun b h1 => .inr (.inl h1)
            · rintro b (h1 | h1 | h1)
              · exact .inl (.inl h1)
              · rcases ho b h1 with h2 | h2 | h2
                · exact .inl (.inr (.inr (.inl h2)))
                · exact .inl (.inr (.inr (.inr h2)))
                · exact .inr h2
              · exact h1.elim
end Go.Proofs.Ytgngpbcbnfmoiaa.SetW
