/- match.members: the machine's call answers membersL. -/
import Derived.Test.YtdflblegdfpdpaaDoorQuoteW
import Derived.Lib.SliceRun
namespace Go.Proofs.YtdflblegdfpdpaaDoor.GlobW
open Go Go.RowKit Go.Proofs.YtdflblegdfpdpaaDoorW.PrintWords Go.Proofs.YtdflblegdfpdpaaDoorW.PrintLast Go.Proofs.YtdflblegdfpdpaaDoorW.PrintMore Go.Proofs.YtdflblegdfpdpaaDoor.GlobS
set_option linter.unusedVariables false
set_option maxRecDepth 100000

/-- A set as the machine holds it. -/
def aggQ (q : Q) : Value := .agg #[.int .u64 (q.1 : Nat), .int .u64 (q.2.1 : Nat), .int .u64 (q.2.2.1 : Nat), .int .u64 (q.2.2.2 : Nat)]
def cellsQ (q : Q) : Array Value := #[.int .u64 (q.1 : Nat), .int .u64 (q.2.1 : Nat), .int .u64 (q.2.2.1 : Nat), .int .u64 (q.2.2.2 : Nat)]
theorem has4_cells (q : Q) : Has4 (cellsQ q) 0 q := by
  intro k hk
  have : k = 0 ∨ k = 1 ∨ k = 2 ∨ k = 3 := by omega
  rcases this with rfl | rfl | rfl | rfl <;> rfl
theorem put4_cells (q q' : Q) : put4 (cellsQ q) 0 q' = cellsQ q' := rfl

theorem rangeL_at (l : List Int) (i : Nat) : rangeL (l.drop i) = decide (i + 1 < l.length ∧ rd l i = 45 ∧ rd l ((i + 1 : Nat) : Int) ≠ 93) := by
  by_cases h0 : i < l.length
  · rw [rd_drop l i h0]
    by_cases h1 : i + 1 < l.length
    · rw [rd_drop l (i + 1) h1]
      by_cases h2 : rd l i = 45
      · rw [h2]
        show (!(rd l ((i + 1 : Nat) : Int) == 93)) = _
        rw [Bool.eq_iff_iff]
        simp [h1]
      · rw [decide_eq_false (fun h => h2 h.2.1)]
        unfold rangeL
        split
        · rename_i hh; injection hh with e1 e2; exact absurd e1 h2
        · rfl
    · rw [decide_eq_false (fun h => h1 h.1), List.drop_eq_nil_of_le (show l.length ≤ i + 1 by omega)]
      unfold rangeL
      split
      · rename_i hh; injection hh with e1 e2; cases e2
      · rfl
  · rw [decide_eq_false (fun h => h0 (by omega)), List.drop_eq_nil_of_le (show l.length ≤ i by omega)]
    rfl
theorem classL_nil (l : List Int) (i : Nat) (q : Q) (h : l.length ≤ i) : classL (l.drop i) q = (q, l.drop (i + 1)) := by
  rw [List.drop_eq_nil_of_le h, List.drop_eq_nil_of_le (show l.length ≤ i + 1 by omega), classL]
theorem classL_end (l : List Int) (i : Nat) (q : Q) (h : i < l.length) (h1 : rd l i = 93) : classL (l.drop i) q = (q, l.drop (i + 1)) := by
  rw [rd_drop l i h, classL, if_pos h1]
theorem classL_range (l : List Int) (i : Nat) (q : Q) (h : i < l.length) (h1 : ¬ rd l i = 93) (h2 : qTo l i + 1 < l.length) (h3 : rd l (qTo l i) = 45) (h4 : ¬ rd l ((qTo l i + 1 : Nat) : Int) = 93) :
    classL (l.drop i) q = classL (l.drop (qTo l (qTo l i + 1))) (addQ q (qAt l i).toNat (qAt l (qTo l i + 1)).toNat) := by
  have e := quotedL_at l i h
  have e2 := quotedL_at l (qTo l i + 1) h2
  have e3 := rangeL_at l (qTo l i)
  rw [decide_eq_true ⟨h2, h3, h4⟩] at e3
  rw [rd_drop l i h] at e ⊢
  rw [classL, if_neg h1]
  simp only [e, e3, if_true, List.tail_drop]
  rw [e2]
theorem classL_one (l : List Int) (i : Nat) (q : Q) (h : i < l.length) (h1 : ¬ rd l i = 93) (h2 : ¬ (qTo l i + 1 < l.length ∧ rd l (qTo l i) = 45 ∧ ¬ rd l ((qTo l i + 1 : Nat) : Int) = 93)) :
    classL (l.drop i) q = classL (l.drop (qTo l i)) (addQ q (qAt l i).toNat (qAt l i).toNat) := by
  have e := quotedL_at l i h
  have e3 := rangeL_at l (qTo l i)
  rw [decide_eq_false h2] at e3
  rw [rd_drop l i h] at e ⊢
  rw [classL, if_neg h1]
  simp only [e, e3]
  rfl
theorem qAt_in (l : List Int) (hl : ∀ c ∈ l, 0 ≤ c ∧ c < 256) (i : Nat) (h : i < l.length) : ∃ n : Nat, qAt l i = n ∧ n < 256 := by
  have hr : ∀ j : Nat, j < l.length → 0 ≤ rd l j ∧ rd l j < 256 := fun j hj => by
    unfold rd
    rw [Int.toNat_natCast, List.getD_eq_getElem?_getD, List.getElem?_eq_getElem hj]
    exact hl _ (List.getElem_mem hj)
  have : 0 ≤ qAt l i ∧ qAt l i < 256 := by
    unfold qAt
    split
    · rename_i hh; exact hr _ hh.2
    · exact hr _ h
  exact ⟨(qAt l i).toNat, by omega, by omega⟩

theorem xor_max (a : Nat) (h : a < 18446744073709551616) : bits BinOp.xor IntKind.u64 IntKind.u64.max (a : Int) = ((18446744073709551615 - a : Nat) : Int) := by
  rw [show IntKind.u64.max = ((18446744073709551615 : Nat) : Int) from rfl, bits_xor_u64_nat _ _ (by decide) h]
  congr 1
  refine Nat.eq_of_testBit_eq fun i => ?_
  rw [Nat.testBit_xor]
  by_cases hi : i < 64
  · rw [testBit_not a i h hi, show (18446744073709551615 : Nat) = 2 ^ 64 - 1 by decide, Nat.testBit_two_pow_sub_one, decide_eq_true hi]
    simp
  · have hp : (18446744073709551616 : Nat) ≤ 2 ^ i := Nat.pow_le_pow_right (n := 2) (by decide) (show 64 ≤ i by omega)
    rw [Nat.testBit_lt_two_pow (show 18446744073709551615 < 2 ^ i by omega), Nat.testBit_lt_two_pow (show a < 2 ^ i by omega), Nat.testBit_lt_two_pow (show 18446744073709551615 - a < 2 ^ i by omega)]
    rfl
set_option maxHeartbeats 800000 in
theorem not.calls (q : Q) (w : World) (hq : QIn q) :
    Calls Tryd.prog 53 #[aggQ q] w fun e w' => e = .returned (aggQ (notQ q)) ∧ Below w.heap.size w w' := by
  obtain ⟨a, b, c, d⟩ := q
  obtain ⟨ha, hb, hc, hd⟩ := hq
  unfold aggQ
  dsimp only at ha hb hc hd ⊢
  have HB := Aside0.mk (Below.refl w.heap.size w)
  have ea := xor_max a ha
  have eb := xor_max b hb
  have ec := xor_max c hc
  have ed := xor_max d hd
  go_enter Tryd.func53, Tryd.ntmps53
  go_wp2
  all_goals first
    | (rename_i h; exact absurd h (by decide))
    | ((try simp only [ea, eb, ec, ed])
       refine bodyPost_ret (results_cell_row (P := Tryd.prog) rfl _ _ (w.heap.size + 1) 67 _ (0, 0) _ rfl (heap_alloc2_new _ _ _) Tryd.underlying67 rfl (by kernel_rfl)) rfl ?_
       exact ⟨rfl, below_alloc (below_alloc (Below.refl _ _) _) _⟩)

/-- Amidst the rounds of members: what is left says the rest. -/
structure MemInv (w wr : World) (l : List Int) (i0 i : Nat) (q : Q) : Prop where
  lo : i0 ≤ i
  hi : i ≤ l.length
  qin : QIn q
  rest : classL (l.drop i0) noneQ = classL (l.drop i) q
  blk : wr.heap[w.heap.size + 1]? = some (.cells (cellsQ q) 67 (0, 0))
  out : wr.heap[w.heap.size]? = some (.cells (cellsQ noneQ) 67 (0, 0))
  below : Below w.heap.size w wr
theorem MemInv.start (w : World) (l : List Int) (i : Nat) (h : i ≤ l.length) : MemInv w ((w.alloc (.cells (cellsQ noneQ) 67)).alloc (.cells (cellsQ noneQ) 67)) l i i noneQ :=
  ⟨Nat.le_refl _, h, QIn.noneQ, rfl, heap_alloc2_new _ _ _, heap_alloc2_old _ _ _, below_alloc (below_alloc (Below.refl _ _) _) _⟩
theorem MemInv.cell {w wr : World} {l : List Int} {i0 i : Nat} {q : Q} (h : MemInv w wr l i0 i q) : wr.cell? ⟨w.heap.size + 1, 0, none⟩ = some (.int .u64 (q.1 : Nat)) ∧ wr.cell? ⟨w.heap.size + 1, 1, none⟩ = some (.int .u64 (q.2.1 : Nat)) ∧ wr.cell? ⟨w.heap.size + 1, 2, none⟩ = some (.int .u64 (q.2.2.1 : Nat)) ∧ wr.cell? ⟨w.heap.size + 1, 3, none⟩ = some (.int .u64 (q.2.2.2 : Nat)) :=
  ⟨blk_cell h.blk 0, blk_cell h.blk 1, blk_cell h.blk 2, blk_cell h.blk 3⟩
theorem MemInv.zero {w wr : World} {l : List Int} {i0 i : Nat} {q : Q} (h : MemInv w wr l i0 i q) : wr.cell? ⟨w.heap.size, 0, none⟩ = some (.int .u64 0) ∧ wr.cell? ⟨w.heap.size, 1, none⟩ = some (.int .u64 0) ∧ wr.cell? ⟨w.heap.size, 2, none⟩ = some (.int .u64 0) ∧ wr.cell? ⟨w.heap.size, 3, none⟩ = some (.int .u64 0) :=
  ⟨blk_cell h.out 0, blk_cell h.out 1, blk_cell h.out 2, blk_cell h.out 3⟩
theorem results_cell_row_tmp {P : Program} {fn : Func} {p u : Tmp} {ty : TypeId} (h : fn.results = #[.cell p ty, .tmp u]) (tmps : Array Value) (w : World) (g : Nat) (t : TypeId) (cs : Array Value) (fr : Nat × Nat) (d : TypeDesc)
    (hp : tmps.getD p undef = .pointer (some ⟨g, 0, none⟩)) (hg : w.heap[g]? = some (.cells cs t fr))
    (hu : P.underlying ty = some d) (hd : (match d with | .struct _ | .array _ _ => true | _ => false) = true) (hi : (P.info? ty).map (·.size) = some cs.size) :
    (results fn tmps).run P w = .ok (.tuple #[.agg cs, tmps.getD u undef]) w := by
  have hp' : tmps[p]?.getD undef = .pointer (some ⟨g, 0, none⟩) := by simpa using hp
  rw [results_cell_tmp h]
  simp [hp', asAddr, run_loadVar_row w g t ty cs fr d hg hu hd hi, Result.andThen]

theorem membersL_else (l : List Int) (i : Nat) (h : i < l.length → ¬ rd l i = 94) : membersL (l.drop i) = classL (l.drop i) noneQ := by
  unfold membersL
  split
  · rename_i r hh
    by_cases hi : i < l.length
    · rw [rd_drop l i hi] at hh
      injection hh with e1 e2
      exact absurd e1 (h hi)
    · rw [List.drop_eq_nil_of_le (by omega)] at hh
      cases hh
  · rfl
theorem membersL_not (l : List Int) (i : Nat) (h : i < l.length) (h1 : rd l i = 94) : membersL (l.drop i) = (notQ (classL (l.drop (i + 1)) noneQ).1, (classL (l.drop (i + 1)) noneQ).2) := by
  rw [rd_drop l i h, h1]
  rfl
theorem MemInv.next {w wr w' : World} {l : List Int} {i0 i j : Nat} {q : Q} {a b : Nat} (h : MemInv w wr l i0 i q) (hij : i ≤ j) (hj : j ≤ l.length) (hc : classL (l.drop i) q = classL (l.drop j) (addQ q a b))
    (hblk : w'.heap[w.heap.size + 1]? = some (.cells (put4 (cellsQ q) 0 (addQ q a b)) 67 (0, 0))) (hb : Below (w.heap.size + 1) wr w') (hk : KeepBut wr w' (w.heap.size + 1) none) : MemInv w w' l i0 j (addQ q a b) :=
  ⟨Nat.le_trans h.lo hij, hj, h.qin.addQ a b, h.rest.trans hc, hblk, hk.blk h.out (by omega) (by simp), h.below.trans ⟨hb.os, hb.tape, hb.output, hb.size, fun k hk => hb.block k (by omega)⟩⟩
theorem MemInv.done {w wr : World} {l : List Int} {i0 i : Nat} {q : Q} (h : MemInv w wr l i0 i q) (he : i < l.length → rd l i = 93) : classL (l.drop i0) noneQ = (q, l.drop (i + 1)) := by
  rw [h.rest]
  by_cases hi : i < l.length
  · exact classL_end l i q hi (he hi)
  · exact classL_nil l i q (by omega)
theorem below_put {B : Nat} {w wr : World} (h : Below B w wr) {g : Nat} (hg : B ≤ g) (j : Nat) (v : Value) : Below B w (wr.setCell ⟨g, j, none⟩ v) :=
  ⟨h.os, h.tape, h.output, by have := h.size; simpa [World.setCell] using this, fun k hk => (Below.heap_setCell wr _ _ k (by show k ≠ g; omega)).trans (h.block k hk)⟩
theorem blk_put4 {w : World} {g : Nat} {t : TypeId} {a b c d : Value} (h : w.heap[g]? = some (.cells #[a, b, c, d] t (0, 0))) (x y z u : Value) :
    ((((w.setCell ⟨g, 0, none⟩ x).setCell ⟨g, 1, none⟩ y).setCell ⟨g, 2, none⟩ z).setCell ⟨g, 3, none⟩ u).heap[g]? = some (.cells #[x, y, z, u] t (0, 0)) :=
  blk_set (blk_set (blk_set (blk_set h 0 x) 1 y) 2 z) 3 u
set_option maxHeartbeats 6400000 in
theorem members.calls (A : Option Addr) (c i0 : Nat) (l : List Int) (w : World) (hr : Kd.C (Kd.int .u8) w A l.length l) (hc : l.length ≤ c) (hl : ∀ x ∈ l, 0 ≤ x ∧ x < 256) (hlen : l.length ≤ 140737488355328) (hi : i0 ≤ l.length) :
    Calls Tryd.prog 38 #[.slice A l.length c, .int .i64 i0] w fun e w' => ∃ j : Nat, e = .returned (.tuple #[aggQ (membersL (l.drop i0)).1, .int .i64 j]) ∧ i0 < j ∧ j ≤ l.length + 1 ∧ l.drop j = (membersL (l.drop i0)).2 ∧ QIn (membersL (l.drop i0)).1 ∧ Below w.heap.size w w' := by
  have HR := Aside0.mk hr
  have HL := Aside0.mk hl
  clear hr hl
  by_cases hlt : i0 < l.length
  · have c0 : decide ((i0 : Int) < l.length) = true := decide_eq_true (by omega)
    have c0' : decide (i0 < l.length) = true := decide_eq_true hlt
    obtain ⟨ad, rfl, hcA⟩ := Kd.at_int HR.out (i0 : Int) (by omega) (by omega)
    simp only [Int.toNat_natCast] at hcA
    have hcA2 : ((w.alloc (.cells #[.int .u64 0, .int .u64 0, .int .u64 0, .int .u64 0] 67)).alloc (.cells #[.int .u64 0, .int .u64 0, .int .u64 0, .int .u64 0] 67)).cell? (ad.add i0) = some (.int .u8 (rd l i0)) := Lib.cell?_alloc_some _ (Lib.cell?_alloc_some _ hcA)
    by_cases h94 : rd l i0 = 94
    · have ca : (rd l i0 == 94) = true := by simp [h94]
      have HM := Aside0.mk (membersL_not l i0 hlt h94)
      clear h94
      go_enter Tryd.func38, Tryd.ntmps38
      go_wp2
      go_loopw [1, 8, 9] (fun v1 v8 v9 wr => ∃ (i : Nat) (q : Q), v1 = .int .i64 i ∧ i ≤ l.length ∧ Aside0 (MemInv w wr l (i0 + 1) i q)) (fun v1 v8 v9 wr => l.length - (intOf v1).toNat)
      case atStart => exact ⟨i0 + 1, noneQ, rfl, by omega, ⟨MemInv.start w l _ (by omega)⟩⟩
      case round =>
        obtain ⟨i, q, rfl, hi2, HI⟩ := hrel
        by_cases hlt2 : i < l.length
        · have c1 : decide ((i : Int) < l.length) = true := decide_eq_true (by omega)
          have c1' : decide (i < l.length) = true := decide_eq_true hlt2
          have HRr := Aside0.mk (Kd.C_below HR.out HI.out.below)
          obtain ⟨ad', hh, hcA⟩ := Kd.at_int HRr.out (i : Int) (by omega) (by omega)
          obtain rfl : ad = ad' := Option.some.inj hh
          simp only [Int.toNat_natCast] at hcA
          clear hh
          by_cases h93 : rd l i = 93
          · have c2 : (rd l i != 93) = false := by simp [h93]
            have H93 := Aside0.mk h93
            clear h93
            have HD := Aside0.mk (HI.out.done (fun _ => H93.out))
            obtain ⟨z0, z1, z2, z3⟩ := HI.out.cell
            have HQ := Aside0.mk HI.out.qin
            obtain ⟨qa, qb, qc, qd⟩ := q
            dsimp only at z0 z1 z2 z3
            go_wp2_with fail
            refine (not.calls (qa, qb, qc, qd) _ HQ.out).mono ?_
            rintro e w5 ⟨rfl, hb5⟩
            have HB5 := Aside0.mk (HI.out.below.trans ⟨hb5.os, hb5.tape, hb5.output, hb5.size, fun k hk => hb5.block k (Nat.lt_of_lt_of_le hk HI.out.below.size)⟩)
            have HK := Aside0.mk (blk_below HI.out.blk hb5)
            have HO := Aside0.mk (blk_below HI.out.out hb5)
            clear z0 z1 z2 z3 hb5
            obtain ⟨na, nb, nc, nd⟩ : ∃ a : Nat, ∃ b : Nat, ∃ c : Nat, ∃ d : Nat, True := ⟨0, 0, 0, 0, trivial⟩
            clear na nb nc nd
            generalize hnq : notQ (qa, qb, qc, qd) = nq
            have HNQ := Aside0.mk hnq
            clear hnq
            obtain ⟨na, nb, nc, nd⟩ := nq
            have z0 : w5.cell? ⟨w.heap.size + 1, 0, none⟩ = some (.int .u64 (qa : Nat)) := blk_cell HK.out 0
            have z1 : w5.cell? ⟨w.heap.size + 1, 1, none⟩ = some (.int .u64 (qb : Nat)) := blk_cell HK.out 1
            have z2 : w5.cell? ⟨w.heap.size + 1, 2, none⟩ = some (.int .u64 (qc : Nat)) := blk_cell HK.out 2
            have z3 : w5.cell? ⟨w.heap.size + 1, 3, none⟩ = some (.int .u64 (qd : Nat)) := blk_cell HK.out 3
            have g0 := blk_frozen HK.out 0
            have g1 := blk_frozen HK.out 1
            have g2 := blk_frozen HK.out 2
            have g3 := blk_frozen HK.out 3
            have y0 : w5.cell? ⟨w.heap.size, 0, none⟩ = some (.int .u64 0) := blk_cell HO.out 0
            have y1 : w5.cell? ⟨w.heap.size, 1, none⟩ = some (.int .u64 0) := blk_cell HO.out 1
            have y2 : w5.cell? ⟨w.heap.size, 2, none⟩ = some (.int .u64 0) := blk_cell HO.out 2
            have y3 : w5.cell? ⟨w.heap.size, 3, none⟩ = some (.int .u64 0) := blk_cell HO.out 3
            have f0 := blk_frozen HO.out 0
            have f1 := blk_frozen HO.out 1
            have f2 := blk_frozen HO.out 2
            have f3 := blk_frozen HO.out 3
            unfold aggQ
            dsimp only
            go_wp2
            refine bodyPost_ret (results_cell_row_tmp (P := Tryd.prog) rfl _ _ w.heap.size 67 _ (0, 0) _ rfl (blk_put4 (blk_far (blk_far (blk_far (blk_far HO.out (by simp) _) (by simp) _) (by simp) _) (by simp) _) _ _ _ _) Tryd.underlying67 rfl (by kernel_rfl)) rfl ?_
            refine ⟨i + 1, ?_, by have := HI.out.lo; omega, by omega, ?_, ?_, ?_⟩
            · rw [HM.out, HD.out, HNQ.out]
              refine congrArg Ending.returned (congrArg Value.tuple ?_)
              rfl
            · rw [HM.out, HD.out]
            · rw [HM.out, HD.out]; exact QIn.notQ _
            · refine below_put (below_put (below_put (below_put (below_put (below_put (below_put (below_put HB5.out ?_ _ _) ?_ _ _) ?_ _ _) ?_ _ _) (Nat.le_refl _) _ _) (Nat.le_refl _) _ _) (Nat.le_refl _) _ _) (Nat.le_refl _) _ _ <;> omega
          · have c2 : (rd l i != 93) = true := by simp [h93]
            have H93 := Aside0.mk h93
            clear h93
            obtain ⟨n1, hn1, hn1'⟩ := qAt_in l HL.out i hlt2
            have hq1 := quoted.calls (some ad) c i l wr HRr.out hc hlt2
            obtain ⟨t1, ht1⟩ : ∃ t1, t1 = qTo l i := ⟨_, rfl⟩
            have hle := qTo_le l i hlt2
            have HC1 := Aside0.mk (fun h => classL_one l i q hlt2 H93.out h)
            have HC2 := Aside0.mk (fun a b c => classL_range l i q hlt2 H93.out a b c)
            rw [← ht1] at hq1 hle HC1 HC2
            rw [hn1] at hq1 HC1 HC2
            rw [Int.toNat_natCast] at HC1 HC2
            clear hn1 ht1
            go_wp2_with fail
            refine hq1.mono ?_
            rintro e w4 ⟨rfl, rfl⟩
            by_cases k1 : t1 + 1 < l.length
            · have d1 : decide ((t1 : Int) + 1 < l.length) = true := decide_eq_true (by omega)
              have d1' : decide (t1 + 1 < l.length) = true := decide_eq_true k1
              obtain ⟨ad', hh, hcB⟩ := Kd.at_int HRr.out (t1 : Int) (by omega) (by omega)
              obtain rfl : ad = ad' := Option.some.inj hh
              simp only [Int.toNat_natCast] at hcB
              clear hh
              obtain ⟨ad', hh, hcD⟩ := Kd.at_int HRr.out ((t1 + 1 : Nat) : Int) (by omega) (by omega)
              obtain rfl : ad = ad' := Option.some.inj hh
              obtain ⟨b2, hb2⟩ : ∃ b2, b2 = rd l ((t1 + 1 : Nat) : Int) := ⟨_, rfl⟩
              rw [← hb2] at hcD HC1 HC2
              have hcC : w4.cell? ⟨ad.block, ad.off + (t1 + 1), none⟩ = some (.int .u8 b2) := hcD
              clear hh hcD hb2
              by_cases k2 : rd l t1 = 45
              · have d2 : (rd l t1 == 45) = true := by simp [k2]
                by_cases k3 : b2 = 93
                · have d3 : (b2 != 93) = false := by simp [k3]
                  have HCC := Aside0.mk (HC1.out (fun h => h.2.2 k3))
                  clear HC1 HC2 k2 k3
                  go_wp2_with (first | (go_at_call 39; refine (add.calls (w.heap.size + 1) 0 (cellsQ q) 67 q n1 n1 _ HI.out.qin hn1' hn1' HI.out.blk (has4_cells q)).mono ?_; rintro e w6 ⟨rfl, hblk, hb6, hk6, hz6⟩; have HX := Aside0.mk (HI.out.next (a := n1) (b := n1) (j := t1) (by omega) (by omega) HCC.out hblk hb6 hk6); clear hblk hb6 hk6 hz6))
                  go_roundw
                  case rel => exact ⟨t1, addQ q n1 n1, rfl, by omega, HX⟩
                  case measure => simp [intOf]; omega
                · have d3 : (b2 != 93) = true := by simp [k3]
                  have HCC := Aside0.mk (HC2.out k1 k2 k3)
                  obtain ⟨n2, hn2, hn2'⟩ := qAt_in l HL.out (t1 + 1) k1
                  have hq2 := quoted.calls (some ad) c (t1 + 1) l w4 HRr.out hc k1
                  obtain ⟨t2, ht2⟩ : ∃ t2, t2 = qTo l (t1 + 1) := ⟨_, rfl⟩
                  have hle2 := qTo_le l (t1 + 1) k1
                  rw [← ht2] at hq2 hle2 HCC
                  rw [hn2] at hq2 HCC
                  rw [Int.toNat_natCast] at HCC
                  clear hn2 ht2 HC1 HC2 k2 k3
                  go_wp2_with fail
                  refine hq2.mono ?_
                  rintro e w5 ⟨rfl, rfl⟩
                  go_wp2_with (first | (go_at_call 39; refine (add.calls (w.heap.size + 1) 0 (cellsQ q) 67 q n1 n2 _ HI.out.qin hn1' hn2' HI.out.blk (has4_cells q)).mono ?_; rintro e w6 ⟨rfl, hblk, hb6, hk6, hz6⟩; have HX := Aside0.mk (HI.out.next (a := n1) (b := n2) (j := t2) (by omega) (by omega) HCC.out hblk hb6 hk6); clear hblk hb6 hk6 hz6))
                  go_roundw
                  case rel => exact ⟨t2, addQ q n1 n2, rfl, by omega, HX⟩
                  case measure => simp [intOf]; omega
              · have d2 : (rd l t1 == 45) = false := by simp [k2]
                have HCC := Aside0.mk (HC1.out (fun h => k2 h.2.1))
                clear HC1 HC2 k2
                go_wp2_with (first | (go_at_call 39; refine (add.calls (w.heap.size + 1) 0 (cellsQ q) 67 q n1 n1 _ HI.out.qin hn1' hn1' HI.out.blk (has4_cells q)).mono ?_; rintro e w6 ⟨rfl, hblk, hb6, hk6, hz6⟩; have HX := Aside0.mk (HI.out.next (a := n1) (b := n1) (j := t1) (by omega) (by omega) HCC.out hblk hb6 hk6); clear hblk hb6 hk6 hz6))
                go_roundw
                case rel => exact ⟨t1, addQ q n1 n1, rfl, by omega, HX⟩
                case measure => simp [intOf]; omega
            · have d1 : decide ((t1 : Int) + 1 < l.length) = false := decide_eq_false (by omega)
              have d1' : decide (t1 + 1 < l.length) = false := decide_eq_false k1
              have HCC := Aside0.mk (HC1.out (fun h => k1 h.1))
              clear HC1 HC2
              go_wp2_with (first | (go_at_call 39; refine (add.calls (w.heap.size + 1) 0 (cellsQ q) 67 q n1 n1 _ HI.out.qin hn1' hn1' HI.out.blk (has4_cells q)).mono ?_; rintro e w6 ⟨rfl, hblk, hb6, hk6, hz6⟩; have HX := Aside0.mk (HI.out.next (a := n1) (b := n1) (j := t1) (by omega) (by omega) HCC.out hblk hb6 hk6); clear hblk hb6 hk6 hz6))
              go_roundw
              case rel => exact ⟨t1, addQ q n1 n1, rfl, by omega, HX⟩
              case measure => simp [intOf]; omega
        · have c1 : decide ((i : Int) < l.length) = false := decide_eq_false (by omega)
          have c1' : decide (i < l.length) = false := decide_eq_false (by omega)
          have HD := Aside0.mk (HI.out.done (fun h => absurd h hlt2))
          obtain ⟨z0, z1, z2, z3⟩ := HI.out.cell
          have HQ := Aside0.mk HI.out.qin
          obtain ⟨qa, qb, qc, qd⟩ := q
          dsimp only at z0 z1 z2 z3
          go_wp2_with fail
          refine (not.calls (qa, qb, qc, qd) _ HQ.out).mono ?_
          rintro e w5 ⟨rfl, hb5⟩
          have HB5 := Aside0.mk (HI.out.below.trans ⟨hb5.os, hb5.tape, hb5.output, hb5.size, fun k hk => hb5.block k (Nat.lt_of_lt_of_le hk HI.out.below.size)⟩)
          have HK := Aside0.mk (blk_below HI.out.blk hb5)
          have HO := Aside0.mk (blk_below HI.out.out hb5)
          clear z0 z1 z2 z3 hb5
          obtain ⟨na, nb, nc, nd⟩ : ∃ a : Nat, ∃ b : Nat, ∃ c : Nat, ∃ d : Nat, True := ⟨0, 0, 0, 0, trivial⟩
          clear na nb nc nd
          generalize hnq : notQ (qa, qb, qc, qd) = nq
          have HNQ := Aside0.mk hnq
          clear hnq
          obtain ⟨na, nb, nc, nd⟩ := nq
          have z0 : w5.cell? ⟨w.heap.size + 1, 0, none⟩ = some (.int .u64 (qa : Nat)) := blk_cell HK.out 0
          have z1 : w5.cell? ⟨w.heap.size + 1, 1, none⟩ = some (.int .u64 (qb : Nat)) := blk_cell HK.out 1
          have z2 : w5.cell? ⟨w.heap.size + 1, 2, none⟩ = some (.int .u64 (qc : Nat)) := blk_cell HK.out 2
          have z3 : w5.cell? ⟨w.heap.size + 1, 3, none⟩ = some (.int .u64 (qd : Nat)) := blk_cell HK.out 3
          have g0 := blk_frozen HK.out 0
          have g1 := blk_frozen HK.out 1
          have g2 := blk_frozen HK.out 2
          have g3 := blk_frozen HK.out 3
          have y0 : w5.cell? ⟨w.heap.size, 0, none⟩ = some (.int .u64 0) := blk_cell HO.out 0
          have y1 : w5.cell? ⟨w.heap.size, 1, none⟩ = some (.int .u64 0) := blk_cell HO.out 1
          have y2 : w5.cell? ⟨w.heap.size, 2, none⟩ = some (.int .u64 0) := blk_cell HO.out 2
          have y3 : w5.cell? ⟨w.heap.size, 3, none⟩ = some (.int .u64 0) := blk_cell HO.out 3
          have f0 := blk_frozen HO.out 0
          have f1 := blk_frozen HO.out 1
          have f2 := blk_frozen HO.out 2
          have f3 := blk_frozen HO.out 3
          unfold aggQ
          dsimp only
          go_wp2
          refine bodyPost_ret (results_cell_row_tmp (P := Tryd.prog) rfl _ _ w.heap.size 67 _ (0, 0) _ rfl (blk_put4 (blk_far (blk_far (blk_far (blk_far HO.out (by simp) _) (by simp) _) (by simp) _) (by simp) _) _ _ _ _) Tryd.underlying67 rfl (by kernel_rfl)) rfl ?_
          refine ⟨i + 1, ?_, by have := HI.out.lo; omega, by omega, ?_, ?_, ?_⟩
          · rw [HM.out, HD.out, HNQ.out]
            refine congrArg Ending.returned (congrArg Value.tuple ?_)
            rfl
          · rw [HM.out, HD.out]
          · rw [HM.out, HD.out]; exact QIn.notQ _
          · refine below_put (below_put (below_put (below_put (below_put (below_put (below_put (below_put HB5.out ?_ _ _) ?_ _ _) ?_ _ _) ?_ _ _) (Nat.le_refl _) _ _) (Nat.le_refl _) _ _) (Nat.le_refl _) _ _) (Nat.le_refl _) _ _ <;> omega
    · have ca : (rd l i0 == 94) = false := by simp [h94]
      have HM := Aside0.mk (membersL_else l i0 (fun _ => h94))
      clear h94
      go_enter Tryd.func38, Tryd.ntmps38
      go_wp2
      go_loopw [1, 8, 9] (fun v1 v8 v9 wr => ∃ (i : Nat) (q : Q), v1 = .int .i64 i ∧ i ≤ l.length ∧ Aside0 (MemInv w wr l (i0) i q)) (fun v1 v8 v9 wr => l.length - (intOf v1).toNat)
      case atStart => exact ⟨i0, noneQ, rfl, by omega, ⟨MemInv.start w l _ (by omega)⟩⟩
      case round =>
        obtain ⟨i, q, rfl, hi2, HI⟩ := hrel
        by_cases hlt2 : i < l.length
        · have c1 : decide ((i : Int) < l.length) = true := decide_eq_true (by omega)
          have c1' : decide (i < l.length) = true := decide_eq_true hlt2
          have HRr := Aside0.mk (Kd.C_below HR.out HI.out.below)
          obtain ⟨ad', hh, hcA⟩ := Kd.at_int HRr.out (i : Int) (by omega) (by omega)
          obtain rfl : ad = ad' := Option.some.inj hh
          simp only [Int.toNat_natCast] at hcA
          clear hh
          by_cases h93 : rd l i = 93
          · have c2 : (rd l i != 93) = false := by simp [h93]
            have H93 := Aside0.mk h93
            clear h93
            have HD := Aside0.mk (HI.out.done (fun _ => H93.out))
            obtain ⟨qa, qb, qc, qd⟩ := q
            obtain ⟨z0, z1, z2, z3⟩ := HI.out.cell
            obtain ⟨y0, y1, y2, y3⟩ := HI.out.zero
            have f0 := blk_frozen HI.out.out 0
            have f1 := blk_frozen HI.out.out 1
            have f2 := blk_frozen HI.out.out 2
            have f3 := blk_frozen HI.out.out 3
            dsimp only at z0 z1 z2 z3
            go_wp2
            refine bodyPost_ret (results_cell_row_tmp (P := Tryd.prog) rfl _ _ w.heap.size 67 _ (0, 0) _ rfl (blk_put4 HI.out.out _ _ _ _) Tryd.underlying67 rfl (by kernel_rfl)) rfl ?_
            refine ⟨i + 1, ?_, by have := HI.out.lo; omega, by omega, ?_, ?_, below_put (below_put (below_put (below_put HI.out.below (Nat.le_refl _) _ _) (Nat.le_refl _) _ _) (Nat.le_refl _) _ _) (Nat.le_refl _) _ _⟩
            · rw [HM.out, HD.out]
              refine congrArg Ending.returned (congrArg Value.tuple ?_)
              rfl
            · rw [HM.out, HD.out]
            · rw [HM.out, HD.out]; exact HI.out.qin
          · have c2 : (rd l i != 93) = true := by simp [h93]
            have H93 := Aside0.mk h93
            clear h93
            obtain ⟨n1, hn1, hn1'⟩ := qAt_in l HL.out i hlt2
            have hq1 := quoted.calls (some ad) c i l wr HRr.out hc hlt2
            obtain ⟨t1, ht1⟩ : ∃ t1, t1 = qTo l i := ⟨_, rfl⟩
            have hle := qTo_le l i hlt2
            have HC1 := Aside0.mk (fun h => classL_one l i q hlt2 H93.out h)
            have HC2 := Aside0.mk (fun a b c => classL_range l i q hlt2 H93.out a b c)
            rw [← ht1] at hq1 hle HC1 HC2
            rw [hn1] at hq1 HC1 HC2
            rw [Int.toNat_natCast] at HC1 HC2
            clear hn1 ht1
            go_wp2_with fail
            refine hq1.mono ?_
            rintro e w4 ⟨rfl, rfl⟩
            by_cases k1 : t1 + 1 < l.length
            · have d1 : decide ((t1 : Int) + 1 < l.length) = true := decide_eq_true (by omega)
              have d1' : decide (t1 + 1 < l.length) = true := decide_eq_true k1
              obtain ⟨ad', hh, hcB⟩ := Kd.at_int HRr.out (t1 : Int) (by omega) (by omega)
              obtain rfl : ad = ad' := Option.some.inj hh
              simp only [Int.toNat_natCast] at hcB
              clear hh
              obtain ⟨ad', hh, hcD⟩ := Kd.at_int HRr.out ((t1 + 1 : Nat) : Int) (by omega) (by omega)
              obtain rfl : ad = ad' := Option.some.inj hh
              obtain ⟨b2, hb2⟩ : ∃ b2, b2 = rd l ((t1 + 1 : Nat) : Int) := ⟨_, rfl⟩
              rw [← hb2] at hcD HC1 HC2
              have hcC : w4.cell? ⟨ad.block, ad.off + (t1 + 1), none⟩ = some (.int .u8 b2) := hcD
              clear hh hcD hb2
              by_cases k2 : rd l t1 = 45
              · have d2 : (rd l t1 == 45) = true := by simp [k2]
                by_cases k3 : b2 = 93
                · have d3 : (b2 != 93) = false := by simp [k3]
                  have HCC := Aside0.mk (HC1.out (fun h => h.2.2 k3))
                  clear HC1 HC2 k2 k3
                  go_wp2_with (first | (go_at_call 39; refine (add.calls (w.heap.size + 1) 0 (cellsQ q) 67 q n1 n1 _ HI.out.qin hn1' hn1' HI.out.blk (has4_cells q)).mono ?_; rintro e w6 ⟨rfl, hblk, hb6, hk6, hz6⟩; have HX := Aside0.mk (HI.out.next (a := n1) (b := n1) (j := t1) (by omega) (by omega) HCC.out hblk hb6 hk6); clear hblk hb6 hk6 hz6))
                  go_roundw
                  case rel => exact ⟨t1, addQ q n1 n1, rfl, by omega, HX⟩
                  case measure => simp [intOf]; omega
                · have d3 : (b2 != 93) = true := by simp [k3]
                  have HCC := Aside0.mk (HC2.out k1 k2 k3)
                  obtain ⟨n2, hn2, hn2'⟩ := qAt_in l HL.out (t1 + 1) k1
                  have hq2 := quoted.calls (some ad) c (t1 + 1) l w4 HRr.out hc k1
                  obtain ⟨t2, ht2⟩ : ∃ t2, t2 = qTo l (t1 + 1) := ⟨_, rfl⟩
                  have hle2 := qTo_le l (t1 + 1) k1
                  rw [← ht2] at hq2 hle2 HCC
                  rw [hn2] at hq2 HCC
                  rw [Int.toNat_natCast] at HCC
                  clear hn2 ht2 HC1 HC2 k2 k3
                  go_wp2_with fail
                  refine hq2.mono ?_
                  rintro e w5 ⟨rfl, rfl⟩
                  go_wp2_with (first | (go_at_call 39; refine (add.calls (w.heap.size + 1) 0 (cellsQ q) 67 q n1 n2 _ HI.out.qin hn1' hn2' HI.out.blk (has4_cells q)).mono ?_; rintro e w6 ⟨rfl, hblk, hb6, hk6, hz6⟩; have HX := Aside0.mk (HI.out.next (a := n1) (b := n2) (j := t2) (by omega) (by omega) HCC.out hblk hb6 hk6); clear hblk hb6 hk6 hz6))
                  go_roundw
                  case rel => exact ⟨t2, addQ q n1 n2, rfl, by omega, HX⟩
                  case measure => simp [intOf]; omega
              · have d2 : (rd l t1 == 45) = false := by simp [k2]
                have HCC := Aside0.mk (HC1.out (fun h => k2 h.2.1))
                clear HC1 HC2 k2
                go_wp2_with (first | (go_at_call 39; refine (add.calls (w.heap.size + 1) 0 (cellsQ q) 67 q n1 n1 _ HI.out.qin hn1' hn1' HI.out.blk (has4_cells q)).mono ?_; rintro e w6 ⟨rfl, hblk, hb6, hk6, hz6⟩; have HX := Aside0.mk (HI.out.next (a := n1) (b := n1) (j := t1) (by omega) (by omega) HCC.out hblk hb6 hk6); clear hblk hb6 hk6 hz6))
                go_roundw
                case rel => exact ⟨t1, addQ q n1 n1, rfl, by omega, HX⟩
                case measure => simp [intOf]; omega
            · have d1 : decide ((t1 : Int) + 1 < l.length) = false := decide_eq_false (by omega)
              have d1' : decide (t1 + 1 < l.length) = false := decide_eq_false k1
              have HCC := Aside0.mk (HC1.out (fun h => k1 h.1))
              clear HC1 HC2
              go_wp2_with (first | (go_at_call 39; refine (add.calls (w.heap.size + 1) 0 (cellsQ q) 67 q n1 n1 _ HI.out.qin hn1' hn1' HI.out.blk (has4_cells q)).mono ?_; rintro e w6 ⟨rfl, hblk, hb6, hk6, hz6⟩; have HX := Aside0.mk (HI.out.next (a := n1) (b := n1) (j := t1) (by omega) (by omega) HCC.out hblk hb6 hk6); clear hblk hb6 hk6 hz6))
              go_roundw
              case rel => exact ⟨t1, addQ q n1 n1, rfl, by omega, HX⟩
              case measure => simp [intOf]; omega
        · have c1 : decide ((i : Int) < l.length) = false := decide_eq_false (by omega)
          have c1' : decide (i < l.length) = false := decide_eq_false (by omega)
          have HD := Aside0.mk (HI.out.done (fun h => absurd h hlt2))
          obtain ⟨qa, qb, qc, qd⟩ := q
          obtain ⟨z0, z1, z2, z3⟩ := HI.out.cell
          obtain ⟨y0, y1, y2, y3⟩ := HI.out.zero
          have f0 := blk_frozen HI.out.out 0
          have f1 := blk_frozen HI.out.out 1
          have f2 := blk_frozen HI.out.out 2
          have f3 := blk_frozen HI.out.out 3
          dsimp only at z0 z1 z2 z3
          go_wp2
          refine bodyPost_ret (results_cell_row_tmp (P := Tryd.prog) rfl _ _ w.heap.size 67 _ (0, 0) _ rfl (blk_put4 HI.out.out _ _ _ _) Tryd.underlying67 rfl (by kernel_rfl)) rfl ?_
          refine ⟨i + 1, ?_, by have := HI.out.lo; omega, by omega, ?_, ?_, below_put (below_put (below_put (below_put HI.out.below (Nat.le_refl _) _ _) (Nat.le_refl _) _ _) (Nat.le_refl _) _ _) (Nat.le_refl _) _ _⟩
          · rw [HM.out, HD.out]
            refine congrArg Ending.returned (congrArg Value.tuple ?_)
            rfl
          · rw [HM.out, HD.out]
          · rw [HM.out, HD.out]; exact HI.out.qin
  · have c0 : decide ((i0 : Int) < l.length) = false := decide_eq_false (by omega)
    have c0' : decide (i0 < l.length) = false := decide_eq_false (by omega)
    have HM := Aside0.mk (membersL_else l i0 (fun h => absurd h hlt))
    go_enter Tryd.func38, Tryd.ntmps38
    go_wp2
    go_loopw [1, 8, 9] (fun v1 v8 v9 wr => ∃ (i : Nat) (q : Q), v1 = .int .i64 i ∧ i ≤ l.length ∧ Aside0 (MemInv w wr l i0 i q)) (fun v1 v8 v9 wr => l.length - (intOf v1).toNat)
    case atStart => exact ⟨i0, noneQ, rfl, by omega, ⟨MemInv.start w l _ (by omega)⟩⟩
    case round =>
      obtain ⟨i, q, rfl, hi2, HI⟩ := hrel
      have hlt2 : ¬ i < l.length := by have := HI.out.lo; omega
      have c1 : decide ((i : Int) < l.length) = false := decide_eq_false (by omega)
      have c1' : decide (i < l.length) = false := decide_eq_false (by omega)
      have HD := Aside0.mk (HI.out.done (fun h => absurd h hlt2))
      obtain ⟨qa, qb, qc, qd⟩ := q
      obtain ⟨z0, z1, z2, z3⟩ := HI.out.cell
      obtain ⟨y0, y1, y2, y3⟩ := HI.out.zero
      have f0 := blk_frozen HI.out.out 0
      have f1 := blk_frozen HI.out.out 1
      have f2 := blk_frozen HI.out.out 2
      have f3 := blk_frozen HI.out.out 3
      dsimp only at z0 z1 z2 z3
      go_wp2
      refine bodyPost_ret (results_cell_row_tmp (P := Tryd.prog) rfl _ _ w.heap.size 67 _ (0, 0) _ rfl (blk_put4 HI.out.out _ _ _ _) Tryd.underlying67 rfl (by kernel_rfl)) rfl ?_
      refine ⟨i + 1, ?_, by have := HI.out.lo; omega, by omega, ?_, ?_, below_put (below_put (below_put (below_put HI.out.below (Nat.le_refl _) _ _) (Nat.le_refl _) _ _) (Nat.le_refl _) _ _) (Nat.le_refl _) _ _⟩
      · rw [HM.out, HD.out]
        refine congrArg Ending.returned (congrArg Value.tuple ?_)
        rfl
      · rw [HM.out, HD.out]
      · rw [HM.out, HD.out]; exact HI.out.qin
end Go.Proofs.YtdflblegdfpdpaaDoor.GlobW
