/- larderlaw9.held: true where each asked answer is; the answers to Window. -/
import Derived.Test.YtdflblegdfpdpaaDoorWinS
import Derived.Test.YtdflblegdfpdpaaDoorAskW
import Derived.Test.YtdflblegdfpdpaaDoorWakeG
import Derived.Laws.Tables
import Derived.Laws.Cells
import Derived.Laws.CopyOwn
namespace Go.Proofs.YtdflblegdfpdpaaDoor.HeldW
open Go Go.RowKit Go.Proofs.YtdflblegdfpdpaaDoorW.PrintWords Go.Proofs.YtdflblegdfpdpaaDoorW.PrintLast Go.Proofs.YtdflblegdfpdpaaDoorW.PrintMore Go.Proofs.YtdflblegdfpdpaaDoor.PE Go.Proofs.YtdflblegdfpdpaaDoor.WinS Go.Proofs.YtdflblegdfpdpaaDoor.AskW Go.Proofs.YtdflblegdfpdpaaDoor.GlobW
set_option linter.unusedVariables false
set_option maxRecDepth 100000
/-- An ask whose answer is the document's. -/
def AnsOk (y : AskT) : Prop := ∀ (W : World) (ca : Array Value), GL W → kAsk.K W y ca.toList → Calls Tryd.prog 37 #[.agg ca] W fun e w' => e = .returned (.bool true) ∧ Below W.heap.size W w'

theorem add_add (a : Addr) (m j : Nat) : (a.add m).add j = a.add (m + j) := by
  by_cases hm : m = 0
  · subst hm; simp [Addr.add]
  · by_cases hj : j = 0
    · subst hj; simp [Addr.add, hm]
    · simp [Addr.add, hm, hj, Nat.add_assoc]
theorem run_loadVar_at {P : Program} (w : World) (A : Addr) (ty : TypeId) (cs : List Value) (d : TypeDesc) (hc : ∀ j v, cs[j]? = some v → w.cell? (A.add j) = some v)
    (hu : P.underlying ty = some d) (hd : (match d with | .struct _ | .array _ _ => true | _ => false) = true) (hi : (P.info? ty).map (·.size) = some cs.length) :
    (loadVar ty A).run P w = .ok (.agg cs.toArray) w := by
  have hl : (loadCells A cs.length).run P w = .ok cs.toArray w := run_loadCells_list (P := P) w A cs hc
  cases hq : P.info? ty with
  | none => simp [hq] at hi
  | some i =>
    have hs : i.size = cs.length := by simpa [hq] using hi
    have hagg : (isAgg ty).run P w = .ok true w := by
      unfold isAgg
      rw [Sem.run_bind, run_underlying hu w]
      cases d <;> simp_all
    simp [loadVar, Sem.run_bind, hagg, sizeOf, typeInfo, hq, hs, hl]
theorem wpList_load_at {P : Program} {ops : Array Oper} {rest : List Oper} {o : Oper} {a : Act} {w : World} {Q : Exit → Act → World → Prop} (hgd : o.guard = none) (ty : TypeId) (x : Operand) (ho : o.op = .load ty x)
    (A : Addr) (hx : a.eval x = .pointer (some A)) (cs : List Value) (d : TypeDesc) (hc : ∀ j v, cs[j]? = some v → w.cell? (A.add j) = some v)
    (hu : P.underlying ty = some d) (hd : (match d with | .struct _ | .array _ _ => true | _ => false) = true) (hi : (P.info? ty).map (·.size) = some cs.length)
    (h : wpList P ops Q rest (a.put o.dst (.agg cs.toArray)) w) : wpList P ops Q (o :: rest) a w :=
  wpList_plain hgd fun K hK => by
    unfold Oper.wp execOp
    simp only [ho, hx, Instr.loadAt, Instr.sureAddr, Sem.run_bind, Sem.run_pure, Result.andThen_ok, run_loadVar_at w A ty cs d hc hu hd hi]
    exact hK _ _ h
theorem el_cells {w : World} {ad : Addr} {n : Nat} {l : List AskT} (h : kAsk.C w (some ad) n l) (i : Nat) (y : AskT) (hy : l[i]? = some y) : ∃ c : List Value, kAsk.K w y c ∧ c.length = 18 ∧ (∀ j u, c[j]? = some u → w.cell? ((ad.add (i * 18)).add j) = some u) := by
  obtain ⟨hi, hp'⟩ := List.getElem?_eq_some_iff.1 hy
  have hn : l.length = n := h.1
  obtain ⟨ad', c, hh, hc, hK, hcells⟩ := Kd.C_get h y (i : Int) (by omega) (by omega)
  obtain rfl : ad = ad' := Option.some.inj hh
  rw [Int.toNat_natCast] at hK hcells
  have he : l.getD i y = y := by rw [List.getD_eq_getElem?_getD, hy]; rfl
  rw [he] at hK
  exact ⟨c, hK, hc, fun j u hu => by rw [add_add]; exact hcells j u hu⟩
def zeroAsk : Array Value := #[.int .i64 0, .slice none 0 0, .slice none 0 0, .int .i64 0, .int .i64 0, .int .i64 0, .int .i64 0, .int .i64 0, .bool false, .int .i64 0, .int .i64 0, .bool false, .int .i64 0, .slice none 0 0, .bool false, .int .i64 0, .slice none 0 0, .bool false]

set_option maxHeartbeats 8000000 in
theorem held (A : Option Addr) (c : Nat) (l : List AskT) (lo hi : Int) (w : World) (hC : kAsk.C w A l.length l) (hlen : l.length ≤ 140737488355328) (hG : GL w) (hans : ∀ y ∈ l, lo ≤ y.1 → y.1 ≤ hi → AnsOk y) :
    Calls Tryd.prog 26 #[.agg #[.slice A l.length c], .int .i64 lo, .int .i64 hi] w fun e w' => e = .returned (.bool true) ∧ Below w.heap.size w w' := by
  have HC := Aside0.mk hC
  have HG := Aside0.mk hG
  have HA := Aside0.mk hans
  have HB := Aside0.mk (Below.refl w.heap.size w)
  clear hC hG hans
  go_enter Tryd.func26, Tryd.ntmps26
  go_wp2_with (first
    | ((with_reducible refine gate_dst (N := 3) rfl ?_); refine box_event ?hg (N := 3) ?hd (cs := #[.slice A l.length c]) (t := 60) ?hr ?_; (case hd => rfl); (case hg => rfl); (case hr => first | (go_simp; done) | (go_simp; rfl)); intro gb hgb w5 hbox hb; have n0_ := Aside0.mk (below_step HB.out hb); have BK := Aside0.mk hbox; have GE := Aside0.mk hgb; clear HB; have HB := n0_; clear n0_ hb hbox hgb))
  refine (PB.wakes_walk w5 (HG.out.below HB.out)).mono ?_
  rintro e w6 ⟨rfl, hb⟩
  have BK6 := Aside0.mk (blk_below BK.out hb)
  have n0_ := Aside0.mk (PB.below_next HB.out hb)
  clear HB BK hb
  have HB := n0_
  clear n0_
  go_wp2_with fail
  go_loopw [7] (fun v7 wr => ∃ i : Nat, v7 = .int .i64 i ∧ i ≤ l.length ∧ Aside0 (Below w.heap.size w wr ∧ wr.heap[gb]? = some (.cells #[.slice A l.length c] 60 (0, 0)))) (fun v7 wr => l.length - (intOf v7).toNat)
  case atStart => exact ⟨0, rfl, by omega, ⟨HB.out, BK6.out⟩⟩
  case round =>
    obtain ⟨i, rfl, hi2, HI⟩ := hrel
    have z0 : wr.cell? ⟨gb, 0, none⟩ = some (.slice A l.length c) := (blk_cell HI.out.2 0).trans rfl
    by_cases hlt : i < l.length
    · have c1 : decide ((i : Int) < l.length) = true := decide_eq_true (by omega)
      have c1' : decide (i < l.length) = true := decide_eq_true hlt
      by_cases h200 : i < 200
      · have c2 : decide ((i : Int) < 200) = true := decide_eq_true (by omega)
        have c2' : decide (i < 200) = true := decide_eq_true h200
        have HCr := Aside0.mk (Kd.C_below HC.out HI.out.1)
        obtain ⟨y, hy⟩ : ∃ y, l[i]? = some y := ⟨_, List.getElem?_eq_getElem hlt⟩
        obtain ⟨ad, hAd⟩ : ∃ ad, A = some ad := by
          obtain ⟨ad, _, hh, _⟩ := Kd.C_get HCr.out y (i : Int) (by omega) (by omega)
          exact ⟨ad, hh⟩
        subst hAd
        obtain ⟨cs, hKy, hcl, hK⟩ := el_cells HCr.out i y hy
        have hmem := List.mem_of_getElem? hy
        obtain ⟨Ap, cp, At, ct, A3, c3, A4, c4, he, _⟩ := ask_cells hKy
        have HKY := Aside0.mk hKy
        have HAY := Aside0.mk (HA.out y hmem)
        have HK := Aside0.mk hK
        have HSZ := Aside0.mk (show (Tryd.prog.info? 45).map (·.size) = some cs.length by rw [hcl]; kernel_rfl)
        have HSZ2 := Aside0.mk (show (Tryd.prog.info? 45).map (·.size) = some cs.toArray.size by rw [List.size_toArray]; exact HSZ.out)
        have HSZ3 := Aside0.mk (show zeroAsk.size = cs.toArray.size by show 18 = cs.toArray.size; rw [List.size_toArray, hcl])
        have HONE := Aside0.mk (show cs.toArray.all (·.oneCell') = true by
          rw [Array.all_eq_true_iff_forall_mem]
          intro v hv
          exact kAsk.K_one hKy v (by simpa using hv))
        have HD0' : cs[0]? = some (.int .i64 y.1) := by rw [he]; rfl
        obtain ⟨d, hd⟩ : ∃ d, d = y.1 := ⟨_, rfl⟩
        rw [← hd] at HD0' HAY
        have HD0 := Aside0.mk HD0'
        clear hKy hmem hy hK hcl he HD0' hd
        by_cases hlo : lo ≤ d
        · have e1 : decide (lo ≤ d) = true := decide_eq_true hlo
          by_cases hhi : d ≤ hi
          · have e2 : decide (d ≤ hi) = true := decide_eq_true hhi
            have HAN := Aside0.mk (HAY.out hlo hhi)
            clear hlo hhi
            go_wp2_with (first
              | ((with_reducible refine gate_dst (N := 26) rfl ?_); refine wpList_load_at rfl 45 (.tmp 25) rfl (ad.add (i * 18)) rfl cs _ HK.out Tryd.underlying45 rfl HSZ.out ?_)
              | ((with_reducible refine gate_dst (N := 8) rfl ?_); refine box_event ?hg (N := 8) ?hd (cs := zeroAsk) (t := 45) ?hr ?_; (case hd => rfl); (case hg => rfl); (case hr => first | (go_simp; done) | (go_simp; rfl)); intro ga hga w7 hbox hb; have BA := Aside0.mk hbox; have HB7 := Aside0.mk hb; have GA := Aside0.mk hga; clear hbox hb hga)
              | ((with_reducible refine gate_store (p := 8) rfl ?_); refine wpList_store_row rfl 45 (.tmp 8) (.tmp 26) rfl ga cs.toArray rfl rfl 45 zeroAsk BA.out HSZ2.out HSZ3.out HONE.out ?_; obtain ⟨w8, hw8⟩ : ∃ w8, w8 = w7.setRow ga cs.toArray := ⟨_, rfl⟩; rw [← hw8]; have BC := Aside0.mk (show w8.heap[ga]? = some (.cells cs.toArray 45 (0, 0)) by rw [hw8]; exact setRow_heap _ _ _ _ _ _ BA.out); have HB8 := Aside0.mk (show Below wr.heap.size wr w8 by rw [hw8]; exact below_setRow HB7.out (by rw [GA.out]; exact Nat.le_refl _) _); clear hw8; have zd : w8.cell? ⟨ga, 0, none⟩ = some (.int .i64 d) := (blk_cell BC.out 0).trans (by rw [← HD0.out]; simp))
              | ((with_reducible refine gate_dst (N := 38) rfl ?_); (try (refine gate_guard (by rfl) ?_; dsimp only)); refine wpList_load_row rfl 45 (.tmp 8) rfl ga rfl 45 cs.toArray (0, 0) _ BC.out Tryd.underlying45 rfl HSZ2.out ?_))
            refine (HAN.out _ cs.toArray (HG.out.below (PB.below_next HI.out.1 HB8.out)) (by rw [List.toList_toArray]; exact kAsk.K_below HB8.out HKY.out)).mono ?_
            rintro e w9 ⟨rfl, hb⟩
            have n0_ := Aside0.mk (And.intro (PB.below_next (PB.below_next HI.out.1 HB8.out) hb) (blk_below (blk_below HI.out.2 HB8.out) hb))
            clear hb
            go_wp2_with fail
            go_roundw
            case rel => exact ⟨i + 1, by go_num, by omega, ⟨n0_.out.1, n0_.out.2⟩⟩
            case measure => simp [intOf]; omega
          · have e2 : decide (d ≤ hi) = false := decide_eq_false hhi
            clear hlo hhi
            go_wp2_with (first
              | ((with_reducible refine gate_dst (N := 26) rfl ?_); refine wpList_load_at rfl 45 (.tmp 25) rfl (ad.add (i * 18)) rfl cs _ HK.out Tryd.underlying45 rfl HSZ.out ?_)
              | ((with_reducible refine gate_dst (N := 8) rfl ?_); refine box_event ?hg (N := 8) ?hd (cs := zeroAsk) (t := 45) ?hr ?_; (case hd => rfl); (case hg => rfl); (case hr => first | (go_simp; done) | (go_simp; rfl)); intro ga hga w7 hbox hb; have BA := Aside0.mk hbox; have HB7 := Aside0.mk hb; have GA := Aside0.mk hga; clear hbox hb hga)
              | ((with_reducible refine gate_store (p := 8) rfl ?_); refine wpList_store_row rfl 45 (.tmp 8) (.tmp 26) rfl ga cs.toArray rfl rfl 45 zeroAsk BA.out HSZ2.out HSZ3.out HONE.out ?_; obtain ⟨w8, hw8⟩ : ∃ w8, w8 = w7.setRow ga cs.toArray := ⟨_, rfl⟩; rw [← hw8]; have BC := Aside0.mk (show w8.heap[ga]? = some (.cells cs.toArray 45 (0, 0)) by rw [hw8]; exact setRow_heap _ _ _ _ _ _ BA.out); have HB8 := Aside0.mk (show Below wr.heap.size wr w8 by rw [hw8]; exact below_setRow HB7.out (by rw [GA.out]; exact Nat.le_refl _) _); clear hw8; have zd : w8.cell? ⟨ga, 0, none⟩ = some (.int .i64 d) := (blk_cell BC.out 0).trans (by rw [← HD0.out]; simp))
              | ((with_reducible refine gate_dst (N := 38) rfl ?_); (try (refine gate_guard (by rfl) ?_; dsimp only)); refine wpList_load_row rfl 45 (.tmp 8) rfl ga rfl 45 cs.toArray (0, 0) _ BC.out Tryd.underlying45 rfl HSZ2.out ?_))
            go_roundw
            case rel => exact ⟨i + 1, by go_num, by omega, ⟨PB.below_next HI.out.1 HB8.out, blk_below HI.out.2 HB8.out⟩⟩
            case measure => simp [intOf]; omega
        · have e1 : decide (lo ≤ d) = false := decide_eq_false hlo
          clear hlo
          go_wp2_with (first
              | ((with_reducible refine gate_dst (N := 26) rfl ?_); refine wpList_load_at rfl 45 (.tmp 25) rfl (ad.add (i * 18)) rfl cs _ HK.out Tryd.underlying45 rfl HSZ.out ?_)
              | ((with_reducible refine gate_dst (N := 8) rfl ?_); refine box_event ?hg (N := 8) ?hd (cs := zeroAsk) (t := 45) ?hr ?_; (case hd => rfl); (case hg => rfl); (case hr => first | (go_simp; done) | (go_simp; rfl)); intro ga hga w7 hbox hb; have BA := Aside0.mk hbox; have HB7 := Aside0.mk hb; have GA := Aside0.mk hga; clear hbox hb hga)
              | ((with_reducible refine gate_store (p := 8) rfl ?_); refine wpList_store_row rfl 45 (.tmp 8) (.tmp 26) rfl ga cs.toArray rfl rfl 45 zeroAsk BA.out HSZ2.out HSZ3.out HONE.out ?_; obtain ⟨w8, hw8⟩ : ∃ w8, w8 = w7.setRow ga cs.toArray := ⟨_, rfl⟩; rw [← hw8]; have BC := Aside0.mk (show w8.heap[ga]? = some (.cells cs.toArray 45 (0, 0)) by rw [hw8]; exact setRow_heap _ _ _ _ _ _ BA.out); have HB8 := Aside0.mk (show Below wr.heap.size wr w8 by rw [hw8]; exact below_setRow HB7.out (by rw [GA.out]; exact Nat.le_refl _) _); clear hw8; have zd : w8.cell? ⟨ga, 0, none⟩ = some (.int .i64 d) := (blk_cell BC.out 0).trans (by rw [← HD0.out]; simp))
              | ((with_reducible refine gate_dst (N := 38) rfl ?_); (try (refine gate_guard (by rfl) ?_; dsimp only)); refine wpList_load_row rfl 45 (.tmp 8) rfl ga rfl 45 cs.toArray (0, 0) _ BC.out Tryd.underlying45 rfl HSZ2.out ?_))
          go_roundw
          case rel => exact ⟨i + 1, by go_num, by omega, ⟨PB.below_next HI.out.1 HB8.out, blk_below HI.out.2 HB8.out⟩⟩
          case measure => simp [intOf]; omega
      · have c2 : decide ((i : Int) < 200) = false := decide_eq_false (by omega)
        have c2' : decide (i < 200) = false := decide_eq_false h200
        go_wp2_with fail
        go_ret
        exact ⟨rfl, HI.out.1⟩
    · have c1 : decide ((i : Int) < l.length) = false := decide_eq_false (by omega)
      have c1' : decide (i < l.length) = false := decide_eq_false hlt
      go_wp2_with fail
      go_ret
      exact ⟨rfl, HI.out.1⟩

set_option maxHeartbeats 3200000 in
theorem ans2 (y : AskT) (hd : y.1 = 2) (hI : i64 y.2.2.2.1) (hJ : i64 y.2.2.2.2.1) (hN : i64 y.2.2.2.2.2.1) : AnsOk y := by
  intro w ca hG hK
  obtain ⟨Ap, cp, At, ct, A3, c3, A4, c4, he, _⟩ := ask_cells hK
  obtain ⟨d, lp, lt, I, J, N, ⟨f1, s1, o1⟩, ⟨f2, s2, o2⟩, ⟨f3, l3, o3⟩, ⟨f4, l4, o4⟩⟩ := y
  obtain rfl : d = 2 := hd
  obtain rfl : ca = #[.int .i64 2, .slice Ap lp.length cp, .slice At lt.length ct, .int .i64 I, .int .i64 J, .int .i64 N, .int .i64 f1, .int .i64 s1, .bool o1, .int .i64 f2, .int .i64 s2, .bool o2, .int .i64 f3, .slice A3 l3.length c3, .bool o3, .int .i64 f4, .slice A4 l4.length c4, .bool o4] := by cases ca; simp_all
  obtain ⟨r1, r2, hw⟩ : ∃ r1 r2, winS I J N = (r1, r2) := ⟨_, _, rfl⟩
  have K1 := Aside0.mk ((win_some I J N hI hJ hN).trans (congrArg some hw))
  have K2 := Aside0.mk ((ref_some I J N hI hJ hN).trans (congrArg some hw))
  have e1 : (r1 == r1) = true := by simp
  have e2 : (r2 == r2) = true := by simp
  have HB := Aside0.mk (Below.refl w.heap.size w)
  clear hG hK he hI hJ hN hw
  go_enter Tryd.func37, Tryd.ntmps37
  go_wp2_with (first
    | ((with_reducible refine gate_dst (N := 1) rfl ?_); refine box_event ?hg (N := 1) ?hd (cs := #[.int .i64 2, .slice Ap lp.length cp, .slice At lt.length ct, .int .i64 I, .int .i64 J, .int .i64 N, .int .i64 f1, .int .i64 s1, .bool o1, .int .i64 f2, .int .i64 s2, .bool o2, .int .i64 f3, .slice A3 l3.length c3, .bool o3, .int .i64 f4, .slice A4 l4.length c4, .bool o4]) (t := 45) ?hr ?_; (case hd => rfl); (case hg => rfl); (case hr => first | (go_simp; done) | (go_simp; rfl)); intro gb hg w5 hbox hb; have n0_ := Aside0.mk (below_step HB.out hb); have BK := Aside0.mk hbox; clear HB; have HB := n0_; clear n0_ hb hbox hg; have z0 : w5.cell? ⟨gb, 0, none⟩ = some (.int .i64 2) := (blk_cell BK.out 0).trans rfl; have z3 : w5.cell? ⟨gb, 3, none⟩ = some (.int .i64 I) := (blk_cell BK.out 3).trans rfl; have z4 : w5.cell? ⟨gb, 4, none⟩ = some (.int .i64 J) := (blk_cell BK.out 4).trans rfl; have z5 : w5.cell? ⟨gb, 5, none⟩ = some (.int .i64 N) := (blk_cell BK.out 5).trans rfl))
  refine (match_Window.calls 1 I J N r1 r2 _ K1.out).mono ?_
  rintro e w7 ⟨rfl, hb⟩
  have z3' := pw_cell_below hb z3
  have z4' := pw_cell_below hb z4
  have z5' := pw_cell_below hb z5
  have n0_ := Aside0.mk (PB.below_next HB.out hb)
  clear z0 z3 z4 z5 hb HB
  have HB := n0_
  clear n0_
  go_wp2_with fail
  refine (larderref9_Window.calls 3 I J N r1 r2 _ K2.out).mono ?_
  rintro e w8 ⟨rfl, hd8⟩
  have n0_ := Aside0.mk (PB.below_next HB.out hd8.below)
  clear HB hd8
  have HB := n0_
  clear n0_ z3' z4' z5'
  go_wp2_with fail
  go_ret
  exact ⟨rfl, HB.out⟩

set_option maxHeartbeats 1600000 in
theorem window (A : Option Addr) (c : Nat) (l : List AskT) (w : World) (hC : kAsk.C w A l.length l) (hlen : l.length ≤ 140737488355328) (hG : GL w) (hg : ∀ y ∈ l, gAsk y) :
    Calls Tryd.prog 9 #[.agg #[.slice A l.length c]] w fun e w' => e = .returned (.bool true) ∧ Below w.heap.size w w' := by
  have hh := held A c l 2 2 (w.alloc (.cells #[.slice A l.length c] 60)) (Kd.C_alloc hC _) hlen (hG.below (below_alloc (Below.refl _ _) _)) (fun y hy h1 h2 => by
    obtain ⟨_, _, _, hI, hJ, hN, _⟩ := hg y hy
    exact ans2 y (by omega) (wf_i64 hI) (wf_i64 hJ) (wf_i64 hN))
  clear hC hG hg
  go_enter Tryd.func9, Tryd.ntmps9
  go_wp2_with fail
  refine hh.mono ?_
  rintro e w7 ⟨rfl, hb⟩
  go_wp2_with fail
  go_ret
  exact ⟨rfl, PB.below_next (below_alloc (Below.refl _ _) _) hb⟩
theorem walk (l : List AskT) (ca : Array Value) (W : World) (hK : kAsks.K W l ca.toList) (hg : gAsks l) (hG : GL W) :
    Calls Tryd.prog 9 #[.agg ca] W fun e w' => e = .returned (.bool true) ∧ Below W.heap.size W w' := by
  obtain ⟨A, c, he, hc, hC⟩ := hK
  obtain rfl : ca = #[.slice A l.length c] := by cases ca; simp_all
  exact window A c l W hC (by have := hg.1; omega) hG hg.2
end Go.Proofs.YtdflblegdfpdpaaDoor.HeldW
