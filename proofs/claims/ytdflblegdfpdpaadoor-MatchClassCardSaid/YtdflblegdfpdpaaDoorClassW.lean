/- larderlaw9.MatchClass: walked. -/
import Derived.Test.YtdflblegdfpdpaaDoorPartW
namespace Go.Proofs.YtdflblegdfpdpaaDoor.ClassW
open Go Go.RowKit Go.Proofs.YtdflblegdfpdpaaDoorW.PrintWords Go.Proofs.YtdflblegdfpdpaaDoorW.PrintLast Go.Proofs.YtdflblegdfpdpaaDoorW.PrintMore Go.Proofs.YtdflblegdfpdpaaDoor.HeldW Go.Proofs.YtdflblegdfpdpaaDoor.ScoreW Go.Proofs.YtdflblegdfpdpaaDoor.ClassS Go.Proofs.YtdflblegdfpdpaaDoor.AskW Go.Proofs.YtdflblegdfpdpaaDoor.WriteW Go.Proofs.YtdflblegdfpdpaaDoor.FitW Go.Proofs.YtdflblegdfpdpaaDoor.PartW Go.Proofs.YtdflblegdfpdpaaDoor.GlobS Go.Proofs.YtdflblegdfpdpaaDoor.GlobW
set_option linter.unusedVariables false
set_option maxRecDepth 100000

set_option maxHeartbeats 8000000 in
theorem class.calls (Ap : Option Addr) (cp : Nat) (l : List PieT) (Aq : Option Addr) (nq cq : Nat) (At : Option Addr) (nt ct : Nat) (w : World) (hC : kPie.C w Ap l.length l) (hlen : l.length ≤ 140737488355328) (hG : GL w) (hg : ∀ y ∈ l, gPie y) :
    Calls Tryd.prog 4 #[.agg #[.slice Ap l.length cp, .slice Aq nq cq, .slice At nt ct]] w fun e w' => e = .returned (.bool true) ∧ Below w.heap.size w w' := by
  have HC := Aside0.mk hC
  have HG := Aside0.mk hG
  have HGD := Aside0.mk hg
  have HB := Aside0.mk (Below.refl w.heap.size w)
  clear hC hG hg
  go_enter Tryd.func4, Tryd.ntmps4
  go_wp2_with (first
    | ((with_reducible refine gate_dst (N := 1) rfl ?_); refine box_event ?hg (N := 1) ?hd (cs := #[.slice Ap l.length cp, .slice Aq nq cq, .slice At nt ct]) (t := 32) ?hr ?_; (case hd => rfl); (case hg => rfl); (case hr => first | (go_simp; done) | (go_simp; rfl)); intro gb hgb w5 hbox hb; have n0_ := Aside0.mk (below_step HB.out hb); have BK := Aside0.mk hbox; clear HB; have HB := n0_; clear n0_ hb hbox hgb))
  refine (PB.wakes_walk w5 (HG.out.below HB.out)).mono ?_
  rintro e w6 ⟨rfl, hb⟩
  have z0 : w6.cell? ⟨gb, 0, none⟩ = some (.slice Ap l.length cp) := (blk_cell (blk_below BK.out hb) 0).trans rfl
  have n0_ := Aside0.mk (PB.below_next HB.out hb)
  clear HB BK hb
  have HB := n0_
  clear n0_
  go_wp2_with fail
  go_loopw [3] (fun v3 wr => ∃ i : Nat, v3 = .int .i64 i ∧ i ≤ l.length ∧ Aside0 (Below w6.heap.size w6 wr)) (fun v3 wr => l.length - (intOf v3).toNat)
  case atStart => exact ⟨0, rfl, by omega, ⟨Below.refl _ _⟩⟩
  case round =>
    obtain ⟨i, rfl, hi2, HI⟩ := hrel
    have z0' := pw_cell_below HI.out z0
    clear z0
    by_cases hlt : i < l.length
    · have c1 : decide ((i : Int) < l.length) = true := decide_eq_true (by omega)
      have c1' : decide (i < l.length) = true := decide_eq_true hlt
      by_cases h40 : i < 40
      · have c2 : decide ((i : Int) < 40) = true := decide_eq_true (by omega)
        have c2' : decide (i < 40) = true := decide_eq_true h40
        have HCr := Aside0.mk (Kd.C_below HC.out (PB.below_next HB.out HI.out))
        obtain ⟨y, hy⟩ : ∃ y, l[i]? = some y := ⟨_, List.getElem?_eq_getElem hlt⟩
        obtain ⟨ad, hAd⟩ : ∃ ad, Ap = some ad := by
          obtain ⟨ad, _, hh, _⟩ := Kd.C_get HCr.out y (i : Int) (by omega) (by omega)
          exact ⟨ad, hh⟩
        subst hAd
        obtain ⟨Am, cm, hcm, hCm, hK⟩ := pie_cells HCr.out i y hy
        have HGY := Aside0.mk (HGD.out y (List.mem_of_getElem? hy))
        obtain ⟨d, b0, neg, ms⟩ := y
        have HK : Aside0 (∀ j u, ([.int .i64 d, .int .u8 b0, .bool neg, .slice Am ms.length cm] : List Value)[j]? = some u → wr.cell? ((ad.add (i * 4)).add j) = some u) := ⟨hK⟩
        have HCm : Aside0 (kMem.C wr Am ms.length ms) := ⟨hCm⟩
        have HSZ := Aside0.mk (show (Tryd.prog.info? 35).map (·.size) = some 4 by kernel_rfl)
        have HONE := Aside0.mk (show (#[.int .i64 d, .int .u8 b0, .bool neg, .slice Am ms.length cm] : Array Value).all (·.oneCell') = true by
          rw [Array.all_eq_true_iff_forall_mem]
          intro v hv
          have hv : v ∈ ([.int .i64 d, .int .u8 b0, .bool neg, .slice Am ms.length cm] : List Value) := by simpa using hv
          simp only [List.mem_cons, List.not_mem_nil, or_false] at hv
          rcases hv with rfl | rfl | rfl | rfl <;> rfl)
        have HSZ2 := Aside0.mk (show (Tryd.prog.info? 35).map (·.size) = some (#[.int .i64 d, .int .u8 b0, .bool neg, .slice Am ms.length cm] : Array Value).size from HSZ.out)
        clear hy hcm hCm hK
        go_upto_region 7 with (first
          | ((with_reducible refine gate_dst (N := 24) rfl ?_); refine wpList_load_at rfl 35 (.tmp 23) rfl (ad.add (i * 4)) rfl [.int .i64 d, .int .u8 b0, .bool neg, .slice Am ms.length cm] _ HK.out Tryd.underlying35 rfl HSZ.out ?_)
          | ((with_reducible refine gate_dst (N := 4) rfl ?_); refine box_event ?hg (N := 4) ?hd (cs := #[.int .i64 0, .int .u8 0, .bool false, .slice none 0 0]) (t := 35) ?hr ?_; (case hd => rfl); (case hg => rfl); (case hr => first | (go_simp; done) | (go_simp; rfl)); intro ga hga w7 hbox hb; have BA := Aside0.mk hbox; have HB7 := Aside0.mk hb; have GA := Aside0.mk hga; clear hbox hb hga)
          | ((with_reducible refine gate_store (p := 4) rfl ?_); refine wpList_store_row rfl 35 (.tmp 4) (.tmp 24) rfl ga #[.int .i64 d, .int .u8 b0, .bool neg, .slice Am ms.length cm] rfl rfl 35 #[.int .i64 0, .int .u8 0, .bool false, .slice none 0 0] BA.out HSZ2.out rfl HONE.out ?_; obtain ⟨w8, hw8⟩ : ∃ w8, w8 = w7.setRow ga #[.int .i64 d, .int .u8 b0, .bool neg, .slice Am ms.length cm] := ⟨_, rfl⟩; rw [← hw8]; have BC := Aside0.mk (show w8.heap[ga]? = some (.cells #[.int .i64 d, .int .u8 b0, .bool neg, .slice Am ms.length cm] 35 (0, 0)) by rw [hw8]; exact setRow_heap _ _ _ _ _ _ BA.out); have HB8 := Aside0.mk (show Below wr.heap.size wr w8 by rw [hw8]; exact below_setRow HB7.out (by rw [GA.out]; exact Nat.le_refl _) _); clear hw8))
        have x0 : w8.cell? ⟨ga, 0, none⟩ = some (.int .i64 d) := (blk_cell BC.out 0).trans rfl
        have g0 := blk_frozen BC.out 0
        have BC9 : Aside0 ((w8.setCell ⟨ga, 0, none⟩ (.int .i64 3)).heap[ga]? = some (.cells #[.int .i64 3, .int .u8 b0, .bool neg, .slice Am ms.length cm] 35 (0, 0))) := ⟨blk_set BC.out 0 _⟩
        have HB9 : Aside0 (Below wr.heap.size wr (w8.setCell ⟨ga, 0, none⟩ (.int .i64 3))) := ⟨GlobW.below_put HB8.out (by rw [GA.out]; exact Nat.le_refl _) 0 _⟩
        have HGA : Aside0 (wr.heap.size ≤ ga) := ⟨by rw [GA.out]; exact Nat.le_refl _⟩
        clear HB7 GA BA HSZ HSZ2 HONE HK z0'
        go_upto_region 8 with fail
        clear x0 g0 BC HB8
        generalize w8.setCell ⟨ga, 0, none⟩ (.int .i64 3) = w9 at *
        obtain ⟨P, hP⟩ : ∃ P, P = writeL (toP 3 b0 neg ms) := ⟨_, rfl⟩
        have HP := Aside0.mk hP
        have HWC : Aside0 (Calls Tryd.prog 16 #[.agg #[.int .i64 3, .int .u8 b0, .bool neg, .slice Am ms.length cm]] w9 fun e w' => Gives w9 P e w') := ⟨by
          rw [hP]
          have := HGY.out.2.2.2.1
          exact write.calls 3 b0 neg Am cm ms w9 (Kd.C_below HCm.out HB9.out) (by show ms.length ≤ _; dsimp only at this; omega)⟩
        have HSZ4 := Aside0.mk (show (Tryd.prog.info? 35).map (·.size) = some (#[.int .i64 3, .int .u8 b0, .bool neg, .slice Am ms.length cm] : Array Value).size by kernel_rfl)
        clear hP
        go_upto_region 9 with (first
          | ((with_reducible refine gate_dst (N := 26) rfl ?_); refine wpList_load_row rfl 35 (.tmp 4) rfl ga rfl 35 #[.int .i64 3, .int .u8 b0, .bool neg, .slice Am ms.length cm] (0, 0) _ BC9.out Tryd.underlying35 rfl HSZ4.out ?_)
          | (go_at_call 16; refine HWC.out.mono ?_; rintro e w10 ⟨Aw, cw, rfl, hcw, hCw, hb⟩; have HCW := Aside0.mk hCw; have HLW := Aside0.mk hcw; have HB10 := Aside0.mk (PB.below_next HB9.out hb); have BC10 := Aside0.mk (blk_below BC9.out hb); clear hcw hCw hb))
        clear HWC BC9 HB9
        by_cases hbig : P.length ≤ 5000
        · have e1 : decide ((5000 : Int) < P.length) = false := decide_eq_false (by omega)
          have e1' : decide (5000 < P.length) = false := decide_eq_false (by omega)
          have HG10 : Aside0 (GL w10) := ⟨HG.out.below (PB.below_next (PB.below_next HB.out HI.out) HB10.out)⟩
          have HCm10 : Aside0 (kMem.C w10 Am ms.length ms) := ⟨Kd.C_below HCm.out HB10.out⟩
          have HPI : Aside0 (∀ x ∈ P, 0 ≤ x ∧ x < 256) := ⟨by rw [HP.out]; exact in_write _ (wf_u8 HGY.out.2.1) (good_mems HGY.out.2.2.2)⟩
          have H1 : Aside0 (∀ k : Nat, k < 256 → globL P [(k : Int)] = fitsL (toP 3 b0 neg ms) k) := ⟨fun k hk => by rw [HP.out]; exact class_one b0 neg ms HGY.out.2.2.2 k (by omega)⟩
          have HN : Aside0 (globL P [] = false) := ⟨by rw [HP.out]; exact class_none b0 neg ms⟩
          have H2 : Aside0 (globL P [97, 98] = false) := ⟨by rw [HP.out]; exact class_two b0 neg ms⟩
          go_wp2_with fail
          go_loopw [6] (fun v6 wq => ∃ k : Nat, v6 = .int .i64 k ∧ k ≤ 256 ∧ Aside0 (Below w10.heap.size w10 wq)) (fun v6 wq => 256 - (intOf v6).toNat)
          case atStart => exact ⟨0, rfl, by omega, ⟨Below.refl _ _⟩⟩
          case round =>
            obtain ⟨k, rfl, hk2, HJ⟩ := hrel
            by_cases hk : k < 256
            · have f1 : decide ((k : Int) < 256) = true := decide_eq_true (by omega)
              have f1' : decide (k < 256) = true := decide_eq_true hk
              go_upto_region 14 with fail
              have hS0 : wr.drew.heap[ga]? = some (.cells #[.int .i64 3, .int .u8 b0, .bool neg, .slice Am ms.length cm] 35 (0, 0)) ∧ Aside0 (Below w10.heap.size w10 wr.drew) := ⟨blk_below BC10.out HJ.out.drew, ⟨HJ.out.drew⟩⟩
              have HWR : Aside0 (IntKind.u8.wrap (k : Int) = k) := ⟨by unfold IntKind.wrap; simp [IntKind.bits, IntKind.signed]; omega⟩
              obtain ⟨r, hr⟩ : ∃ r, r = fitsL (toP 3 b0 neg ms) k := ⟨_, rfl⟩
              have HGL : Aside0 (∀ W1, Below w10.heap.size w10 W1 → ∀ A c, Kd.C (Kd.int .u8) W1 A 1 [(k : Int)] → 1 ≤ c → Calls Tryd.prog 14 #[.slice Aw P.length cw, .slice A 1 c] W1 fun e w' => e = .returned (.bool r) ∧ Below W1.heap.size W1 w') := ⟨by
                intro W1 hb1 A c hA hc
                rw [hr, ← H1.out k hk]
                exact glob.calls Aw cw P A c [(k : Int)] W1 (Kd.C_below HCW.out hb1) HLW.out HPI.out (by omega) hA hc (by intro x hx; simp at hx; omega) (by simp) (HG10.out.below hb1)⟩
              have HFT : Aside0 (∀ W1, Below w10.heap.size w10 W1 → Calls Tryd.prog 17 #[.agg #[.int .i64 3, .int .u8 b0, .bool neg, .slice Am ms.length cm], .int .u8 k] W1 fun e w' => e = .returned (.bool r) ∧ Below W1.heap.size W1 w') := ⟨by
                intro W1 hb1
                rw [hr]
                exact fits.calls 3 b0 neg Am cm ms k W1 (Kd.C_below HCm10.out hb1) (by have := HGY.out.2.2.2.1; dsimp only at this; omega)⟩
              clear hr
              go_cut [44] (fun v44 wc => v44 = .bool false ∧ Aside0 (Below w10.heap.size w10 wc))
              case first =>
                -- BIG
                refine wp_region_held_drew (S := (fun w' => w'.heap[ga]? = some (.cells #[.int .i64 3, .int .u8 b0, .bool neg, .slice Am ms.length cm] 35 (0, 0)) ∧ Aside0 (Below w10.heap.size w10 w'))) (by kernel_rfl) (by exact hS0) (fun hHeld => ?_)
                refine wpAnyH_take (i := 0) (oi := ({ dst := some 35, op := Go.Op.move (Go.Operand.tmp 5), type := 22, pos := "law.go:280", after := #[], guard := none } : Oper)) (v := ?vp0) rfl (by kernel_rfl) (by kernel_rfl) (by kernel_rfl) (fun _ _ _ h => h) (Or.inl ⟨by rfl, ?hyp0⟩) (by assumption) ?restp0
                case hyp0 => (intro w hSw; (try dsimp only at hSw); go_simp; (try with_reducible rfl))
                (try simp only [Act.put, List.setIfInBounds_toArray, List.set_cons_zero, List.set_cons_succ])
                refine wpAnyH_take (i := 1) (oi := ({ dst := some 36, op := Go.Op.move (Go.Operand.tmp 6), type := 3, pos := "law.go:280", after := #[], guard := none } : Oper)) (v := ?vp1) rfl (by kernel_rfl) (by kernel_rfl) (by kernel_rfl) (fun _ _ _ h => h) (Or.inl ⟨by rfl, ?hyp1⟩) (by assumption) ?restp1
                case hyp1 => (intro w hSw; (try dsimp only at hSw); go_simp; (try with_reducible rfl))
                (try simp only [Act.put, List.setIfInBounds_toArray, List.set_cons_zero, List.set_cons_succ])
                refine wpAnyH_take (i := 2) (oi := ({ dst := some 37, op := Go.Op.convert 3 5 (Go.Operand.tmp 36), type := 5, pos := "law.go:280", after := #[{ on := 1, ground := Go.Ground.data }], guard := none } : Oper)) (v := Value.int .u8 k) rfl (by kernel_rfl) (by kernel_rfl) (by kernel_rfl) (fun _ _ _ h => h) (Or.inl ⟨by rfl, ?hyp2⟩) (by assumption) ?restp2
                case hyp2 => (intro w hSw; (try dsimp only at hSw); go_simp; (try rw [HWR.out]); (try with_reducible rfl))
                (try simp only [Act.put, List.setIfInBounds_toArray, List.set_cons_zero, List.set_cons_succ])
                refine wpAnyH_take (i := 6) (oi := ({ dst := some 41, op := Go.Op.move (Go.Operand.tmp 6), type := 3, pos := "law.go:280", after := #[], guard := none } : Oper)) (v := ?vp6) rfl (by kernel_rfl) (by kernel_rfl) (by kernel_rfl) (fun _ _ _ h => h) (Or.inl ⟨by rfl, ?hyp6⟩) (by assumption) ?restp6
                case hyp6 => (intro w hSw; (try dsimp only at hSw); go_simp; (try with_reducible rfl))
                (try simp only [Act.put, List.setIfInBounds_toArray, List.set_cons_zero, List.set_cons_succ])
                refine wpAnyH_take (i := 7) (oi := ({ dst := some 42, op := Go.Op.convert 3 5 (Go.Operand.tmp 41), type := 5, pos := "law.go:280", after := #[{ on := 6, ground := Go.Ground.data }], guard := none } : Oper)) (v := Value.int .u8 k) rfl (by kernel_rfl) (by kernel_rfl) (by kernel_rfl) (fun _ _ _ h => h) (Or.inl ⟨by rfl, ?hyp7⟩) (by assumption) ?restp7
                case hyp7 => (intro w hSw; (try dsimp only at hSw); go_simp; (try rw [HWR.out]); (try with_reducible rfl))
                (try simp only [Act.put, List.setIfInBounds_toArray, List.set_cons_zero, List.set_cons_succ])
                refine wpAnyH_take (i := 5) (oi := ({ dst := some 40, op := Go.Op.load 35 (Go.Operand.tmp 4), type := 35, pos := "law.go:280", after := #[], guard := none } : Oper)) (v := ?vp5) rfl (by kernel_rfl) (by kernel_rfl) (by kernel_rfl) (fun _ _ _ h => h) (Or.inl ⟨by rfl, ?hyp5⟩) (by assumption) ?restp5
                case hyp5 => (intro w hSw; (try dsimp only at hSw); have hl := run_loadVar_row (P := Tryd.prog) w ga 35 35 _ (0, 0) _ hSw.1 Tryd.underlying35 rfl HSZ4.out; simp [execOp, Act.eval, Instr.loadAt, Instr.sureAddr, hl]; (try rfl))
                (try simp only [Act.put, List.setIfInBounds_toArray, List.set_cons_zero, List.set_cons_succ])
                refine wpAnyH_ready (rs := [3]) (by kernel_rfl) (by simp) ?_
                refine AllReadyH.cons (o := ({ dst := some 38, op := Go.Op.buildSlice 22 1 #[(0, Go.Operand.tmp 37)], type := 22, pos := "law.go:280", after := #[{ on := 2, ground := Go.Ground.data }], guard := none } : Oper)) rfl (fun K hK => ?_) AllReadyH.nil
                go_simp
                (try go_wp2_with fail)
                have HRW := Aside0.mk (got_const wr.drew _ rfl [(k : Int)] (0, 0) (by simp))
                refine hK.out _ _ ⟨blk_alloc hHeld.1 _, ⟨below_alloc hHeld.2.out _⟩⟩ (fun hHeld => ?_)
                clear hK K
                (try simp only [Act.put, List.setIfInBounds_toArray, List.set_cons_zero, List.set_cons_succ])
                refine wpAnyH_ready (rs := [4]) (by kernel_rfl) (by simp) ?_
                refine AllReadyH.cons (o := ({ dst := some 39, op := Go.Op.call { callee := Go.Callee.value (Go.Operand.func 14), args := #[Go.Operand.tmp 35, Go.Operand.tmp 38], argTypes := #[22, 22] }, type := 4, pos := "law.go:280", after := #[{ on := 0, ground := Go.Ground.data }, { on := 3, ground := Go.Ground.data }], guard := none } : Oper)) rfl (fun K hK => ?_) AllReadyH.nil
                go_simp
                refine (HGL.out _ hHeld.2.out _ 1 HRW.out (by decide)).mono ?_
                rintro e wg ⟨rfl, hb⟩
                (try go_wp2_with fail)
                refine hK.out _ _ ⟨blk_below hHeld.1 hb, ⟨PB.below_next hHeld.2.out hb⟩⟩ (fun hHeld => ?_)
                clear hK K
                (try simp only [Act.put, List.setIfInBounds_toArray, List.set_cons_zero, List.set_cons_succ])
                refine wpAnyH_ready (rs := [8]) (by kernel_rfl) (by simp) ?_
                refine AllReadyH.cons (o := ({ dst := some 43, op := Go.Op.call { callee := Go.Callee.value (Go.Operand.func 17), args := #[Go.Operand.tmp 40, Go.Operand.tmp 42], argTypes := #[35, 5] }, type := 4, pos := "law.go:280", after := #[{ on := 5, ground := Go.Ground.data }, { on := 7, ground := Go.Ground.data }, { on := 4, ground := Go.Ground.chain }], guard := none } : Oper)) rfl (fun K hK => ?_) AllReadyH.nil
                go_simp
                refine (HFT.out _ hHeld.2.out).mono ?_
                rintro e wf ⟨rfl, hb⟩
                (try go_wp2_with fail)
                refine hK.out _ _ ⟨blk_below hHeld.1 hb, ⟨PB.below_next hHeld.2.out hb⟩⟩ (fun hHeld => ?_)
                clear hK K
                (try simp only [Act.put, List.setIfInBounds_toArray, List.set_cons_zero, List.set_cons_succ])
                refine wpAnyH_take (i := 9) (oi := ({ dst := some 44, op := Go.Op.binOp Go.BinOp.neq 4 (Go.Operand.tmp 39) (Go.Operand.tmp 43) 4, type := 4, pos := "law.go:280", after := #[{ on := 4, ground := Go.Ground.data }, { on := 8, ground := Go.Ground.data }], guard := none } : Oper)) (v := Value.bool false) rfl (by kernel_rfl) (by kernel_rfl) (by kernel_rfl) (fun _ _ _ h => h) (Or.inl ⟨by rfl, ?hy9⟩) (by assumption) ?rest9
                case hy9 => (intro w hSw; (try dsimp only at hSw); go_simp; (try simp); (try with_reducible rfl))
                (try simp only [Act.put, List.setIfInBounds_toArray, List.set_cons_zero, List.set_cons_succ])
                refine wpAnyH_done (by kernel_rfl) ?_ _
                (try go_wp2_with fail)
                go_meet
                exact ⟨rfl, hHeld.2⟩
                -- GIB
              case rest =>
                obtain ⟨rfl, HJ2⟩ := hcut
                go_wp2_with fail
                go_roundw
                case rel => exact ⟨k + 1, by go_num, by omega, HJ2⟩
                case measure => simp [intOf]; omega
            · have f1 : decide ((k : Int) < 256) = false := decide_eq_false (by omega)
              have f1' : decide (k < 256) = false := decide_eq_false hk
              have HGN : Aside0 (Calls Tryd.prog 14 #[.slice Aw P.length cw, .slice none 0 0] wr fun e w' => e = .returned (.bool false) ∧ Below wr.heap.size wr w') := ⟨by
                rw [← HN.out]
                exact glob.calls Aw cw P none 0 [] wr (Kd.C_below HCW.out HJ.out) HLW.out HPI.out (by omega) (Kd.C_nil _ _) (by simp) (by intro x hx; cases hx) (by simp) (HG10.out.below HJ.out)⟩
              have HGA2 : Aside0 (∀ W1, Below w10.heap.size w10 W1 → ∀ A c, Kd.C (Kd.int .u8) W1 A 2 [97, 98] → 2 ≤ c → Calls Tryd.prog 14 #[.slice Aw P.length cw, .slice A 2 c] W1 fun e w' => e = .returned (.bool false) ∧ Below W1.heap.size W1 w') := ⟨by
                intro W1 hb1 A c hA hc
                rw [← H2.out]
                exact glob.calls Aw cw P A c [97, 98] W1 (Kd.C_below HCW.out hb1) HLW.out HPI.out (by omega) hA hc (by intro x hx; simp at hx; omega) (by simp) (HG10.out.below hb1)⟩
              go_wp2_with fail
              refine HGN.out.mono ?_
              rintro e wn ⟨rfl, hb⟩
              have HBN := Aside0.mk (PB.below_next HJ.out hb)
              clear hb HGN
              have hc1 := conv_at (w := wn) wn.heap.size rfl #[.int .u8 97, .int .u8 98] 2 2
              go_wp2_with fail
              refine (HGA2.out _ (below_alloc HBN.out _) _ 2 (got_const wn _ rfl [97, 98] _ (by decide)) (by decide)).mono ?_
              rintro e wz ⟨rfl, hb⟩
              have HBZ := Aside0.mk (PB.below_next (below_alloc HBN.out _) hb)
              clear hb hc1 HGA2
              go_wp2_with fail
              go_roundw
              case rel => exact ⟨i + 1, by go_num, by omega, ⟨PB.below_next HI.out (PB.below_next HB10.out HBZ.out)⟩⟩
              case measure => simp [intOf]; omega
        · have e1 : decide ((5000 : Int) < P.length) = true := decide_eq_true (by omega)
          have e1' : decide (5000 < P.length) = true := decide_eq_true (by omega)
          go_wp2_with fail
          go_ret
          exact ⟨rfl, PB.below_next (PB.below_next HB.out HI.out) HB10.out⟩
      · have c2 : decide ((i : Int) < 40) = false := decide_eq_false (by omega)
        have c2' : decide (i < 40) = false := decide_eq_false h40
        go_wp2_with fail
        go_ret
        exact ⟨rfl, PB.below_next HB.out HI.out⟩
    · have c1 : decide ((i : Int) < l.length) = false := decide_eq_false (by omega)
      have c1' : decide (i < l.length) = false := decide_eq_false hlt
      go_wp2_with fail
      go_ret
      exact ⟨rfl, PB.below_next HB.out HI.out⟩
theorem walk (y : PartT) (ca : Array Value) (W : World) (hK : kParts.K W y ca.toList) (hg : gParts y) (hG : GL W) :
    Calls Tryd.prog 4 #[.agg ca] W fun e w' => e = .returned (.bool true) ∧ Below W.heap.size W w' := by
  obtain ⟨Ap, cp, Aq, cq, At, ct, he, hp, hP, _⟩ := parts_cells hK
  obtain rfl : ca = #[.slice Ap y.1.length cp, .slice Aq y.2.1.length cq, .slice At y.2.2.length ct] := by cases ca; simp_all
  exact class.calls Ap cp y.1 Aq _ cq At _ ct W hP (by have := hg.1.1; omega) hG hg.1.2
end Go.Proofs.YtdflblegdfpdpaaDoor.ClassW
