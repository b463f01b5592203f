/- match.pieces: the machine's call gives the pieces that piecesL says. -/
import Derived.Test.YtdflblegdfpdpaaDoorMembW
import Derived.Deep.CutBlock
import Derived.Deep.DeepCutAuto
namespace Go.Proofs.YtdflblegdfpdpaaDoor.GlobW
open Go Go.RowKit Go.Proofs.YtdflblegdfpdpaaDoorW.PrintWords Go.Proofs.YtdflblegdfpdpaaDoorW.PrintLast Go.Proofs.YtdflblegdfpdpaaDoorW.PrintMore Go.Proofs.YtdflblegdfpdpaaDoor.GlobS
set_option linter.unusedVariables false
set_option maxRecDepth 100000

/-- The two variables of the package hold what they were laid with. -/
def GL (w : World) : Prop :=
  (w.cell? ⟨0, 0, none⟩ = some (.int .u64 0) ∧ w.cell? ⟨0, 1, none⟩ = some (.int .u64 0) ∧ w.cell? ⟨0, 2, none⟩ = some (.int .u64 0) ∧ w.cell? ⟨0, 3, none⟩ = some (.int .u64 0)) ∧
  (w.cell? ⟨1, 0, none⟩ = some (.int .u64 18446744073709551615) ∧ w.cell? ⟨1, 1, none⟩ = some (.int .u64 18446744073709551615) ∧ w.cell? ⟨1, 2, none⟩ = some (.int .u64 18446744073709551615) ∧ w.cell? ⟨1, 3, none⟩ = some (.int .u64 18446744073709551615))
theorem GL.below {w w' : World} (h : GL w) (hb : Below w.heap.size w w') : GL w' := by
  obtain ⟨⟨a, b, c, d⟩, e, f, g, i⟩ := h
  exact ⟨⟨pw_cell_below hb a, pw_cell_below hb b, pw_cell_below hb c, pw_cell_below hb d⟩, pw_cell_below hb e, pw_cell_below hb f, pw_cell_below hb g, pw_cell_below hb i⟩

/-- A piece among cells. -/
def pcK : Kd Pc := Kd.iso (Kd.pair Kd.bool (Kd.pair (Kd.int .u64) (Kd.pair (Kd.int .u64) (Kd.pair (Kd.int .u64) (Kd.int .u64))))) (fun p => (p.star, ((p.set.1 : Nat) : Int), ((p.set.2.1 : Nat) : Int), ((p.set.2.2.1 : Nat) : Int), ((p.set.2.2.2 : Nat) : Int)))
def cellsP (p : Pc) : Array Value := #[.bool p.star, .int .u64 (p.set.1 : Nat), .int .u64 (p.set.2.1 : Nat), .int .u64 (p.set.2.2.1 : Nat), .int .u64 (p.set.2.2.2 : Nat)]
theorem pcK_M (w : World) (base : Nat) (ok : Nat → Prop) (p : Pc) : pcK.M w base ok p (cellsP p).toList :=
  ⟨[.bool p.star], _, rfl, rfl, [_], _, rfl, rfl, [_], _, rfl, rfl, [_], [_], rfl, rfl, rfl⟩
theorem has4_P (p : Pc) : Has4 (cellsP p) 1 p.set := by
  intro k hk
  have : k = 0 ∨ k = 1 ∨ k = 2 ∨ k = 3 := by omega
  rcases this with rfl | rfl | rfl | rfl <;> rfl
theorem put4_P (p : Pc) (q : Q) : put4 (cellsP p) 1 q = cellsP ⟨p.star, q⟩ := rfl

/-- One piece has been read. -/
structure Mid (wr wc : World) (l : List Int) (i j : Nat) (p : Pc) : Prop where
  lo : i < j
  hi : j ≤ l.length + 1
  one : pieceL (l.drop i) = (p, l.drop j)
  qin : QIn p.set
  blk : wc.heap[wr.heap.size]? = some (.cells (cellsP p) 69 (0, 0))
  below : Below wr.heap.size wr wc
/-- Amidst the rounds of pieces. -/
structure PInv (w wr : World) (l : List Int) (i : Nat) (v : Value) (done : List Pc) : Prop where
  hi : i ≤ l.length + 1
  rest : piecesL l = done ++ piecesL (l.drop i)
  qin : ∀ p ∈ done, QIn p.set
  len : done.length ≤ i
  row : pcK.R 69 wr w.heap.size (fun _ => True) v done
  below : Below w.heap.size w wr
  gl : GL wr
theorem PInv.start (w : World) (l : List Int) (h : GL w) : PInv w w l 0 (.slice none 0 0) [] := ⟨by omega, rfl, (fun p hp => by cases hp), Nat.le_refl _, Kd.R_nil _ _ _ _ _, Below.refl _ _, h⟩

theorem infoP : (Tryd.prog.info? 69).map (fun i => (i.zero, i.size, i.bytes)) = some (some (.agg #[.bool false, .int .u64 0, .int .u64 0, .int .u64 0, .int .u64 0]), 5, 40) := by kernel_rfl
theorem cell_old {W w6 : World} {o : Obj} (hb : Below W.heap.size (W.alloc o).drew w6) {a : Addr} {v : Value} (h : W.cell? a = some v) : w6.cell? a = some v := by
  have hlt := block_lt_of_cell h
  have e : w6.heap[a.block]? = W.heap[a.block]? := (hb.block _ hlt).trans (Below.heap_alloc W o _ hlt)
  simp only [World.cell?] at h ⊢
  rw [e]
  exact h
set_option maxHeartbeats 6400000 in
theorem pieces.calls (A : Option Addr) (c : Nat) (l : List Int) (w : World) (hr : Kd.C (Kd.int .u8) w A l.length l) (hc : l.length ≤ c) (hl : ∀ x ∈ l, 0 ≤ x ∧ x < 256) (hlen : l.length ≤ 1000000000000) (hG : GL w) :
    Calls Tryd.prog 27 #[.slice A l.length c] w fun e w' => ∃ v : Value, e = .returned v ∧ pcK.R 69 w' w.heap.size (fun _ => True) v (piecesL l) ∧ (∀ p ∈ piecesL l, QIn p.set) ∧ (piecesL l).length ≤ l.length + 1 ∧ Below w.heap.size w w' := by
  have HR := Aside0.mk hr
  have HL := Aside0.mk hl
  have HG := Aside0.mk hG
  clear hr hl hG
  go_enter Tryd.func27, Tryd.ntmps27
  go_wp2
  go_loopw [3, 4] (fun v3 v4 wr => ∃ (i : Nat) (done : List Pc), v4 = .int .i64 i ∧ i ≤ l.length + 1 ∧ Aside0 (PInv w wr l i v3 done)) (fun v3 v4 wr => l.length + 1 - (intOf v4).toNat)
  case atStart => exact ⟨0, [], rfl, by omega, ⟨PInv.start w l HG.out⟩⟩
  case round =>
    obtain ⟨i, done, rfl, hi, HI⟩ := hrel
    by_cases hlt : i < l.length
    · have c1 : decide ((i : Int) < l.length) = true := decide_eq_true (by omega)
      have c1' : decide (i < l.length) = true := decide_eq_true hlt
      have HRr := Aside0.mk (Kd.C_below HR.out HI.out.below)
      obtain ⟨ad, had, hcA⟩ := Kd.at_int HRr.out (i : Int) (by omega) (by omega)
      simp only [Int.toNat_natCast] at hcA
      subst had
      obtain ⟨ch, hch⟩ : ∃ ch, ch = rd l i := ⟨_, rfl⟩
      rw [← hch] at hcA
      have hcA2 : (wr.alloc (.cells #[.bool false, .int .u64 0, .int .u64 0, .int .u64 0, .int .u64 0] 69)).cell? (ad.add i) = some (.int .u8 ch) := Lib.cell?_alloc_some _ hcA
      have HCH := Aside0.mk hch
      clear hch
      go_upto_block 2 with (fail)
      go_cut [4] (fun v4 wc => ∃ (j : Nat) (p : Pc), v4 = .int .i64 j ∧ Aside0 (Mid wr wc l i j p))
      case first =>
        have HL1 := Aside0.mk (rd_drop l i hlt)
        by_cases h42 : ch = 42
        · have e1 : (ch == 42) = true := by simp [h42]
          have HH := Aside0.mk h42
          clear h42
          go_wp2
          go_meet
          refine ⟨i + 1, ⟨true, noneQ⟩, rfl, ⟨⟨by omega, by omega, ?_, QIn.noneQ, blk_new wr _, below_alloc (Below.refl _ _) _⟩⟩⟩
          rw [HL1.out, ← HCH.out, HH.out]; rfl
        have e1 : (ch == 42) = false := by simp [h42]
        by_cases h63 : ch = 63
        · have e2 : (ch == 63) = true := by simp [h63]
          have HH := Aside0.mk h63
          obtain ⟨g0, g1, g2, g3⟩ := HI.out.gl.2
          have k0 := Lib.cell?_alloc_some (.cells #[.bool false, .int .u64 0, .int .u64 0, .int .u64 0, .int .u64 0] 69) g0
          have k1 := Lib.cell?_alloc_some (.cells #[.bool false, .int .u64 0, .int .u64 0, .int .u64 0, .int .u64 0] 69) g1
          have k2 := Lib.cell?_alloc_some (.cells #[.bool false, .int .u64 0, .int .u64 0, .int .u64 0, .int .u64 0] 69) g2
          have k3 := Lib.cell?_alloc_some (.cells #[.bool false, .int .u64 0, .int .u64 0, .int .u64 0, .int .u64 0] 69) g3
          clear h63 h42 g0 g1 g2 g3
          go_wp2
          go_meet
          refine ⟨i + 1, ⟨false, allQ⟩, rfl, ⟨⟨by omega, by omega, ?_, QIn.allQ, blk_new wr _, below_alloc (Below.refl _ _) _⟩⟩⟩
          rw [HL1.out, ← HCH.out, HH.out]; rfl
        have e2 : (ch == 63) = false := by simp [h63]
        by_cases h91 : ch = 91
        · have e3 : (ch == 91) = true := by simp [h91]
          have HH := Aside0.mk h91
          have hmem := members.calls (some ad) c (i + 1) l (wr.alloc (.cells #[.bool false, .int .u64 0, .int .u64 0, .int .u64 0, .int .u64 0] 69)) (Kd.C_alloc HRr.out _) hc HL.out (by omega) (by omega)
          generalize hqm : membersL (l.drop (i + 1)) = qm at hmem
          have HQM := Aside0.mk hqm
          clear h91 h63 h42 hqm
          obtain ⟨⟨ma, mb, mc, md⟩, mr⟩ := qm
          unfold aggQ at hmem
          dsimp only at hmem
          go_wp2_with fail
          refine hmem.mono ?_
          rintro e w5 ⟨j, rfl, hj1, hj2, hj3, hj4, hb5⟩
          have HB := Aside0.mk (blk_below (blk_new wr (.cells #[.bool false, .int .u64 0, .int .u64 0, .int .u64 0, .int .u64 0] 69)) hb5)
          have HBB := Aside0.mk ((below_alloc (Below.refl wr.heap.size wr) (.cells #[.bool false, .int .u64 0, .int .u64 0, .int .u64 0, .int .u64 0] 69)).trans ⟨hb5.os, hb5.tape, hb5.output, hb5.size, fun k hk => hb5.block k (Nat.lt_of_lt_of_le hk (below_alloc (Below.refl wr.heap.size wr) _).size)⟩)
          have HJ := Aside0.mk (And.intro hj3 hj4)
          have y0 : w5.cell? ⟨wr.heap.size, 0 + 1, none⟩ = some (.int .u64 0) := blk_cell HB.out 1
          have y1 : w5.cell? ⟨wr.heap.size, 1 + 1, none⟩ = some (.int .u64 0) := blk_cell HB.out 2
          have y2 : w5.cell? ⟨wr.heap.size, 2 + 1, none⟩ = some (.int .u64 0) := blk_cell HB.out 3
          have y3 : w5.cell? ⟨wr.heap.size, 3 + 1, none⟩ = some (.int .u64 0) := blk_cell HB.out 4
          have f0 := blk_frozen HB.out 1
          have f1 := blk_frozen HB.out 2
          have f2 := blk_frozen HB.out 3
          have f3 := blk_frozen HB.out 4
          clear hj3 hj4 hb5
          go_wp2
          go_meet
          refine ⟨j, ⟨false, (ma, mb, mc, md)⟩, rfl, ⟨⟨by omega, by omega, ?_, HJ.out.2, blk_set (blk_set (blk_set (blk_set HB.out 1 _) 2 _) 3 _) 4 _, below_put (below_put (below_put (below_put HBB.out (Nat.le_refl _) _ _) (Nat.le_refl _) _ _) (Nat.le_refl _) _ _) (Nat.le_refl _) _ _⟩⟩⟩
          rw [HL1.out, ← HCH.out, HH.out]
          show (Pc.mk false (membersL (l.drop (i + 1))).1, (membersL (l.drop (i + 1))).2) = _
          rw [HQM.out, HJ.out.1]
        have e3 : (ch == 91) = false := by simp [h91]
        have HONE := Aside0.mk (show pieceL (l.drop i) = (⟨false, oneQ (qAt l i)⟩, l.drop (qTo l i)) by
          have := quotedL_at l i hlt
          rw [HL1.out, ← HCH.out] at this ⊢
          rw [pieceL_cons, if_neg h42, if_neg h63, if_neg h91, this])
        obtain ⟨n1, hn1, hn1'⟩ := qAt_in l HL.out i hlt
        by_cases h92 : ch = 92
        · have e4 : (ch == 92) = true := by simp [h92]
          by_cases hk : i + 1 < l.length
          · have d1 : decide ((i : Int) + 1 < l.length) = true := decide_eq_true (by omega)
            have d1' : decide (i + 1 < l.length) = true := decide_eq_true hk
            have hq1 : qAt l i = rd l ((i + 1 : Nat) : Int) := by unfold qAt; rw [if_pos ⟨by rw [← HCH.out]; exact h92, hk⟩]
            have hq2 : qTo l i = i + 2 := by unfold qTo; rw [if_pos ⟨by rw [← HCH.out]; exact h92, hk⟩]
            rw [hq2, hn1] at HONE
            obtain ⟨ad', hh, hcD⟩ := Kd.at_int HRr.out ((i + 1 : Nat) : Int) (by omega) (by omega)
            obtain rfl : ad = ad' := Option.some.inj hh
            rw [← hq1, hn1] at hcD
            have hcB : wr.cell? ⟨ad.block, ad.off + (i + 1), none⟩ = some (.int .u8 (n1 : Nat)) := hcD
            have hx0 : (0 : Int) ≤ (i : Int) + 1 := by omega
            have hx1 : (i : Int) + 1 < l.length := by omega
            have hcB2 := Lib.cell?_alloc_some (.cells #[.bool false, .int .u64 0, .int .u64 0, .int .u64 0, .int .u64 0] 69) hcB
            have HCB := Aside0.mk hcB
            clear hcD hh hq1 hq2 hn1 h92 h91 h63 h42 hcB
            go_wp2
            go_region_held3 (fun w' => w'.cell? ⟨ad.block, ad.off + (i + 1), none⟩ = some (.int .u8 (n1 : Nat))) (first | assumption | go_keep) (first | (go_at_call 39; refine (add.calls wr.heap.size 1 (cellsP ⟨false, noneQ⟩) 69 noneQ n1 n1 _ QIn.noneQ hn1' hn1' ?hbl (has4_P _)).mono ?_; (case hbl => exact blk_drew (blk_new wr _)); rintro e w6 ⟨rfl, hblk, hb6, hk6, hz6⟩; have hS6 : w6.cell? ⟨ad.block, ad.off + (i + 1), none⟩ = some (.int .u8 (n1 : Nat)) := cell_old hb6 HCB.out; have HX := Aside0.mk hblk; have HB6 := Aside0.mk hb6; clear hblk hb6 hk6 hz6))
            go_wp2
            go_meet
            exact ⟨i + 2, ⟨false, oneQ n1⟩, rfl, ⟨⟨by omega, by omega, HONE.out, QIn.noneQ.addQ _ _, HX.out, (below_drew (below_alloc (Below.refl _ _) _)).trans HB6.out⟩⟩⟩
          · have d1 : decide ((i : Int) + 1 < l.length) = false := decide_eq_false (by omega)
            have d1' : decide (i + 1 < l.length) = false := decide_eq_false hk
            have hq1 : qAt l i = ch := by unfold qAt; rw [if_neg (fun h => hk h.2), HCH.out]
            have hq2 : qTo l i = i + 1 := by unfold qTo; rw [if_neg (fun h => hk h.2)]
            rw [hq2, hn1] at HONE
            rw [hq1] at hn1
            have H92 := Aside0.mk h92
            clear h92 h91 h63 h42 hq1 hq2
            subst hn1
            have HCB := Aside0.mk hcA
            go_wp2
            go_region_held3 (fun w' => w'.cell? (ad.add i) = some (.int .u8 (n1 : Nat))) (first | assumption | go_keep) (first | (go_at_call 39; refine (add.calls wr.heap.size 1 (cellsP ⟨false, noneQ⟩) 69 noneQ n1 n1 _ QIn.noneQ hn1' hn1' ?hbl (has4_P _)).mono ?_; (case hbl => exact blk_drew (blk_new wr _)); rintro e w6 ⟨rfl, hblk, hb6, hk6, hz6⟩; have hS6 : w6.cell? (ad.add i) = some (.int .u8 (n1 : Nat)) := cell_old hb6 HCB.out; have HX := Aside0.mk hblk; have HB6 := Aside0.mk hb6; clear hblk hb6 hk6 hz6))
            go_wp2
            go_meet
            exact ⟨i + 1, ⟨false, oneQ n1⟩, rfl, ⟨⟨by omega, by omega, HONE.out, QIn.noneQ.addQ _ _, HX.out, (below_drew (below_alloc (Below.refl _ _) _)).trans HB6.out⟩⟩⟩
        · have e4 : (ch == 92) = false := by simp [h92]
          have hq1 : qAt l i = ch := by unfold qAt; rw [if_neg (fun h => h92 (by rw [HCH.out]; exact h.1)), HCH.out]
          have hq2 : qTo l i = i + 1 := by unfold qTo; rw [if_neg (fun h => h92 (by rw [HCH.out]; exact h.1))]
          rw [hq2, hn1] at HONE
          rw [hq1] at hn1
          clear h92 h91 h63 h42 hq1 hq2
          subst hn1
          have HCB := Aside0.mk hcA
          go_wp2
          go_region_held3 (fun w' => w'.cell? (ad.add i) = some (.int .u8 (n1 : Nat))) (first | assumption | go_keep) (first | (go_at_call 39; refine (add.calls wr.heap.size 1 (cellsP ⟨false, noneQ⟩) 69 noneQ n1 n1 _ QIn.noneQ hn1' hn1' ?hbl (has4_P _)).mono ?_; (case hbl => exact blk_drew (blk_new wr _)); rintro e w6 ⟨rfl, hblk, hb6, hk6, hz6⟩; have hS6 : w6.cell? (ad.add i) = some (.int .u8 (n1 : Nat)) := cell_old hb6 HCB.out; have HX := Aside0.mk hblk; have HB6 := Aside0.mk hb6; clear hblk hb6 hk6 hz6))
          go_wp2
          go_meet
          exact ⟨i + 1, ⟨false, oneQ n1⟩, rfl, ⟨⟨by omega, by omega, HONE.out, QIn.noneQ.addQ _ _, HX.out, (below_drew (below_alloc (Below.refl _ _) _)).trans HB6.out⟩⟩⟩
      case rest =>
        obtain ⟨j, p, rfl, HM⟩ := hcut
        have x0 : wc.cell? ⟨wr.heap.size, 0, none⟩ = some (.bool p.star) := blk_cell HM.out.blk 0
        have x1 : wc.cell? ⟨wr.heap.size, 1, none⟩ = some (.int .u64 (p.set.1 : Nat)) := blk_cell HM.out.blk 1
        have x2 : wc.cell? ⟨wr.heap.size, 2, none⟩ = some (.int .u64 (p.set.2.1 : Nat)) := blk_cell HM.out.blk 2
        have x3 : wc.cell? ⟨wr.heap.size, 3, none⟩ = some (.int .u64 (p.set.2.2.1 : Nat)) := blk_cell HM.out.blk 3
        have x4 : wc.cell? ⟨wr.heap.size, 4, none⟩ = some (.int .u64 (p.set.2.2.2 : Nat)) := blk_cell HM.out.blk 4
        have HBW := Aside0.mk (HI.out.below.trans ⟨HM.out.below.os, HM.out.below.tape, HM.out.below.output, HM.out.below.size, fun k hk => HM.out.below.block k (Nat.lt_of_lt_of_le hk HI.out.below.size)⟩)
        have HROW := Aside0.mk (Kd.R_below HI.out.row HM.out.below)
        go_wp2_with (first | ((with_reducible refine gate_builtin (b := .append) (xs := #[.tmp 56, .tmp 58]) rfl ?_); at_builtin; refine Kd.R_append pcK (w0 := w) w.heap.size rfl (.tmp 56) (.tmp 58) 63 69 (.agg #[.bool false, .int .u64 0, .int .u64 0, .int .u64 0, .int .u64 0]) 40 rfl Tryd.underlying63 infoP rfl (by decide) (by decide) u3 done p (cellsP p).toList (fun _ => True) (fun _ => False) rfl rfl ?aP (fun _ h => h.elim) (fun _ _ => trivial) ?aO ?aB ?aS ?aL ?_; (case aP => exact pcK_M _ _ _ p); (case aO => exact HROW.out); (case aB => exact HBW.out); (case aS => exact HBW.out.size); (case aL => have := HI.out.len; omega); intro v7 w7 ho hb hg hat; have HO := Aside0.mk ho; have HBN := Aside0.mk hb; clear ho hb hg hat))
        go_roundw
        case rel =>
          refine ⟨j, done ++ [p], rfl, HM.out.hi, ⟨⟨HM.out.hi, ?_, ?_, ?_, HO.out, HBN.out, HG.out.below HBN.out⟩⟩⟩
          · rw [HI.out.rest, rd_drop l i hlt, piecesL, ← rd_drop l i hlt, HM.out.one, List.append_assoc]
            rfl
          · intro x hx
            rcases List.mem_append.1 hx with hx | hx
            · exact HI.out.qin x hx
            · rw [List.mem_singleton.1 hx]; exact HM.out.qin
          · have := HI.out.len
            have := HM.out.lo
            rw [List.length_append, List.length_singleton]; omega
        case measure => have := HM.out.lo; simp [intOf]; omega
    · have c1 : decide ((i : Int) < l.length) = false := decide_eq_false (by omega)
      have c1' : decide (i < l.length) = false := decide_eq_false (by omega)
      go_wp2
      go_ret
      have hE : piecesL l = done := by
        have := HI.out.rest
        rw [List.drop_eq_nil_of_le (by omega), show piecesL [] = [] by rw [piecesL], List.append_nil] at this
        exact this
      rw [hE]
      exact ⟨_, rfl, HI.out.row, HI.out.qin, Nat.le_trans HI.out.len hi, HI.out.below⟩
end Go.Proofs.YtdflblegdfpdpaaDoor.GlobW
