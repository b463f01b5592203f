/- The arena's methods that write: extend, New, Alloc, Set. -/
import Derived.Test.YtgjcffjicbmkhaaArW
import Derived.Deep.RegionHeld3
import Derived.Deep.DeepCutAuto
import Derived.Deep.CutRange
namespace Go.Proofs.Ytgjcffjicbmkhaa.ArX
open Go Go.RowKit Go.Proofs.YtgjcffjicbmkhaaW.PrintWords Go.Proofs.YtgjcffjicbmkhaaW.PrintLast Go.Proofs.YtgjcffjicbmkhaaW.PrintMore Go.Proofs.Ytgjcffjicbmkhaa.RowU Go.Proofs.Ytgjcffjicbmkhaa.ArS Go.Proofs.Ytgjcffjicbmkhaa.ArM Go.Proofs.Ytgjcffjicbmkhaa.ArW
set_option linter.unusedVariables false
set_option maxRecDepth 100000

/-- The arena's own block. -/
def HdAt (W : World) (g : Nat) (sz gw n cw gf m cf : Nat) : Prop := W.heap[g]? = some (.cells #[.int .i64 (sz : Int), .slice (some ⟨gw, 0, none⟩) n cw, .slice (some ⟨gf, 0, none⟩) m cf] 112 (0, 0))
theorem HdAt.c0 {W : World} {g sz gw n cw gf m cf : Nat} (h : HdAt W g sz gw n cw gf m cf) : W.cell? ⟨g, 0, none⟩ = some (.int .i64 (sz : Int)) := (blk_cell h 0).trans rfl
theorem HdAt.c1 {W : World} {g sz gw n cw gf m cf : Nat} (h : HdAt W g sz gw n cw gf m cf) : W.cell? ⟨g, 1, none⟩ = some (.slice (some ⟨gw, 0, none⟩) n cw) := (blk_cell h 1).trans rfl
theorem HdAt.c2 {W : World} {g sz gw n cw gf m cf : Nat} (h : HdAt W g sz gw n cw gf m cf) : W.cell? ⟨g, 2, none⟩ = some (.slice (some ⟨gf, 0, none⟩) m cf) := (blk_cell h 2).trans rfl
theorem HdAt.fz {W : World} {g sz gw n cw gf m cf : Nat} (h : HdAt W g sz gw n cw gf m cf) (j : Nat) : W.frozen? ⟨g, j, none⟩ = false := blk_frozen h j
theorem HdAt.set1 {W : World} {g sz gw n cw gf m cf : Nat} (h : HdAt W g sz gw n cw gf m cf) (gw' n' cw' : Nat) : HdAt (W.setCell ⟨g, 1, none⟩ (.slice (some ⟨gw', 0, none⟩) n' cw')) g sz gw' n' cw' gf m cf := blk_set h 1 _
theorem HdAt.set2 {W : World} {g sz gw n cw gf m cf : Nat} (h : HdAt W g sz gw n cw gf m cf) (gf' m' cf' : Nat) : HdAt (W.setCell ⟨g, 2, none⟩ (.slice (some ⟨gf', 0, none⟩) m' cf')) g sz gw n cw gf' m' cf' := blk_set h 2 _
theorem HdAt.upd {S : Nat → Prop} {W W' : World} {g sz gw n cw gf m cf : Nat} (h : HdAt W g sz gw n cw gf m cf) (hu : Upd S W W') (hg : ¬ S g) : HdAt W' g sz gw n cw gf m cf := blk_upd h hu hg
theorem HdAt.other {W : World} {g sz gw n cw gf m cf : Nat} (h : HdAt W g sz gw n cw gf m cf) {g' : Nat} (hg : g ≠ g') (j : Nat) (v : Value) : HdAt (W.setCell ⟨g', j, none⟩ v) g sz gw n cw gf m cf := by
  unfold HdAt
  rw [Below.heap_setCell W _ _ g hg]
  exact h
theorem HdAt.lt {W : World} {g sz gw n cw gf m cf : Nat} (h : HdAt W g sz gw n cw gf m cf) : g < W.heap.size := cell_lt h
theorem _root_.Go.Proofs.Ytgjcffjicbmkhaa.ArM.ArRaw.hdAt {W : World} {g gw gf cw cf sz : Nat} {fs : List Nat} {l : List Ob} (h : ArRaw W g gw gf cw cf sz fs l) : HdAt W g sz gw (used l) cw gf fs.length cf := h.hd
/-- How many words of bits there are, as the arena's block says. -/
def lenAt (W : World) (g : Nat) : Nat := match W.cell? ⟨g, 2, none⟩ with | some (.slice _ n _) => n | _ => 0
theorem HdAt.len {W : World} {g sz gw n cw gf m cf : Nat} (h : HdAt W g sz gw n cw gf m cf) : lenAt W g = m := by unfold lenAt; rw [h.c2]
/-- Amidst the loop that makes room for bits. -/
structure Grow (W wr : World) (g gw gf sz n cw : Nat) (l : List Ob) (o : Ob) (gw' : Nat) (gf' cf' : Nat) (fs' : List Nat) : Prop where
  hd : HdAt wr g sz gw' n cw gf' fs'.length cf'
  ws : WordsAt wr gw' cw (words (l ++ [o]))
  fb : WordsAt wr gf' cf' fs'
  bits : Bits fs' l
  flen : 64 * fs'.length ≤ n + 64
  nw : gw' = gw ∨ W.heap.size ≤ gw'
  nf : gf' = gf ∨ W.heap.size ≤ gf'
  ne1 : g ≠ gw'
  ne2 : g ≠ gf'
  ne3 : gw' ≠ gf'
  upd : Upd (three_ g gw gf) W wr
theorem words_new (l : List Ob) (o : Ob) (n : Nat) (hz : o.fields = List.replicate n 0) : (words l ++ List.replicate (1 + n) 0).set (used l) o.head = words (l ++ [o]) := by
  rw [words_snoc, hz, Nat.add_comm, List.replicate_succ]
  unfold used
  rw [List.set_append_right _ _ (Nat.le_refl _), Nat.sub_self, List.set_cons_zero]
theorem one_word {w : World} (x : Nat) {f : Nat × Nat} : ∀ j y, ([x] : List Nat)[j]? = some y → (w.alloc (.cells #[.int .u64 (x : Int)] 36 f)).cell? ((⟨w.heap.size, 0, none⟩ : Addr).add j) = some (u64 y) := by
  intro j y hy
  have h : (w.alloc (.cells #[.int .u64 (x : Int)] 36 f)).heap[w.heap.size]? = some (.cells #[.int .u64 (x : Int)] 36 f) := heap_alloc_new w _
  cases j with
  | zero =>
    simp at hy
    subst hy
    exact cell_of_row _ _ 0 _ _ _ h
  | succ j => simp at hy
theorem num6 (u : Nat) (h : u ≤ 1048576) : ∃ j r : Nat, j = u / 64 ∧ r = u % 64 ∧ r < 64 ∧ wrap64 ((u : Int) / 64) = (j : Int) ∧ wrap64 ((u : Int) % 64) = (r : Int) ∧ IntKind.i64.wrap ((u : Int) / 64) = (j : Int) ∧ IntKind.i64.wrap ((u : Int) % 64) = (r : Int) ∧ (u : Int).tmod 64 = (r : Int) ∧ IntKind.i64.wrap (j : Int) = (j : Int) ∧ IntKind.i64.wrap (r : Int) = (r : Int) :=
  ⟨u / 64, u % 64, rfl, rfl, by omega, by rw [w64_small _ (by omega) (by omega)]; omega, by rw [w64_small _ (by omega) (by omega)]; omega, by rw [IntKind.wrap_i64]; omega, by rw [IntKind.wrap_i64]; omega, by rw [Int.tmod_eq_emod_of_nonneg (by omega)]; omega, by rw [IntKind.wrap_i64]; omega, by rw [IntKind.wrap_i64]; omega⟩
theorem or_bit (x r : Nat) (hx : x < 18446744073709551616) (hr : r < 64) : bits BinOp.or IntKind.u64 (x : Int) (IntKind.u64.wrap (2 ^ r)) = ((x ||| 2 ^ r : Nat) : Int) := by
  have h1 : 2 ^ r < 2 ^ 64 := Nat.pow_lt_pow_right (by decide) hr
  have h3 : ((2 : Int) ^ r) = ((2 ^ r : Nat) : Int) := by rw [Int.natCast_pow]; rfl
  rw [h3]
  generalize 2 ^ r = k at *
  have h1 : k < 18446744073709551616 := h1
  have h2 : IntKind.u64.wrap (k : Int) = (k : Int) := by rw [IntKind.wrap_u64]; omega
  rw [h2]
  exact NumA.or_u64_nat x k hx h1
set_option maxHeartbeats 8000000 in
theorem extend.calls {W : World} {g gw gf cw cf sz : Nat} {fs : List Nat} {l : List Ob} (hA : ArRaw W g gw gf cw cf sz fs l) (o : Ob) (ho : o.ok) (m : Nat) (hz : o.fields = List.replicate m 0) (hfit : used l + (1 + m) ≤ sz) (n : Nat) (hn : n = 1 + m) :
    Calls Try.prog 51 #[.pointer (some ⟨g, 0, none⟩), .int .u64 (o.head : Int), .int .i64 (n : Int)] W fun e w' => e = .returned (.int .i64 (used l : Int)) ∧
      ∃ gw' gf', ArAt w' g gw' gf' sz (l ++ [o]) ∧ (gw' = gw ∨ W.heap.size ≤ gw') ∧ (gf' = gf ∨ W.heap.size ≤ gf') ∧ Upd (three_ g gw gf) W w' := by
  have a1 := hA.c1
  have a2 := hA.c2
  have hfz := hA.fz 1
  have hsz := hA.sz1
  have HA := Aside0.mk hA
  have HO := Aside0.mk ho
  have hn0 : 0 < n := by omega
  obtain ⟨u, hu⟩ : ∃ u, u = used l := ⟨_, rfl⟩
  have HU := Aside0.mk hu
  have HZ := Aside0.mk hz
  have HN := Aside0.mk hn
  have hub : u + n ≤ 1048576 := by omega
  obtain ⟨q, hq⟩ : ∃ q, q = u + n := ⟨_, rfl⟩
  have HQ := Aside0.mk hq
  rw [← hu] at a1
  rw [← hu]
  have HF := Aside0.mk hfit
  clear hA ho hz hn hu hfit
  go_enter Try.func51, Try.ntmps51
  clear hq
  have QN := Aside0.mk (show q = u + n from HQ.out)
  have hqb : q ≤ 1048576 := by have := HQ.out; omega
  go_upto_region 3 with ((with_reducible refine gate_builtin (b := .append) (xs := #[.tmp 17, .tmp 18]) rfl ?_); at_builtin; refine wpList_zeros _ rfl (.tmp 17) (.tmp 18) rfl gw cw (words l) u rfl HU.out HA.out.ws n rfl hn0 (by have := HU.out; unfold used at this; omega) q (by have := HU.out; have := HQ.out; unfold used at *; omega) ?_; intro gw' cw' w1 hg' hws hup; have HG := Aside0.mk hg'; have HWS := Aside0.mk hws; have HUP := Aside0.mk hup; clear hg' hws hup; have HD1 := Aside0.mk (HA.out.hdAt.upd HUP.out (show ¬ g = gw from HA.out.ne1)); have HFB1 := Aside0.mk (HA.out.fb.upd HUP.out (show ¬ gf = gw from fun h => HA.out.ne3 h.symm)); have b1 := HD1.out.c1; have bfz := HD1.out.fz 1)
  have HD2 := Aside0.mk (HD1.out.set1 gw' q cw')
  have hgn : g ≠ gw' := by
    rcases HG.out with rfl | h
    · exact HA.out.ne1
    · have := HA.out.hdAt.lt; omega
  have hfn : gf ≠ gw' := by
    rcases HG.out with rfl | h
    · exact fun h => HA.out.ne3 h.symm
    · have := HA.out.fb.lt; omega
  have HWS2 := Aside0.mk (HWS.out.other (g' := g) (fun h => hgn h.symm) 1 (.slice (some ⟨gw', 0, none⟩) q cw'))
  have HFB2 := Aside0.mk (HFB1.out.other (g' := g) (fun h => HA.out.ne2 h.symm) 1 (.slice (some ⟨gw', 0, none⟩) q cw'))
  have HUP2 : Aside0 (Upd (three_ g gw gf) W (w1.setCell ⟨g, 1, none⟩ (.slice (some ⟨gw', 0, none⟩) q cw'))) := ⟨(HUP.out.mono (S' := three_ g gw gf) (fun i hi => .inr (.inl hi))).put (.inl (.inl rfl)) _ _⟩
  clear b1 bfz HD1 HWS HFB1 HUP
  generalize w1.setCell ⟨g, 1, none⟩ (.slice (some ⟨gw', 0, none⟩) q cw') = w2 at *
  have b1 := HD2.out.c1
  have hx : w2.cell? ⟨gw', u, none⟩ = some (.int .u64 0) := HWS2.out.get u 0 (by rw [HU.out]; unfold used; rw [List.getElem?_append_right (Nat.le_refl _), Nat.sub_self, List.getElem?_replicate, if_pos hn0])
  have hxf := HWS2.out.frozen u
  have huq : u < q := by have := HQ.out; omega
  go_upto_block 0 with fail
  have HHL : o.head < 18446744073709551616 := Ob.head_lt HO.out
  have HG0 : Aside0 (Grow W (w2.setCell ⟨gw', u, none⟩ (.int .u64 (o.head : Int))) g gw gf sz q cw' l o gw' gf cf fs) := ⟨by
    refine ⟨HD2.out.other hgn _ _, ?_, HFB2.out.other hfn _ _, HA.out.bits, ?_, HG.out, .inl rfl, hgn, HA.out.ne2, fun h => hfn h.symm, ?_⟩
    · have h := HWS2.out.set u (by rw [HU.out]; unfold used; simp; omega) o.head
      rw [HU.out, HN.out, words_new l o m HZ.out, ← HU.out] at h
      exact h
    · have := HA.out.flen; have := HU.out; have := HQ.out; omega
    · refine HUP2.out.put ?_ _ _
      rcases HG.out with rfl | h
      · exact .inl (.inr (.inl rfl))
      · exact .inr h⟩
  clear b1 hx hxf HD2 HWS2 HFB2 HUP2
  generalize w2.setCell ⟨gw', u, none⟩ (.int .u64 (o.head : Int)) = w3 at *
  go_wp2_with fail
  go_loopw [] (fun wr => ∃ (gf' cf' : Nat) (fs' : List Nat), Aside0 (Grow W wr g gw gf sz q cw' l o gw' gf' cf' fs')) (fun wr => q - lenAt wr g)
  case atStart => exact ⟨gf, cf, fs, HG0⟩
  case round =>
    obtain ⟨gf', cf', fs', HI⟩ := hrel
    rename World => wr
    have b1 := HI.out.hd.c1
    have b2 := HI.out.hd.c2
    have hfl : fs'.length ≤ 100000 := by have := HI.out.flen; omega
    obtain ⟨y, hy⟩ : ∃ y, y = fs'.length := ⟨_, rfl⟩
    have HY := Aside0.mk hy
    rw [← hy] at b2 hfl
    clear hy
    obtain ⟨z, hz⟩ : ∃ z, z = y * 64 := ⟨_, rfl⟩
    have e1 : IntKind.i64.wrap ((y : Int) * 64) = (z : Int) := by rw [IntKind.wrap_i64]; omega
    have e1' : wrap64 ((y : Int) * 64) = (z : Int) := by rw [w64_small _ (by omega) (by omega)]; omega
    have HZ2 := Aside0.mk hz
    clear hz
    by_cases hc : z < q
    · have c1 : decide ((z : Int) < (q : Int)) = true := decide_eq_true (by omega)
      go_wp2_with fail
      go_region_held3 (fun w' => w'.cell? ⟨g, 1, none⟩ = some (Value.slice (some { block := gw', off := 0 }) q cw') ∧ w'.cell? ⟨g, 2, none⟩ = some (Value.slice (some { block := gf', off := 0 }) y cf')) (exact ⟨b1, b2⟩) (fail)
      go_wp2_with ((with_reducible refine gate_builtin (b := .append) (xs := #[.tmp 45, .tmp 46]) rfl ?_); at_builtin; refine wpList_words _ rfl (.tmp 45) (.tmp 46) rfl gf' cf' fs' y rfl HY.out ?hw ⟨wr.heap.size, 0, none⟩ 1 1 [0] rfl rfl ?hc (by decide) (by have := HY.out; omega) (y + 1) (by have := HY.out; omega) ?_; (case hw => exact HI.out.fb.below (below_alloc (Below.refl _ _).drew _)); (case hc => exact one_word 0); intro gf2 cf2 w5 hg5 hws5 hup5; have HG5 := Aside0.mk hg5; have HWS5 := Aside0.mk hws5; have HUP5 := Aside0.mk hup5; clear hg5 hws5 hup5; have HD5 := Aside0.mk ((HI.out.hd.upd (Upd.of_below (S := none_) (below_alloc (Below.refl _ _).drew _)) (fun h => h)).upd HUP5.out HI.out.ne2); have b2' := HD5.out.c2; have bfz := HD5.out.fz 2)
      go_roundw
      case rel =>
        refine ⟨gf2, cf2, fs' ++ [0], ⟨?_⟩⟩
        have hy1 : y + 1 = (fs' ++ [0]).length := by have := HY.out; simp; omega
        have hgl := HI.out.hd.lt
        have hwl := HI.out.ws.lt
        have hsz5 : wr.heap.size ≤ gf2 ∨ gf2 = gf' := by
          rcases HG5.out with h | h
          · exact .inr h
          · refine .inl (Nat.le_trans ?_ h)
            exact ((below_alloc (Below.refl wr.heap.size wr) (.cells #[.int .u64 0] 36)).drew).size
        have hn2 : g ≠ gf2 := by
          rcases hsz5 with h | h
          · omega
          · rw [h]; exact HI.out.ne2
        have hn3 : gw' ≠ gf2 := by
          rcases hsz5 with h | h
          · omega
          · rw [h]; exact HI.out.ne3
        have hua : Upd (three_ g gw gf) wr (wr.alloc (.cells #[.int .u64 0] 36)).drew := (((Upd.refl _ wr).alloc _).drew)
        have hS : ∀ i, i = gf' → three_ g gw gf i ∨ W.heap.size ≤ i := by
          rintro i rfl
          rcases HI.out.nf with h | h
          · exact .inl (.inr (.inr h))
          · exact .inr h
        refine ⟨?_, ?_, ?_, HI.out.bits.wider, ?_, HI.out.nw, ?_, HI.out.ne1, hn2, hn3, ?_⟩
        · rw [← hy1]; exact HD5.out.set2 gf2 (y + 1) cf2
        · exact (((HI.out.ws.upd (Upd.of_below (S := none_) (below_alloc (Below.refl _ _).drew _)) (fun h => h)).upd HUP5.out HI.out.ne3).other (fun h => HI.out.ne1 h.symm) 2 _)
        · exact HWS5.out.other (fun h => hn2 h.symm) 2 _
        · have := HZ2.out; rw [← hy1]; omega
        · rcases hsz5 with h | h
          · exact .inr (Nat.le_trans HI.out.upd.size h)
          · rw [h]; exact HI.out.nf
        · exact ((HI.out.upd.trans hua).trans2 HUP5.out hS).put (.inl (.inl rfl)) _ _
      case measure =>
        have h1 := (HD5.out.set2 gf2 (y + 1) cf2).len
        have h2 := HI.out.hd.len
        have := HY.out
        have := HZ2.out
        rw [h1, h2]
        omega
    · have c1 : decide ((z : Int) < (q : Int)) = false := decide_eq_false (by omega)
      go_wp2_with fail
      go_region_held3 (fun w' => w'.cell? ⟨g, 1, none⟩ = some (Value.slice (some { block := gw', off := 0 }) q cw') ∧ w'.cell? ⟨g, 2, none⟩ = some (Value.slice (some { block := gf', off := 0 }) y cf')) (exact ⟨b1, b2⟩) (fail)
      obtain ⟨j, r, hj, hr, hr64, qi, qr, qi', qr', qt, qj, qk⟩ := num6 u (by omega)
      have hjl : j < fs'.length := by have h1 := HZ2.out; have h2 := HY.out; clear e1 e1' qi qr qi' qr' qt qj qk; omega
      obtain ⟨x, hx⟩ : ∃ x, fs'[j]? = some x := ⟨_, List.getElem?_eq_getElem hjl⟩
      have hxl : x < 18446744073709551616 := HI.out.bits.small x (List.mem_of_getElem? hx)
      have hcj := HI.out.fb.get j x hx
      have hcf := HI.out.fb.frozen j
      have HR := Aside0.mk hr
      have HJ := Aside0.mk hj
      have HX := Aside0.mk hx
      have hjy : j < y := by rw [HY.out]; exact hjl
      have d1 : wr.drew.cell? ⟨g, 2, none⟩ = some (Value.slice (some { block := gf', off := 0 }) y cf') := b2
      clear hr hj hx hjl
      have d2 : ∀ v, (wr.drew.drew.setCell ⟨gf', j, none⟩ v).cell? ⟨g, 2, none⟩ = some (Value.slice (some { block := gf', off := 0 }) y cf') := by
        intro v
        have : HdAt (wr.drew.drew.setCell ⟨gf', j, none⟩ v) g sz gw' q cw' gf' y cf' := by rw [HY.out]; exact HdAt.other (W := wr.drew.drew) HI.out.hd HI.out.ne2 j v
        exact this.c2
      have HC := Aside0.mk hc
      clear e1 e1' c1 a1 a2 hfz b1 hc hub huq hqb hsz HHL hgn hfn hfl hn0
      go_upto_region 6 with fail
      -- REGION6
      refine wp_region_held_drew (S := (fun w' => w'.cell? ⟨g, 2, none⟩ = some (Value.slice (some { block := gf', off := 0 }) y cf'))) (by kernel_rfl) (by exact d1) (fun hHeld => ?_)
      refine wpAnyH_take (i := 0) (oi := ({ dst := some 50, op := Go.Op.move (Go.Operand.tmp 0), type := 29, pos := "arena.go:46", after := #[], guard := none } : Oper)) (v := ?vp0) rfl (by kernel_rfl) (by kernel_rfl) (by kernel_rfl) (fun _ _ _ h => h) (Or.inl ⟨by rfl, ?hyp0⟩) (by assumption) ?restp0
      case hyp0 => (intro w hSw; (try dsimp only at hSw); go_simp; (try with_reducible rfl))
      (try simp only [Act.put, List.setIfInBounds_toArray, List.set_cons_zero, List.set_cons_succ])
      refine wpAnyH_take (i := 1) (oi := ({ dst := some 51, op := Go.Op.nilCheck (Go.Operand.tmp 50), type := 0, pos := "arena.go:46", after := #[{ on := 0, ground := Go.Ground.data }], guard := none } : Oper)) (v := ?vp1) rfl (by kernel_rfl) (by kernel_rfl) (by kernel_rfl) (fun _ _ _ h => h) (Or.inl ⟨by rfl, ?hyp1⟩) (by assumption) ?restp1
      case hyp1 => (intro w hSw; (try dsimp only at hSw); go_simp; (try with_reducible rfl))
      (try simp only [Act.put, List.setIfInBounds_toArray, List.set_cons_zero, List.set_cons_succ])
      refine wpAnyH_take (i := 2) (oi := ({ dst := some 52, op := Go.Op.fieldAddr 112 (Go.Operand.tmp 51) 2, type := 0, pos := "arena.go:46", after := #[{ on := 1, ground := Go.Ground.data }], guard := none } : Oper)) (v := ?vp2) rfl (by kernel_rfl) (by kernel_rfl) (by kernel_rfl) (fun _ _ _ h => h) (Or.inl ⟨by rfl, ?hyp2⟩) (by assumption) ?restp2
      case hyp2 => (intro w hSw; (try dsimp only at hSw); go_simp; (try with_reducible rfl))
      (try simp only [Act.put, List.setIfInBounds_toArray, List.set_cons_zero, List.set_cons_succ])
      refine wpAnyH_take (i := 3) (oi := ({ dst := some 53, op := Go.Op.load 34 (Go.Operand.tmp 52), type := 34, pos := "arena.go:46", after := #[{ on := 2, ground := Go.Ground.data }], guard := none } : Oper)) (v := ?vp3) rfl (by kernel_rfl) (by kernel_rfl) (by kernel_rfl) (fun _ _ _ h => h) (Or.inl ⟨by rfl, ?hyp3⟩) (by assumption) ?restp3
      case hyp3 => (intro w hSw; (try dsimp only at hSw); go_simp; (try with_reducible rfl))
      (try simp only [Act.put, List.setIfInBounds_toArray, List.set_cons_zero, List.set_cons_succ])
      refine wpAnyH_take (i := 4) (oi := ({ dst := some 54, op := Go.Op.move (Go.Operand.tmp 7), type := 3, pos := "arena.go:46", after := #[], guard := none } : Oper)) (v := ?vp4) rfl (by kernel_rfl) (by kernel_rfl) (by kernel_rfl) (fun _ _ _ h => h) (Or.inl ⟨by rfl, ?hyp4⟩) (by assumption) ?restp4
      case hyp4 => (intro w hSw; (try dsimp only at hSw); go_simp; (try with_reducible rfl))
      (try simp only [Act.put, List.setIfInBounds_toArray, List.set_cons_zero, List.set_cons_succ])
      refine wpAnyH_take (i := 5) (oi := ({ dst := some 55, op := Go.Op.binOp Go.BinOp.quo 3 (Go.Operand.tmp 54) (Go.Operand.const (Go.Value.int Go.IntKind.i64 64)) 3, type := 3, pos := "arena.go:46", after := #[{ on := 4, ground := Go.Ground.data }], guard := none } : Oper)) (v := ?vp5) rfl (by kernel_rfl) (by kernel_rfl) (by kernel_rfl) (fun _ _ _ h => h) (Or.inl ⟨by rfl, ?hyp5⟩) (by assumption) ?restp5
      case hyp5 => (intro w hSw; (try dsimp only at hSw); go_simp; (try with_reducible rfl))
      (try simp only [Act.put, List.setIfInBounds_toArray, List.set_cons_zero, List.set_cons_succ])
      refine wpAnyH_take (i := 6) (oi := ({ dst := some 56, op := Go.Op.indexAddr 34 (Go.Operand.tmp 53) (Go.Operand.tmp 55), type := 0, pos := "arena.go:46", after := #[{ on := 3, ground := Go.Ground.data }, { on := 5, ground := Go.Ground.data }], guard := none } : Oper)) (v := ?vp6) rfl (by kernel_rfl) (by kernel_rfl) (by kernel_rfl) (fun _ _ _ h => h) (Or.inl ⟨by rfl, ?hyp6⟩) (by assumption) ?restp6
      case hyp6 => (intro w hSw; (try dsimp only at hSw); go_simp; (try with_reducible rfl))
      (try simp only [Act.put, List.setIfInBounds_toArray, List.set_cons_zero, List.set_cons_succ])
      refine wpAnyH_take (i := 8) (oi := ({ dst := some 58, op := Go.Op.move (Go.Operand.tmp 7), type := 3, pos := "arena.go:46", after := #[], guard := none } : Oper)) (v := ?vp8) rfl (by kernel_rfl) (by kernel_rfl) (by kernel_rfl) (fun _ _ _ h => h) (Or.inl ⟨by rfl, ?hyp8⟩) (by assumption) ?restp8
      case hyp8 => (intro w hSw; (try dsimp only at hSw); go_simp; (try with_reducible rfl))
      (try simp only [Act.put, List.setIfInBounds_toArray, List.set_cons_zero, List.set_cons_succ])
      refine wpAnyH_take (i := 9) (oi := ({ dst := some 59, op := Go.Op.binOp Go.BinOp.rem 3 (Go.Operand.tmp 58) (Go.Operand.const (Go.Value.int Go.IntKind.i64 64)) 3, type := 3, pos := "arena.go:46", after := #[{ on := 8, ground := Go.Ground.data }], guard := none } : Oper)) (v := ?vp9) rfl (by kernel_rfl) (by kernel_rfl) (by kernel_rfl) (fun _ _ _ h => h) (Or.inl ⟨by rfl, ?hyp9⟩) (by assumption) ?restp9
      case hyp9 => (intro w hSw; (try dsimp only at hSw); go_simp; (try with_reducible rfl))
      (try simp only [Act.put, List.setIfInBounds_toArray, List.set_cons_zero, List.set_cons_succ])
      refine wpAnyH_take (i := 10) (oi := ({ dst := some 60, op := Go.Op.binOp Go.BinOp.shl 36 (Go.Operand.const (Go.Value.int Go.IntKind.u64 1)) (Go.Operand.tmp 59) 3, type := 36, pos := "arena.go:46", after := #[{ on := 9, ground := Go.Ground.data }], guard := none } : Oper)) (v := ?vp10) rfl (by kernel_rfl) (by kernel_rfl) (by kernel_rfl) (fun _ _ _ h => h) (Or.inl ⟨by rfl, ?hyp10⟩) (by assumption) ?restp10
      case hyp10 => (intro w hSw; (try dsimp only at hSw); go_simp; (try with_reducible rfl))
      (try simp only [Act.put, List.setIfInBounds_toArray, List.set_cons_zero, List.set_cons_succ])
      refine wpAnyH_ready (rs := [7]) (by kernel_rfl) (by simp) ?_
      refine AllReadyH.cons (o := ({ dst := some 57, op := Go.Op.load 36 (Go.Operand.tmp 56), type := 36, pos := "arena.go:46", after := #[{ on := 6, ground := Go.Ground.data }], guard := none } : Oper)) rfl (fun K hK => ?_) AllReadyH.nil
      go_simp
      skip
      (try go_wp2_with fail)
      refine hK.out _ _ (by exact d1) (fun hHeld => ?_)
      clear hK K
      (try simp only [Act.put, List.setIfInBounds_toArray, List.set_cons_zero, List.set_cons_succ])
      refine wpAnyH_take (i := 11) (oi := ({ dst := some 61, op := Go.Op.binOp Go.BinOp.or 36 (Go.Operand.tmp 57) (Go.Operand.tmp 60) 36, type := 36, pos := "arena.go:46", after := #[{ on := 7, ground := Go.Ground.data }, { on := 10, ground := Go.Ground.data }], guard := none } : Oper)) (v := ?vp11) rfl (by kernel_rfl) (by kernel_rfl) (by kernel_rfl) (fun _ _ _ h => h) (Or.inl ⟨by rfl, ?hyp11⟩) (by assumption) ?restp11
      case hyp11 => (intro w hSw; (try dsimp only at hSw); go_simp; (try with_reducible rfl))
      (try simp only [Act.put, List.setIfInBounds_toArray, List.set_cons_zero, List.set_cons_succ])
      refine wpAnyH_take (i := 12) (oi := ({ dst := some 62, op := Go.Op.indexAddr 34 (Go.Operand.tmp 53) (Go.Operand.tmp 55), type := 0, pos := "arena.go:46", after := #[{ on := 3, ground := Go.Ground.data }, { on := 5, ground := Go.Ground.data }, { on := 0, ground := Go.Ground.phase }, { on := 1, ground := Go.Ground.phase }, { on := 2, ground := Go.Ground.phase }, { on := 3, ground := Go.Ground.phase }, { on := 4, ground := Go.Ground.phase }, { on := 5, ground := Go.Ground.phase }, { on := 6, ground := Go.Ground.phase }, { on := 7, ground := Go.Ground.phase }, { on := 8, ground := Go.Ground.phase }, { on := 9, ground := Go.Ground.phase }, { on := 10, ground := Go.Ground.phase }, { on := 11, ground := Go.Ground.phase }], guard := none } : Oper)) (v := ?vp12) rfl (by kernel_rfl) (by kernel_rfl) (by kernel_rfl) (fun _ _ _ h => h) (Or.inl ⟨by rfl, ?hyp12⟩) (by assumption) ?restp12
      case hyp12 => (intro w hSw; (try dsimp only at hSw); go_simp; (try with_reducible rfl))
      (try simp only [Act.put, List.setIfInBounds_toArray, List.set_cons_zero, List.set_cons_succ])
      refine wpAnyH_ready (rs := [13]) (by kernel_rfl) (by simp) ?_
      refine AllReadyH.cons (o := ({ dst := none, op := Go.Op.store 36 (Go.Operand.tmp 62) (Go.Operand.tmp 61), type := 0, pos := "arena.go:46", after := #[{ on := 12, ground := Go.Ground.data }, { on := 11, ground := Go.Ground.data }, { on := 0, ground := Go.Ground.phase }, { on := 1, ground := Go.Ground.phase }, { on := 2, ground := Go.Ground.phase }, { on := 3, ground := Go.Ground.phase }, { on := 4, ground := Go.Ground.phase }, { on := 5, ground := Go.Ground.phase }, { on := 6, ground := Go.Ground.phase }, { on := 7, ground := Go.Ground.phase }, { on := 8, ground := Go.Ground.phase }, { on := 9, ground := Go.Ground.phase }, { on := 10, ground := Go.Ground.phase }, { on := 11, ground := Go.Ground.phase }], guard := none } : Oper)) rfl (fun K hK => ?_) AllReadyH.nil
      go_simp
      skip
      (try go_wp2_with fail)
      refine hK.out _ _ (by exact d2 _) (fun hHeld => ?_)
      clear hK K
      (try simp only [Act.put, List.setIfInBounds_toArray, List.set_cons_zero, List.set_cons_succ])
      refine wpAnyH_done (by kernel_rfl) ?_ _
      -- REGION6END
      have HV := or_bit x r hxl hr64
      rw [HV]
      go_wp2_with fail
      go_ret
      refine ⟨rfl, gw', gf', ⟨cw', cf', fs'.set j (x ||| 2 ^ r), ?_⟩, HI.out.nw, HI.out.nf, ?_⟩
      · have hu := HU.out
        have hj := HJ.out
        have hr := HR.out
        have hus := used_snoc l o
        have hol : o.fields.length = m := by rw [HZ.out, List.length_replicate]
        have hq : q = used (l ++ [o]) := by have := HQ.out; have := HN.out; omega
        have hb := HI.out.bits.put o x (by rw [← hu, ← hj]; exact HX.out) (by have := HZ2.out; have := HY.out; have := HC.out; omega)
        rw [← hu, ← hj, ← hr] at hb
        have hfb := HI.out.fb.set j (by rw [← HY.out]; exact hjy) (x ||| 2 ^ r)
        refine ⟨?_, ?_, hfb, hb, ?_, ?_, HA.out.sz1, ?_, HI.out.ne1, HI.out.ne2, HI.out.ne3⟩
        · rw [← hq, List.length_set]
          exact HI.out.hd.other HI.out.ne2 j _
        · exact HI.out.ws.other HI.out.ne3 j _
        · intro o' ho'
          rcases List.mem_append.1 ho' with h | h
          · exact HA.out.ok o' h
          · rw [List.mem_singleton.1 h]; exact HO.out
        · have := HF.out; omega
        · rw [List.length_set]; have := HI.out.flen; omega
      · exact (HI.out.upd.put (by rcases HI.out.nf with h | h; exact .inl (.inr (.inr h)); exact .inr h) j _).drew.drew
theorem new_ar (W : World) (n gw gf : Nat) (h : (gw = W.heap.size ∧ gf = W.heap.size + 1) ∨ (gw = W.heap.size + 1 ∧ gf = W.heap.size)) (h1 : 1 ≤ n) (h2 : n ≤ 1048576) :
    ArAt ((((W.alloc (.cells (madeCells #[.int .u64 0] 1) 36)).alloc (.cells (madeCells #[.int .u64 0] 1) 36)).alloc (.cells #[.int .i64 (n : Int), .slice (some ⟨gw, 0, none⟩) 1 1, .slice (some ⟨gf, 0, none⟩) 1 1] 112)).drew) (W.heap.size + 2) gw gf n [] := by
  have hm := words_made W 1 (by unfold maxLen; omega)
  have hm2 := words_made (W.alloc (.cells (madeCells #[.int .u64 0] 1) 36)) 1 (by unfold maxLen; omega)
  have hb2 : Below (W.alloc (.cells (madeCells #[.int .u64 0] 1) 36)).heap.size (W.alloc (.cells (madeCells #[.int .u64 0] 1) 36)) ((W.alloc (.cells (madeCells #[.int .u64 0] 1) 36)).alloc (.cells (madeCells #[.int .u64 0] 1) 36)) := below_alloc (Below.refl _ _) _
  have s1 : (W.alloc (.cells (madeCells #[.int .u64 0] 1) 36)).heap.size = W.heap.size + 1 := by simp
  rw [s1] at hm2
  have hm1 := hm.below hb2
  generalize hw2 : (W.alloc (.cells (madeCells #[.int .u64 0] 1) 36)).alloc (.cells (madeCells #[.int .u64 0] 1) 36) = w2 at *
  have s2 : w2.heap.size = W.heap.size + 2 := by rw [← hw2]; simp
  have hb3 : Below w2.heap.size w2 (w2.alloc (.cells #[.int .i64 (n : Int), .slice (some ⟨gw, 0, none⟩) 1 1, .slice (some ⟨gf, 0, none⟩) 1 1] 112)).drew := (below_alloc (Below.refl _ _) _).drew
  have hn := blk_new w2 (.cells #[.int .i64 (n : Int), .slice (some ⟨gw, 0, none⟩) 1 1, .slice (some ⟨gf, 0, none⟩) 1 1] 112)
  rw [s2] at hn
  have k1 := hm1.below hb3
  have k2 := hm2.below hb3
  refine ⟨1, 1, [0], ?_, ?_, ?_, Bits.start, by simp, by rw [used_nil]; exact h1, h2, by decide, ?_, ?_, ?_⟩
  · exact hn
  · rcases h with ⟨rfl, rfl⟩ | ⟨rfl, rfl⟩
    · exact k1
    · exact k2
  · rcases h with ⟨rfl, rfl⟩ | ⟨rfl, rfl⟩
    · exact k2
    · exact k1
  · rcases h with ⟨rfl, rfl⟩ | ⟨rfl, rfl⟩ <;> omega
  · rcases h with ⟨rfl, rfl⟩ | ⟨rfl, rfl⟩ <;> omega
  · rcases h with ⟨rfl, rfl⟩ | ⟨rfl, rfl⟩ <;> omega
set_option maxHeartbeats 1600000 in
theorem new.calls (W : World) (n : Nat) (h1 : 1 ≤ n) (h2 : n ≤ 1048576) :
    Calls Try.prog 22 #[.int .i64 (n : Int)] W fun e w' => ∃ g gw gf, e = .returned (.tuple #[.pointer (some ⟨g, 0, none⟩), .int .i64 0]) ∧ ArAt w' g gw gf n [] ∧ W.heap.size ≤ g ∧ W.heap.size ≤ gw ∧ W.heap.size ≤ gf ∧ Below W.heap.size W w' := by
  have hmk : ∀ u : World, (Instr.makeSlice 34 (.int .i64 1) (.int .i64 1)).run Try.prog u = .ok (.slice (some ⟨u.heap.size, 0, none⟩) 1 1) (u.alloc (.cells (madeCells #[.int .u64 0] 1) 36)) := fun u => make_u64 1 (by omega) u
  have c1 : decide ((n : Int) < 1) = false := decide_eq_false (by omega)
  have c2 : decide ((1048576 : Int) < (n : Int)) = false := decide_eq_false (by omega)
  go_enter Try.func22, Try.ntmps22
  go_wp2_with fail
  go_region
  all_goals (go_wp2_with fail)
  · go_ret2
    refine ⟨W.heap.size + 2, W.heap.size, W.heap.size + 1, ?_, new_ar W n _ _ (.inl ⟨rfl, rfl⟩) h1 h2, by omega, Nat.le_refl _, by omega, ?_⟩
    · simp
    · exact (below_alloc (below_alloc (below_alloc (Below.refl _ _) _) _) _).drew
  · go_ret2
    refine ⟨W.heap.size + 2, W.heap.size + 1, W.heap.size, ?_, new_ar W n _ _ (.inr ⟨rfl, rfl⟩) h1 h2, by omega, by omega, Nat.le_refl _, ?_⟩
    · simp
    · exact (below_alloc (below_alloc (below_alloc (Below.refl _ _) _) _) _).drew
set_option maxHeartbeats 1600000 in
theorem new.bad (W : World) (n : Int) (h : n < 1 ∨ 1048576 < n) :
    Calls Try.prog 22 #[.int .i64 n] W fun e w' => e = .returned (.tuple #[.pointer none, .int .i64 20]) ∧ Below W.heap.size W w' := by
  by_cases h1 : n < 1
  · have c1 : decide (n < 1) = true := decide_eq_true h1
    clear h
    go_enter Try.func22, Try.ntmps22
    go_wp2_with fail
    go_ret2
    exact ⟨rfl, Below.refl _ _⟩
  · have c1 : decide (n < 1) = false := decide_eq_false h1
    have c2 : decide ((1048576 : Int) < n) = true := decide_eq_true (by omega)
    clear h
    go_enter Try.func22, Try.ntmps22
    go_wp2_with fail
    go_ret2
    exact ⟨rfl, Below.refl _ _⟩
set_option maxHeartbeats 1600000 in
theorem set.bad {W : World} {g gw gf cw cf sz : Nat} {fs : List Nat} {l : List Ob} (hA : ArRaw W g gw gf cw cf sz fs l) {p e : Int} (h : Bad l p e) (i v : Int) :
    Calls Try.prog 13 #[.pointer (some ⟨g, 0, none⟩), .int .i64 p, .int .i64 i, .int .u64 v] W fun e' w' => e' = .returned (.int .i64 e) ∧ Below W.heap.size W w' := by
  have HB := Aside0.mk (fields.bad hA h)
  have he := h.ne
  clear hA h
  go_enter Try.func13, Try.ntmps13
  go_wp2_with fail
  refine HB.out.mono ?_
  rintro e' w2 ⟨rfl, hb⟩
  have H2 := Aside0.mk hb
  clear hb HB
  go_wp2_with fail
  go_ret
  exact ⟨rfl, H2.out⟩
set_option maxHeartbeats 1600000 in
theorem set.far {W : World} {g gw gf cw cf sz : Nat} {fs : List Nat} {l : List Ob} (hA : ArRaw W g gw gf cw cf sz fs l) {k : Nat} {o : Ob} (h : l[k]? = some o) (hg : o.gone = none) (i v : Int) (hi : i < 0 ∨ o.fields.length ≤ i) :
    Calls Try.prog 13 #[.pointer (some ⟨g, 0, none⟩), .int .i64 (place l k : Int), .int .i64 i, .int .u64 v] W fun e' w' => e' = .returned (.int .i64 24) ∧ Below W.heap.size W w' := by
  have HB := Aside0.mk (fields.yes hA h hg)
  obtain ⟨n, hn⟩ : ∃ n, n = o.fields.length := ⟨_, rfl⟩
  rw [← hn] at HB hi
  clear hA h hg hn
  generalize o.refs = r at *
  generalize place l k = p at *
  by_cases h0 : i < 0
  · have c1 : decide (i < 0) = true := decide_eq_true h0
    clear hi
    go_enter Try.func13, Try.ntmps13
    go_wp2_with fail
    refine HB.out.mono ?_
    rintro e' w2 ⟨⟨A, hAd, rfl⟩, hb⟩
    have H2 := Aside0.mk hb
    clear hb HB hAd
    go_wp2_with fail
    go_ret
    exact ⟨rfl, H2.out⟩
  · have c1 : decide (i < 0) = false := decide_eq_false h0
    have c2 : decide ((n : Int) ≤ i) = true := decide_eq_true (by omega)
    clear hi
    go_enter Try.func13, Try.ntmps13
    go_wp2_with fail
    refine HB.out.mono ?_
    rintro e' w2 ⟨⟨A, hAd, rfl⟩, hb⟩
    have H2 := Aside0.mk hb
    clear hb HB hAd
    go_wp2_with fail
    go_ret
    exact ⟨rfl, H2.out⟩
/-- The object with one field changed. -/
def Ob.put (o : Ob) (i v : Nat) : Ob := { o with fields := o.fields.set i v }
theorem Ob.put_len (o : Ob) (i v : Nat) : (Ob.put o i v).fields.length = o.fields.length := by simp [Ob.put]
theorem Ob.put_ok {o : Ob} (h : o.ok) (i v : Nat) (hv : v < 18446744073709551616) : (Ob.put o i v).ok := by
  refine ⟨h.k1, h.k2, h.r1, ?_, ?_, ?_, h.g1⟩
  · rw [Ob.put_len]; exact h.r2
  · show (o.fields.set i v).length - o.refs ≤ 1048576
    rw [List.length_set]; exact h.s1
  · intro x hx
    rcases List.mem_or_eq_of_mem_set hx with h1 | h1
    · exact h.f1 x h1
    · omega
/-- One field of an object is changed in memory. -/
theorem ArRaw_put {W : World} {g gw gf cw cf sz : Nat} {fs : List Nat} {l : List Ob} (hA : ArRaw W g gw gf cw cf sz fs l) {k : Nat} {o : Ob} (h : l[k]? = some o) (hg : o.gone = none) (i v : Nat) (hi : i < o.fields.length) (hv : v < 18446744073709551616) :
    ArRaw (W.setCell ⟨gw, place l k + 1 + i, none⟩ (.int .u64 (v : Int))) g gw gf cw cf sz fs (l.set k (Ob.put o i v)) := by
  have hu : used (l.set k (Ob.put o i v)) = used l := used_set h (Ob.put_len o i v)
  have hsp := used_split h
  refine ⟨?_, ?_, hA.fb.other (fun h => hA.ne3 h.symm) _ _, hA.bits.same hu (begins_set h (Ob.put_len o i v)), ?_, by rw [hu]; exact hA.fit, hA.sz1, by rw [hu]; exact hA.flen, hA.ne1, hA.ne2, hA.ne3⟩
  · rw [hu]; exact (hA.hdAt).other hA.ne1 _ _
  · have := hA.ws.set (place l k + 1 + i) (by show _ < used l; omega) v
    rw [← words_set h i hi v hg] at this
    exact this
  · intro o' ho'
    rcases List.mem_or_eq_of_mem_set ho' with h1 | h1
    · exact hA.ok o' h1
    · rw [h1]; exact Ob.put_ok (hA.ok o (List.mem_of_getElem? h)) i v hv
set_option maxHeartbeats 1600000 in
theorem set.yes {W : World} {g gw gf cw cf sz : Nat} {fs : List Nat} {l : List Ob} (hA : ArRaw W g gw gf cw cf sz fs l) {k : Nat} {o : Ob} (h : l[k]? = some o) (hg : o.gone = none) (i v : Nat) (hi : i < o.fields.length) (hv : v < 18446744073709551616) :
    Calls Try.prog 13 #[.pointer (some ⟨g, 0, none⟩), .int .i64 (place l k : Int), .int .i64 (i : Int), .int .u64 (v : Int)] W fun e' w' => e' = .returned (.int .i64 0) ∧ ArRaw w' g gw gf cw cf sz fs (l.set k (Ob.put o i v)) ∧ Upd (fun b => b = gw) W w' := by
  have HB := Aside0.mk (fields.yes hA h hg)
  obtain ⟨x, hx0⟩ : ∃ x, o.fields[i]? = some x := ⟨_, List.getElem?_eq_getElem hi⟩
  have HX := Aside0.mk ((words_field h i hi).trans hx0)
  have HP := Aside0.mk (fun (w2 : World) (h2 : ArRaw w2 g gw gf cw cf sz fs l) => ArRaw_put h2 h hg i v hi hv)
  have HA := Aside0.mk hA
  obtain ⟨n, hn⟩ : ∃ n, n = o.fields.length := ⟨_, rfl⟩
  rw [← hn] at HB hi
  have hi' : (i : Int) < n := by omega
  have c1 : decide ((i : Int) < 0) = false := decide_eq_false (by omega)
  have c2 : decide ((n : Int) ≤ (i : Int)) = false := decide_eq_false (by omega)
  clear hA h hg hn hx0
  generalize o.refs = r at *
  generalize l.set k (Ob.put o i v) = l2 at *
  generalize place l k = p at *
  go_enter Try.func13, Try.ntmps13
  go_wp2_with fail
  refine HB.out.mono ?_
  rintro e' w2 ⟨⟨A, hAd, rfl⟩, hb⟩
  obtain rfl := hAd (by omega)
  have H2 := Aside0.mk hb
  have HA2 := Aside0.mk (HA.out.upd (S := none_) (Upd.of_below hb) (fun h => h) (fun h => h) (fun h => h))
  have hc : w2.cell? ⟨gw, p + 1 + i, none⟩ = some (.int .u64 (x : Int)) := HA2.out.ws.get _ _ HX.out
  have hf := HA2.out.ws.frozen (p + 1 + i)
  clear hb HB
  go_wp2_with fail
  go_ret
  exact ⟨rfl, HP.out _ HA2.out, Upd.put (S := fun b => b = gw) (Upd.of_below H2.out) (.inl rfl) _ _⟩
end Go.Proofs.Ytgjcffjicbmkhaa.ArX
