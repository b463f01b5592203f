/- larderlaw9.spell and write: the machine's calls. -/
import Derived.Test.YtdflblegdfpdpaaDoorClassS
import Derived.Test.YtdflblegdfpdpaaDoorAppG
import Derived.Test.YtdflblegdfpdpaaDoorAskW
import Derived.Test.YtdflblegdfpdpaaDoorHeldW
import Derived.Deep.DeepCutAuto
import Derived.Deep.CutRange
import Derived.Deep.DeepAppendWide
import Derived.Laws.Tables
import Derived.Laws.Cells
import Derived.Laws.CopyOwn
namespace Go.Proofs.YtdflblegdfpdpaaDoor.WriteW
open Go Go.RowKit Go.Proofs.YtdflblegdfpdpaaDoorW.PrintWords Go.Proofs.YtdflblegdfpdpaaDoorW.PrintLast Go.Proofs.YtdflblegdfpdpaaDoorW.PrintMore Go.Proofs.YtdflblegdfpdpaaDoor.HeldW Go.Proofs.YtdflblegdfpdpaaDoor.ScoreW Go.Proofs.YtdflblegdfpdpaaDoor.AppG Go.Proofs.YtdflblegdfpdpaaDoor.ClassS Go.Proofs.YtdflblegdfpdpaaDoor.AskW
set_option linter.unusedVariables false
set_option maxRecDepth 100000

/-- A list of bytes is given back. -/
def Gives (w : World) (l : List Int) (e : Ending) (w' : World) : Prop := ∃ A c, e = .returned (.slice A l.length c) ∧ l.length ≤ c ∧ Kd.C (Kd.int .u8) w' A l.length l ∧ Below w.heap.size w w'

set_option maxHeartbeats 1600000 in
theorem spell.calls (b : Int) (plain : Bool) (w : World) : Calls Tryd.prog 29 #[.int .u8 b, .bool plain] w fun e w' => Gives w (spellL b plain) e w' := by
  have one : ∀ f, Kd.C (Kd.int .u8) (w.alloc (.cells #[.int .u8 b] 5 f)) (some ⟨w.heap.size, 0, none⟩) 1 [b] := fun f => got_const w _ rfl [b] f (by simp)
  have two : ∀ f, Kd.C (Kd.int .u8) (w.alloc (.cells #[.int .u8 92, .int .u8 b] 5 f)) (some ⟨w.heap.size, 0, none⟩) 2 [92, b] := fun f => got_const w _ rfl [92, b] f (by simp)
  have H1 := Aside0.mk one
  have H2 := Aside0.mk two
  clear one two
  cases plain with
  | false =>
    have e : spellL b false = [92, b] := by simp [spellL]
    rw [e]
    go_enter Tryd.func29, Tryd.ntmps29
    go_wp2
    go_ret
    exact ⟨_, _, rfl, by simp, H2.out _, below_alloc (Below.refl _ _) _⟩
  | true =>
    by_cases h1 : b = 92
    · subst h1
      have e : spellL 92 true = [92, 92] := by rfl
      rw [e]
      go_enter Tryd.func29, Tryd.ntmps29
      go_wp2
      go_ret
      exact ⟨_, _, rfl, by simp, H2.out _, below_alloc (Below.refl _ _) _⟩
    by_cases h2 : b = 93
    · subst h2
      have e : spellL 93 true = [92, 93] := by rfl
      rw [e]
      go_enter Tryd.func29, Tryd.ntmps29
      go_wp2
      go_ret
      exact ⟨_, _, rfl, by simp, H2.out _, below_alloc (Below.refl _ _) _⟩
    by_cases h3 : b = 45
    · subst h3
      have e : spellL 45 true = [92, 45] := by rfl
      rw [e]
      go_enter Tryd.func29, Tryd.ntmps29
      go_wp2
      go_ret
      exact ⟨_, _, rfl, by simp, H2.out _, below_alloc (Below.refl _ _) _⟩
    by_cases h4 : b = 94
    · subst h4
      have e : spellL 94 true = [92, 94] := by rfl
      rw [e]
      go_enter Tryd.func29, Tryd.ntmps29
      go_wp2
      go_ret
      exact ⟨_, _, rfl, by simp, H2.out _, below_alloc (Below.refl _ _) _⟩
    have e : spellL b true = [b] := by simp [spellL, h1, h2, h3, h4]
    rw [e]
    have b1 : (b == 92) = false := by simpa using h1
    have b2 : (b == 93) = false := by simpa using h2
    have b3 : (b == 45) = false := by simpa using h3
    have b4 : (b == 94) = false := by simpa using h4
    have n1 : (b != 92) = true := by simpa using h1
    have n2 : (b != 93) = true := by simpa using h2
    have n3 : (b != 45) = true := by simpa using h3
    have n4 : (b != 94) = true := by simpa using h4
    go_enter Tryd.func29, Tryd.ntmps29
    go_wp2
    go_ret
    exact ⟨_, _, rfl, by simp, H1.out _, below_alloc (Below.refl _ _) _⟩

abbrev MemT := Int × Int × Bool × Bool
/-- Lo, Hi, Range, Plain -/
def kMem : Kd MemT := Kd.pair (Kd.int .u8) (Kd.pair (Kd.int .u8) (Kd.pair Kd.bool Kd.bool))
def toM (y : MemT) : Mem := ⟨y.1, y.2.1, y.2.2.1, y.2.2.2⟩
def toP (d b : Int) (neg : Bool) (l : List MemT) : Pie := ⟨d, b, neg, l.map toM⟩
theorem mem_cells {w : World} {ad : Addr} {n : Nat} {l : List MemT} (h : kMem.C w (some ad) n l) (i : Nat) (y : MemT) (hy : l[i]? = some y) :
    ∀ j u, ([.int .u8 y.1, .int .u8 y.2.1, .bool y.2.2.1, .bool y.2.2.2] : List Value)[j]? = some u → w.cell? ((ad.add (i * 4)).add j) = some u := by
  obtain ⟨hi, hp'⟩ := List.getElem?_eq_some_iff.1 hy
  have hn : l.length = n := h.1
  obtain ⟨ad', c, hh, hc, hK, hcells⟩ := Kd.C_get h y (i : Int) (by omega) (by omega)
  obtain rfl : ad = ad' := Option.some.inj hh
  rw [Int.toNat_natCast] at hK hcells
  have he : l.getD i y = y := by rw [List.getD_eq_getElem?_getD, hy]; rfl
  rw [he] at hK
  obtain ⟨b0, b1, rfl, h0, c0, c1, rfl, h1, d0, d1, rfl, h2, h3⟩ := hK
  have a0 : b0 = [_] := h0
  have a1 : c0 = [_] := h1
  have a2 : d0 = [_] := h2
  have a3 : d1 = [_] := h3
  subst a0 a1 a2 a3
  intro j u hu
  rw [HeldW.add_add]
  exact hcells j u hu

/-- The call's own row, or a short list without room. -/
def OwnB (W : World) (base : Nat) (v : Value) (l : List Int) : Prop :=
  W.ownsRow base 5 1 v l.length (encs (Value.int .u8) l) ∨ ∃ ad, v = .slice (some ad) l.length l.length ∧ Kd.C (Kd.int .u8) W (some ad) l.length l ∧ l.length ≤ 1000
theorem OwnB.reads {W : World} {base : Nat} {v : Value} {l : List Int} (h : OwnB W base v l) : ∃ A c, v = .slice A l.length c ∧ l.length ≤ c ∧ Kd.C (Kd.int .u8) W A l.length l := by
  rcases h with h | ⟨ad, rfl, hC, _⟩
  · exact Kd.R_reads (Kd.R_of_own (h1 := fun _ => rfl) h (ok := fun _ => True) (fun _ _ => trivial))
  · exact ⟨_, _, rfl, Nat.le_refl _, hC⟩
theorem OwnB.below {W W' : World} {base : Nat} {v : Value} {l : List Int} (h : OwnB W base v l) (hb : Below W.heap.size W W') : OwnB W' base v l := by
  rcases h with h | ⟨ad, rfl, hC, hl⟩
  · exact .inl (Kd.own_of_R (Kd.R_below (Kd.R_of_own (h1 := fun _ => rfl) h (ok := fun _ => True) (fun _ _ => trivial)) hb))
  · exact .inr ⟨ad, rfl, Kd.C_below hC hb, hl⟩
/-- The blocks of members stay. -/
def MKept (W W' : World) : Prop := ∀ (ga : Nat) (cs : Array Value) (f : Nat × Nat), W.heap[ga]? = some (.cells cs 72 f) → W'.heap[ga]? = some (.cells cs 72 f)
theorem wpList_append_big {ops : Array Oper} {rest : List Oper} {o : Oper} {a : Act} {w0 W : World} {Q : Exit → Act → World → Prop} (base : Nat)
    (hg : o.guard = none) (s x : Operand) (hop : o.op = Op.call { callee := Callee.builtin Builtin.append, args := #[s, x], argTypes := #[22, 22] })
    (v : Value) (l1 : List Int) (hs : a.eval s = v) (HO : OwnB W base v l1)
    (Ax : Option Addr) (c : Nat) (l2 : List Int) (hx : a.eval x = .slice Ax l2.length c) (hC2 : Kd.C (Kd.int .u8) W Ax l2.length l2) (HB : Below base w0 W) (hbase : base ≤ W.heap.size) (h0 : 0 < l2.length) (hb : l1.length + l2.length ≤ 200000000000000 ∧ l2.length ≤ 100000000000000) (l3 : List Int) (h3 : l3 = l1 ++ l2)
    (hK : ∀ v' w', OwnB w' base v' l3 → Below base w0 w' → MKept W w' → wpList Tryd.prog ops Q rest (a.put o.dst v') w') :
    wpList Tryd.prog ops Q (o :: rest) a W := by
  subst h3
  obtain ⟨ad, hAx, _⟩ := Kd.at_int hC2 (0 : Int) (by omega) (by omega)
  subst hAx
  obtain ⟨i, hi, z0, z1, z2⟩ := AppF.infoB
  have hcs := AppF.cells_of hC2
  have h1 : ∀ u ∈ l2.map (Value.int .u8), u.oneCell' = true := fun u hu => by obtain ⟨y, _, rfl⟩ := List.mem_map.1 hu; rfl
  have henc : encs (Value.int .u8) (l1 ++ l2) = encs (Value.int .u8) l1 ++ l2.map (Value.int .u8) := by simp [encs]
  rcases HO with HO | ⟨As, rfl, hC1, hsm⟩
  · refine wpList_append_own_wide W hg s x 22 hop base 5 i (.int .u8 0) 1 1 Tryd.underlying22 hi z0 z1 z2 rfl (by decide) v l1.length (encs (Value.int .u8) l1) hs HO ad l2.length c (l2.map (Value.int .u8)) hx (by simp) hcs h1 (by unfold maxLen; omega) (by omega) hbase ?_
    intro v' w' ho hgr _
    refine hK v' w' (.inl ?_) (HB.grown hgr hbase (fun k hk => own_base HO k hk)) ?_
    · rw [List.length_append, henc]; exact ho
    · intro ga cs f hga
      have hlt : ga < W.heap.size := by
        rcases Nat.lt_or_ge ga W.heap.size with h | h
        · exact h
        · rw [Array.getElem?_eq_none h] at hga; cases hga
      rw [hgr.block ga hlt ?_]
      · exact hga
      · intro h
        obtain ⟨cells, hc⟩ := own_typed HO ga h.symm
        rw [hc] at hga
        cases hga
  · refine wpList_append_grows W hg s x 22 hop 5 i (.int .u8 0) 1 1 Tryd.underlying22 hi z0 z1 z2 rfl (by decide) (some As) l1.length l1.length (l1.map (Value.int .u8)) hs (fun h => by cases h) (by simp) (fun b hb' => by obtain rfl := Option.some.inj hb'; exact AppF.cells_of hC1)
      ad l2.length c (l2.map (Value.int .u8)) hx (by simp) hcs h1 (by omega) (by unfold maxLen; omega) (by omega) ?_
    intro v' w' ho hgr
    have hB : Below W.heap.size W w' := (Below.refl _ W).grown hgr (Nat.le_refl _) (by intro k hk; simp at hk)
    refine hK v' w' (.inl ?_) (HB.trans ⟨hB.os, hB.tape, hB.output, hB.size, fun k hk => hB.block k (Nat.lt_of_lt_of_le hk hbase)⟩) ?_
    · rw [List.length_append, henc]
      exact own_weaken (ho) hbase
    · intro ga cs f hga
      have hlt : ga < W.heap.size := by
        rcases Nat.lt_or_ge ga W.heap.size with h | h
        · exact h
        · rw [Array.getElem?_eq_none h] at hga; cases hga
      rw [hB.block ga hlt]
      exact hga
theorem spell_len (b : Int) (pl : Bool) : 1 ≤ (spellL b pl).length ∧ (spellL b pl).length ≤ 2 := by
  unfold spellL
  split <;> simp
theorem mem_len (m : Mem) : (memL m).length ≤ 5 := by
  have h1 := spell_len m.lo m.plain
  have h2 := spell_len m.hi m.plain
  unfold memL
  split <;> simp <;> omega
theorem mems_len (l : List MemT) (i : Nat) (hi : i ≤ l.length) : (memsL ((l.take i).map toM)).length ≤ 5 * i := by
  induction i with
  | zero => simp [memsL]
  | succ i ih =>
    have h := ih (by omega)
    rw [List.take_add_one, List.getElem?_eq_getElem (by omega), Option.toList_some, List.map_append]
    have h2 := mem_len (toM (l[i]'(by omega)))
    simp [memsL] at h ⊢
    omega

set_option maxHeartbeats 3200000 in
theorem write.calls (d b : Int) (neg : Bool) (A : Option Addr) (c : Nat) (l : List MemT) (w : World) (hC : kMem.C w A l.length l) (hlen : l.length ≤ 35184372087808) :
    Calls Tryd.prog 16 #[.agg #[.int .i64 d, .int .u8 b, .bool neg, .slice A l.length c]] w fun e w' => Gives w (writeL (toP d b neg l)) e w' := by
  have HC := Aside0.mk hC
  have HB := Aside0.mk (Below.refl w.heap.size w)
  clear hC
  by_cases h0 : d = 0
  · subst h0
    have e : writeL (toP 0 b neg l) = [42] := by rfl
    rw [e]
    clear e
    go_enter Tryd.func16, Tryd.ntmps16
    go_wp2_with (first
      | ((with_reducible refine gate_dst (N := 1) rfl ?_); refine box_event ?hg (N := 1) ?hd (cs := #[.int .i64 0, .int .u8 b, .bool neg, .slice A l.length c]) (t := 35) ?hr ?_; (case hd => rfl); (case hg => rfl); (case hr => first | (go_simp; done) | (go_simp; rfl)); intro gb hgb w5 hbox hb; have n0_ := Aside0.mk (below_step HB.out hb); have BK := Aside0.mk hbox; have z0 : w5.cell? ⟨gb, 0, none⟩ = some (.int .i64 0) := (blk_cell BK.out 0).trans rfl; have z1 : w5.cell? ⟨gb, 1, none⟩ = some (.int .u8 b) := (blk_cell BK.out 1).trans rfl; have z2 : w5.cell? ⟨gb, 2, none⟩ = some (.bool neg) := (blk_cell BK.out 2).trans rfl; have z3 : w5.cell? ⟨gb, 3, none⟩ = some (.slice A l.length c) := (blk_cell BK.out 3).trans rfl; clear HB; have HB := n0_; clear n0_ hb hbox hgb; have hc1 := conv_at (w := w5) w5.heap.size rfl #[.int .u8 42] 1 1))
    go_ret
    exact ⟨_, _, rfl, by simp, got_const _ _ rfl [42] _ (by simp), below_alloc HB.out _⟩
  by_cases h1 : d = 1
  · subst h1
    have e : writeL (toP 1 b neg l) = [63] := by rfl
    rw [e]
    clear e
    go_enter Tryd.func16, Tryd.ntmps16
    go_wp2_with (first
      | ((with_reducible refine gate_dst (N := 1) rfl ?_); refine box_event ?hg (N := 1) ?hd (cs := #[.int .i64 1, .int .u8 b, .bool neg, .slice A l.length c]) (t := 35) ?hr ?_; (case hd => rfl); (case hg => rfl); (case hr => first | (go_simp; done) | (go_simp; rfl)); intro gb hgb w5 hbox hb; have n0_ := Aside0.mk (below_step HB.out hb); have BK := Aside0.mk hbox; have z0 : w5.cell? ⟨gb, 0, none⟩ = some (.int .i64 1) := (blk_cell BK.out 0).trans rfl; have z1 : w5.cell? ⟨gb, 1, none⟩ = some (.int .u8 b) := (blk_cell BK.out 1).trans rfl; have z2 : w5.cell? ⟨gb, 2, none⟩ = some (.bool neg) := (blk_cell BK.out 2).trans rfl; have z3 : w5.cell? ⟨gb, 3, none⟩ = some (.slice A l.length c) := (blk_cell BK.out 3).trans rfl; clear HB; have HB := n0_; clear n0_ hb hbox hgb; have hc1 := conv_at (w := w5) w5.heap.size rfl #[.int .u8 63] 1 1))
    go_ret
    exact ⟨_, _, rfl, by simp, got_const _ _ rfl [63] _ (by simp), below_alloc HB.out _⟩
  by_cases h2 : d = 2
  · subst h2
    have e : writeL (toP 2 b neg l) = [92, b] := by rfl
    rw [e]
    clear e
    go_enter Tryd.func16, Tryd.ntmps16
    go_wp2_with (first
      | ((with_reducible refine gate_dst (N := 1) rfl ?_); refine box_event ?hg (N := 1) ?hd (cs := #[.int .i64 2, .int .u8 b, .bool neg, .slice A l.length c]) (t := 35) ?hr ?_; (case hd => rfl); (case hg => rfl); (case hr => first | (go_simp; done) | (go_simp; rfl)); intro gb hgb w5 hbox hb; have n0_ := Aside0.mk (below_step HB.out hb); have BK := Aside0.mk hbox; have z0 : w5.cell? ⟨gb, 0, none⟩ = some (.int .i64 2) := (blk_cell BK.out 0).trans rfl; have z1 : w5.cell? ⟨gb, 1, none⟩ = some (.int .u8 b) := (blk_cell BK.out 1).trans rfl; have z2 : w5.cell? ⟨gb, 2, none⟩ = some (.bool neg) := (blk_cell BK.out 2).trans rfl; have z3 : w5.cell? ⟨gb, 3, none⟩ = some (.slice A l.length c) := (blk_cell BK.out 3).trans rfl; clear HB; have HB := n0_; clear n0_ hb hbox hgb; skip))
    go_ret
    exact ⟨_, _, rfl, by simp, got_const _ _ rfl [92, b] _ (by simp), below_alloc HB.out _⟩
  have d0 : (d == 0) = false := by simpa using h0
  have d1 : (d == 1) = false := by simpa using h1
  have d2 : (d == 2) = false := by simpa using h2
  have HE := Aside0.mk (show writeL (toP d b neg l) = ([91] ++ (if neg then [94] else [])) ++ memsL (l.map toM) ++ [93] by unfold writeL; show (if d = 0 then [42] else if d = 1 then [63] else if d = 2 then [92, b] else ([91] ++ (if neg then [94] else [])) ++ memsL (l.map toM) ++ [93]) = _; rw [if_neg h0, if_neg h1, if_neg h2])
  clear h0 h1 h2
  go_enter Tryd.func16, Tryd.ntmps16
  go_upto_region 9 with (first
    | ((with_reducible refine gate_dst (N := 1) rfl ?_); refine box_event ?hg (N := 1) ?hd (cs := #[.int .i64 d, .int .u8 b, .bool neg, .slice A l.length c]) (t := 35) ?hr ?_; (case hd => rfl); (case hg => rfl); (case hr => first | (go_simp; done) | (go_simp; rfl)); intro gb hgb w5 hbox hb; have n0_ := Aside0.mk (below_step HB.out hb); have BK := Aside0.mk hbox; have z0 : w5.cell? ⟨gb, 0, none⟩ = some (.int .i64 d) := (blk_cell BK.out 0).trans rfl; have z1 : w5.cell? ⟨gb, 1, none⟩ = some (.int .u8 b) := (blk_cell BK.out 1).trans rfl; have z2 : w5.cell? ⟨gb, 2, none⟩ = some (.bool neg) := (blk_cell BK.out 2).trans rfl; have z3 : w5.cell? ⟨gb, 3, none⟩ = some (.slice A l.length c) := (blk_cell BK.out 3).trans rfl; clear HB; have HB := n0_; clear n0_ hb hbox hgb; have hc1 := conv_at (w := w5) w5.heap.size rfl #[.int .u8 91] 1 1))
  clear hc1
  have HB1 : Aside0 (Below w5.heap.size w5 (w5.alloc (.cells #[.int .u8 91] 5 (1, 2)))) := ⟨below_alloc (Below.refl _ _) _⟩
  have HO1 : Aside0 (OwnB (w5.alloc (.cells #[.int .u8 91] 5 (1, 2))) w5.heap.size (.slice (some ⟨w5.heap.size, 0, none⟩) 1 1) [91]) := ⟨.inr ⟨_, rfl, got_const _ _ rfl [91] _ (by decide), by decide⟩⟩
  obtain ⟨w6, hw6⟩ : ∃ w6, w6 = w5.alloc (.cells #[.int .u8 91] 5 (1, 2)) := ⟨_, rfl⟩
  rw [← hw6] at HB1 HO1 ⊢
  clear hw6
  have z2' := pw_cell_below HB1.out z2
  go_upto_if 24 with fail
  go_cut [3] (fun v3 wc => Aside0 (OwnB wc w5.heap.size v3 ([91] ++ if neg then [94] else []) ∧ Below w5.heap.size w5 wc))
  case first =>
    cases neg with
    | false =>
      go_wp2_with fail
      go_meet
      exact ⟨HO1.out, HB1.out⟩
    | true =>
      go_wp2_with (first
        | ((with_reducible refine gate_builtin (b := .append) (xs := #[.tmp 25, .tmp 26]) rfl ?_); at_builtin; refine wpList_append_big (w0 := w5) w5.heap.size rfl (.tmp 25) (.tmp 26) rfl _ [91] rfl (HO1.out.below (below_alloc (Below.refl _ _) _)) _ 1 [94] rfl (got_const w6 _ rfl [94] _ (by decide)) (PB.below_next HB1.out (below_alloc (Below.refl _ _) _)) (PB.below_next HB1.out (below_alloc (Below.refl _ _) _)).size (by decide) ⟨by decide, by decide⟩ _ rfl ?_; intro v7 w7 ho hb hk; have HO2 := Aside0.mk ho; have HB2 := Aside0.mk hb; clear ho hb hk))
      go_meet
      exact ⟨HO2.out, HB2.out⟩
  case rest =>
    obtain ⟨L0, hL0⟩ : ∃ L0 : List Int, L0 = ([91] ++ if neg = true then [94] else []) := ⟨_, rfl⟩
    have HE2 : Aside0 (writeL (toP d b neg l) = L0 ++ memsL (l.map toM) ++ [93]) := ⟨by rw [HE.out, hL0]⟩
    have HL0 : Aside0 (L0.length ≤ 2) := ⟨by rw [hL0]; cases neg <;> decide⟩
    rw [← hL0] at hcut
    clear hL0 HE HO1 HB1 z2'
    go_wp2_with fail
    go_loopw [3, 4] (fun v3 v4 wr => ∃ i : Nat, v4 = .int .i64 i ∧ i ≤ l.length ∧ Aside0 (OwnB wr w5.heap.size v3 (L0 ++ memsL ((l.take i).map toM)) ∧ Below w5.heap.size w5 wr)) (fun v3 v4 wr => l.length - (intOf v4).toNat)
    case atStart => exact ⟨0, rfl, by omega, ⟨by simpa [memsL] using hcut.out.1, hcut.out.2⟩⟩
    case round =>
      obtain ⟨i, rfl, hi2, HI⟩ := hrel
      have z3' := pw_cell_below HI.out.2 z3
      clear z0 z1 z2 z3
      by_cases hlt : i < l.length
      · have c1 : decide ((i : Int) < l.length) = true := decide_eq_true (by omega)
        have c1' : decide (i < l.length) = true := decide_eq_true hlt
        have HCr := Aside0.mk (Kd.C_below HC.out (PB.below_next HB.out HI.out.2))
        obtain ⟨y, hy⟩ : ∃ y, l[i]? = some y := ⟨_, List.getElem?_eq_getElem hlt⟩
        obtain ⟨ad, hAd⟩ : ∃ ad, A = some ad := by
          obtain ⟨ad, _, hh, _⟩ := Kd.C_get HCr.out y (i : Int) (by omega) (by omega)
          exact ⟨ad, hh⟩
        subst hAd
        have HK := Aside0.mk (mem_cells HCr.out i y hy)
        have HTK : Aside0 (memsL ((l.take (i + 1)).map toM) = memsL ((l.take i).map toM) ++ memL (toM y)) := ⟨by
          rw [List.take_add_one, hy, Option.toList_some, List.map_append]
          simp [memsL]⟩
        have HLN : Aside0 ((memsL ((l.take i).map toM)).length ≤ 5 * i) := ⟨mems_len l i hi2⟩
        obtain ⟨lo, hiB, rg, pl⟩ := y
        have HTY : Aside0 (memL (toM (lo, hiB, rg, pl)) = spellL lo pl ++ (if rg then 45 :: spellL hiB pl else [])) := ⟨rfl⟩
        have HSZ := Aside0.mk (show (Tryd.prog.info? 72).map (·.size) = some 4 by kernel_rfl)
        have HONE := Aside0.mk (show (#[.int .u8 lo, .int .u8 hiB, .bool rg, .bool pl] : Array Value).all (·.oneCell') = true by
          rw [Array.all_eq_true_iff_forall_mem]
          intro v hv
          have hv : v ∈ ([.int .u8 lo, .int .u8 hiB, .bool rg, .bool pl] : List Value) := by simpa using hv
          simp only [List.mem_cons, List.not_mem_nil, or_false] at hv
          rcases hv with rfl | rfl | rfl | rfl <;> rfl)
        have HSZ2 := Aside0.mk (show (Tryd.prog.info? 72).map (·.size) = some (#[.int .u8 lo, .int .u8 hiB, .bool rg, .bool pl] : Array Value).size from HSZ.out)
        clear hy
        go_upto_region 15 with (first
          | ((with_reducible refine gate_dst (N := 39) rfl ?_); refine wpList_load_at rfl 72 (.tmp 38) rfl (ad.add (i * 4)) rfl [.int .u8 lo, .int .u8 hiB, .bool rg, .bool pl] _ HK.out Tryd.underlying72 rfl HSZ.out ?_)
          | ((with_reducible refine gate_dst (N := 5) rfl ?_); refine box_event ?hg (N := 5) ?hd (cs := #[.int .u8 0, .int .u8 0, .bool false, .bool false]) (t := 72) ?hr ?_; (case hd => rfl); (case hg => rfl); (case hr => first | (go_simp; done) | (go_simp; rfl)); intro ga hga w7 hbox hb; have BA := Aside0.mk hbox; have HB7 := Aside0.mk hb; have GA := Aside0.mk hga; clear hbox hb hga)
          | ((with_reducible refine gate_store (p := 5) rfl ?_); refine wpList_store_row rfl 72 (.tmp 5) (.tmp 39) rfl ga #[.int .u8 lo, .int .u8 hiB, .bool rg, .bool pl] rfl rfl 72 #[.int .u8 0, .int .u8 0, .bool false, .bool false] BA.out HSZ2.out rfl HONE.out ?_; obtain ⟨w8, hw8⟩ : ∃ w8, w8 = w7.setRow ga #[.int .u8 lo, .int .u8 hiB, .bool rg, .bool pl] := ⟨_, rfl⟩; rw [← hw8]; have BC := Aside0.mk (show w8.heap[ga]? = some (.cells #[.int .u8 lo, .int .u8 hiB, .bool rg, .bool pl] 72 (0, 0)) by rw [hw8]; exact setRow_heap _ _ _ _ _ _ BA.out); have HB8 := Aside0.mk (show Below wr.heap.size wr w8 by rw [hw8]; exact below_setRow HB7.out (by rw [GA.out]; exact Nat.le_refl _) _); clear hw8))
        have x0 : w8.cell? ⟨ga, 0, none⟩ = some (.int .u8 lo) := (blk_cell BC.out 0).trans rfl
        have x3 : w8.cell? ⟨ga, 3, none⟩ = some (.bool pl) := (blk_cell BC.out 3).trans rfl
        have HO8 : Aside0 (OwnB w8 w5.heap.size u3 (L0 ++ memsL ((l.take i).map toM))) := ⟨HI.out.1.below HB8.out⟩
        have HW8 : Aside0 (Below w5.heap.size w5 w8) := ⟨PB.below_next HI.out.2 HB8.out⟩
        clear HB7 GA BA HSZ HSZ2 HONE HK z3'
        go_upto_region 16 with (first
          | (go_at_call 29; refine (spell.calls lo pl _).mono ?_; rintro e w9 ⟨As, cs, rfl, hcs, hCs, hb⟩; have HCS := Aside0.mk hCs; have HO9 := Aside0.mk (HO8.out.below hb); have HW9 := Aside0.mk (PB.below_next HW8.out hb); have BC9 := Aside0.mk (blk_below BC.out hb); clear hCs hb hcs)
          | ((with_reducible refine gate_builtin (b := .append) (xs := #[.tmp 40, .tmp 45]) rfl ?_); at_builtin; refine wpList_append_big (w0 := w5) w5.heap.size rfl (.tmp 40) (.tmp 45) rfl _ _ rfl HO9.out As cs (spellL lo pl) rfl HCS.out HW9.out HW9.out.size (spell_len lo pl).1 (by have := (spell_len lo pl).2; have := HL0.out; have := HLN.out; rw [List.length_append]; exact ⟨by omega, by omega⟩) _ rfl ?_; intro v10 w10 ho hb hk; have HO10 := Aside0.mk ho; have HW10 := Aside0.mk hb; have BC10 := Aside0.mk (hk _ _ _ BC9.out); clear ho hb hk))
        have y1 : w10.cell? ⟨ga, 1, none⟩ = some (.int .u8 hiB) := (blk_cell BC10.out 1).trans rfl
        have y2 : w10.cell? ⟨ga, 2, none⟩ = some (.bool rg) := (blk_cell BC10.out 2).trans rfl
        have y3 : w10.cell? ⟨ga, 3, none⟩ = some (.bool pl) := (blk_cell BC10.out 3).trans rfl
        clear HO9 HW9 BC9 HO8 HW8 BC x0 x3 HB8
        cases rg with
        | false =>
          have HR : Aside0 (OwnB w10 w5.heap.size v10 (L0 ++ memsL ((l.take (i + 1)).map toM)) ∧ Below w5.heap.size w5 w10) := ⟨by
            refine ⟨?_, HW10.out⟩
            have := HO10.out
            rw [HTK.out, HTY.out]
            simpa [List.append_assoc] using this⟩
          clear HO10 HW10
          go_wp2_with fail
          go_roundw
          case rel => exact ⟨i + 1, by go_num, by omega, HR⟩
          case measure => simp [intOf]; omega
        | true =>
          go_wp2_with (first
            | ((with_reducible refine gate_builtin (b := .append) (xs := #[.tmp 49, .tmp 50]) rfl ?_); at_builtin; refine wpList_append_big (w0 := w5) w5.heap.size rfl (.tmp 49) (.tmp 50) rfl _ _ rfl (HO10.out.below (below_alloc (Below.refl _ _) _)) _ 1 [45] rfl (got_const w10 _ rfl [45] _ (by decide)) (PB.below_next HW10.out (below_alloc (Below.refl _ _) _)) (PB.below_next HW10.out (below_alloc (Below.refl _ _) _)).size (by decide) (by have := (spell_len lo pl).2; have := HL0.out; have := HLN.out; simp only [List.length_append, List.length_singleton]; exact ⟨by omega, by omega⟩) _ rfl ?_; intro v11 w11 ho hb hk; have HO11 := Aside0.mk ho; have HW11 := Aside0.mk hb; have BC11 := Aside0.mk (hk _ _ _ (blk_below BC10.out (below_alloc (Below.refl _ _) _))); clear ho hb hk y1 y2 y3; have y1 : w11.cell? ⟨ga, 1, none⟩ = some (.int .u8 hiB) := (blk_cell BC11.out 1).trans rfl; have y3 : w11.cell? ⟨ga, 3, none⟩ = some (.bool pl) := (blk_cell BC11.out 3).trans rfl)
            | (go_at_call 29; refine (spell.calls hiB pl _).mono ?_; rintro e w12 ⟨As2, cs2, rfl, hcs, hCs, hb⟩; have HCS2 := Aside0.mk hCs; have HO12 := Aside0.mk (HO11.out.below hb); have HW12 := Aside0.mk (PB.below_next HW11.out hb); clear hCs hb hcs)
            | ((with_reducible refine gate_builtin (b := .append) (xs := #[.tmp 52, .tmp 57]) rfl ?_); at_builtin; refine wpList_append_big (w0 := w5) w5.heap.size rfl (.tmp 52) (.tmp 57) rfl _ _ rfl HO12.out As2 cs2 (spellL hiB pl) rfl HCS2.out HW12.out HW12.out.size (spell_len hiB pl).1 (by have := (spell_len lo pl).2; have := (spell_len hiB pl).2; have := HL0.out; have := HLN.out; simp only [List.length_append, List.length_singleton]; exact ⟨by omega, by omega⟩) _ rfl ?_; intro v13 w13 ho hb hk; have HO13 := Aside0.mk ho; have HW13 := Aside0.mk hb; clear ho hb hk))
          have HR : Aside0 (OwnB w13 w5.heap.size v13 (L0 ++ memsL ((l.take (i + 1)).map toM)) ∧ Below w5.heap.size w5 w13) := ⟨by
            refine ⟨?_, HW13.out⟩
            have := HO13.out
            rw [HTK.out, HTY.out]
            simpa [List.append_assoc] using this⟩
          go_roundw
          case rel => exact ⟨i + 1, by go_num, by omega, HR⟩
          case measure => simp [intOf]; omega
      · obtain rfl : i = l.length := by omega
        have c1 : decide ((l.length : Int) < l.length) = false := decide_eq_false (by omega)
        have HF : Aside0 (OwnB wr w5.heap.size u3 (L0 ++ memsL (l.map toM))) := ⟨by have := HI.out.1; rw [List.take_length] at this; exact this⟩
        have HFW : Aside0 (Below w5.heap.size w5 wr) := ⟨HI.out.2⟩
        have HLN : Aside0 ((memsL (l.map toM)).length ≤ 5 * l.length) := ⟨by have := mems_len l l.length (Nat.le_refl _); rw [List.take_length] at this; exact this⟩
        obtain ⟨LL, hLL⟩ : ∃ LL : List Int, LL = L0 ++ memsL (l.map toM) ++ [93] := ⟨_, rfl⟩
        have HLL := Aside0.mk hLL
        rw [← hLL] at HE2
        clear HI hLL
        go_wp2_with (first
          | ((with_reducible refine gate_builtin (b := .append) (xs := #[.tmp 59, .tmp 60]) rfl ?_); at_builtin; refine wpList_append_big (w0 := w5) w5.heap.size rfl (.tmp 59) (.tmp 60) rfl _ _ rfl (HF.out.below (below_alloc (Below.refl _ _) _)) _ 1 [93] rfl (got_const wr _ rfl [93] _ (by decide)) (PB.below_next HFW.out (below_alloc (Below.refl _ _) _)) (PB.below_next HFW.out (below_alloc (Below.refl _ _) _)).size (by decide) (by have := HL0.out; have := HLN.out; simp only [List.length_append, List.length_singleton]; exact ⟨by omega, by omega⟩) LL HLL.out ?_; intro v11 w11 ho hb hk; obtain ⟨Ae, ce, rfl, hce, hCe⟩ := ho.reads; have HCE := Aside0.mk hCe; have HWE := Aside0.mk hb; have HLE := Aside0.mk hce; clear ho hb hCe hce hk))
        go_ret
        exact ⟨Ae, ce, by rw [HE2.out]; rfl, by rw [HE2.out]; exact HLE.out, by rw [HE2.out]; exact HCE.out, PB.below_next HB.out HWE.out⟩
end Go.Proofs.YtdflblegdfpdpaaDoor.WriteW
