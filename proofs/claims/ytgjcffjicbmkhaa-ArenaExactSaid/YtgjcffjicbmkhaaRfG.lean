/- larderref2's Object, Get, Set, Moved, New, Clear walked. -/
import Derived.Test.YtgjcffjicbmkhaaRfF
import Derived.Test.YtgjcffjicbmkhaaLoadA
import Derived.Test.YtgjcffjicbmkhaaSumI
import Derived.Deep.DeepMust
namespace Go.Proofs.Ytgjcffjicbmkhaa.RfG
open Go Go.RowKit Go.Proofs.YtgjcffjicbmkhaaW.PrintWords Go.Proofs.YtgjcffjicbmkhaaW.PrintLast Go.Proofs.YtgjcffjicbmkhaaW.PrintMore Go.Proofs.Ytgjcffjicbmkhaa.RowU Go.Proofs.Ytgjcffjicbmkhaa.ArS Go.Proofs.Ytgjcffjicbmkhaa.ArM Go.Proofs.Ytgjcffjicbmkhaa.ArW Go.Proofs.Ytgjcffjicbmkhaa.ArX Go.Proofs.Ytgjcffjicbmkhaa.GenM Go.Proofs.Ytgjcffjicbmkhaa.GenN Go.Proofs.Ytgjcffjicbmkhaa.GenS Go.Proofs.Ytgjcffjicbmkhaa.BokA Go.Proofs.Ytgjcffjicbmkhaa.ArP Go.Proofs.Ytgjcffjicbmkhaa.RfM Go.Proofs.Ytgjcffjicbmkhaa.RfF Go.Proofs.Ytgjcffjicbmkhaa.LoadA
set_option linter.unusedVariables false
set_option maxRecDepth 100000

theorem badOf_val {l : List Ob} {p e : Int} (h : badOf l p = some e) : e = 23 ∨ e = 26 := by
  unfold badOf at h
  split at h
  · obtain rfl := Option.some.inj h; exact .inl rfl
  · split at h
    · obtain rfl := Option.some.inj h; exact .inr rfl
    · cases h
theorem whR_bad {l : List Ob} {p e : Int} (h : badOf l p = some e) : whR l p = (0, e) := by unfold whR; rw [h]
/-- The object that is asked. -/
theorem _root_.Go.Proofs.Ytgjcffjicbmkhaa.RfM.RA.at_ {k : Nat} {W : World} {lo : Own} {g sz : Nat} {vo : Value} {es : List RO} (h : RA k W lo g sz vo es) {p : Int} (hb : badOf (obs es) p = none) :
    ∃ i x, es[i]? = some x ∧ i < es.length ∧ obAt (obs es) p = some (i, x.o) ∧ x.o.gone = none ∧ whR (obs es) p = ((i : Int), 0) ∧ p = place (obs es) i := by
  obtain ⟨i, o, h1, h2, h3, h4⟩ := badOf_none hb
  have hi : i < es.length := by have := (List.getElem?_eq_some_iff.1 h2).1; rwa [obs_len] at this
  obtain ⟨x, hx⟩ : ∃ x, es[i]? = some x := ⟨_, List.getElem?_eq_getElem hi⟩
  obtain rfl : x.o = o := by have := obs_get hx; rw [h2] at this; exact (Option.some.inj this).symm
  exact ⟨i, x, hx, hi, h1, h3, by unfold whR fiR; rw [hb, h1], h4⟩
theorem _root_.Go.Proofs.Ytgjcffjicbmkhaa.RfM.RA.okx {k : Nat} {W : World} {lo : Own} {g sz : Nat} {vo : Value} {es : List RO} (h : RA k W lo g sz vo es) {i : Nat} {x : RO} (hx : es[i]? = some x) : x.o.ok ∧ x.o.fields.length = x.o.refs + x.o.raws ∧ x.o.refs ≤ 1048576 ∧ x.o.raws ≤ 1048576 := by
  have hok := h.ok x.o (List.mem_of_getElem? (obs_get hx))
  exact ⟨hok, Ob.len hok, hok.r1, hok.s1⟩
set_option maxHeartbeats 4000000 in
theorem object.calls {k : Nat} {W : World} {lo : Own} {g sz : Nat} {vo : Value} {es : List RO} (h : RA k W lo g sz vo es) (p : Int) :
    Calls Try.prog 53 #[.pointer (some ⟨g, 0, none⟩), .int .i64 p] W fun e w' => e = .returned (.tuple #[.int .i64 (objR (obs es) p).1, .int .i64 (objR (obs es) p).2.1, .int .i64 (objR (obs es) p).2.2.1, .int .i64 (objR (obs es) p).2.2.2]) ∧ Below W.heap.size W w' := by
  have H := Aside0.mk h
  obtain ⟨A, c, hv, hcc⟩ := GenS.own_slice h.tb
  subst hv
  clear h
  have HWC := Aside0.mk (whole.calls H.out p)
  go_enter Try.func53, Try.ntmps53
  go_wp2_with fail
  refine HWC.out.mono ?_
  rintro e w1 ⟨rfl, hb⟩
  have H1 := Aside0.mk (H.out.below hb)
  have HB := Aside0.mk hb
  clear hb HWC
  cases hbd : badOf (obs es) p with
  | some e =>
    rw [whR_bad hbd]
    have HR := Aside0.mk (show objR (obs es) p = (0, 0, 0, e) by unfold objR; rw [hbd])
    have hne : (e != 0) = true := by rcases badOf_val hbd with rfl | rfl <;> rfl
    clear hbd
    go_wp2_with fail
    ((try simp only [Exit.inBlock, Exit.then]); refine bodyPost_ret (results_tmp4 rfl _ _ _) rfl ?_)
    exact ⟨by rw [HR.out]; rfl, HB.out⟩
  | none =>
    obtain ⟨i, x, hx, hi, h1, h2, h3, h4⟩ := H1.out.at_ hbd
    rw [h3]
    obtain ⟨hok, hl, hr, hs⟩ := H1.out.okx hx
    have HR := Aside0.mk (show objR (obs es) p = ((x.o.kind : Int), (x.o.refs : Int), (x.o.raws : Int), 0) by unfold objR; rw [hbd, h1])
    obtain ⟨go, cap, cur, e1, e2, e3, e4, e5⟩ := H1.out.ob hx
    simp only [Value.slice.injEq] at e1
    obtain ⟨rfl, _, rfl⟩ := e1
    obtain ⟨Af, cf, hf⟩ := ((H1.out.fl i x hx).1).slice
    rw [List.length_map] at hf
    obtain ⟨nf, hnf⟩ : ∃ nf, nf = x.o.fields.length := ⟨_, rfl⟩
    rw [← hnf] at hf hl
    have HC : Aside0 (∀ j u, (#[.int .i64 (place (obs es) i : Int), .int .i64 (x.o.kind : Int), .int .i64 (x.o.refs : Int), .slice Af nf cf, .bool x.o.gone.isSome, .int .i64 ((x.o.gone.getD 0 : Nat) : Int)]).toList[j]? = some u → w1.cell? ((⟨go, i * 6, none⟩ : Addr).add j) = some u) := ⟨fun j u hu => by
      rw [Addr.add_lit]
      exact e5 j u (by rw [← hu]; simp [oc, hf])⟩
    have HSZ := Aside0.mk (show (Try.prog.info? 152).map (·.size) = some 6 by kernel_rfl)
    have HSZ2 := Aside0.mk (show (Try.prog.info? 152).map (·.size) = some (#[.int .i64 (place (obs es) i : Int), .int .i64 (x.o.kind : Int), .int .i64 (x.o.refs : Int), .slice Af nf cf, .bool x.o.gone.isSome, .int .i64 ((x.o.gone.getD 0 : Nat) : Int)] : Array Value).size by kernel_rfl)
    have HONE := Aside0.mk (show (#[.int .i64 (place (obs es) i : Int), .int .i64 (x.o.kind : Int), .int .i64 (x.o.refs : Int), .slice Af nf cf, .bool x.o.gone.isSome, .int .i64 ((x.o.gone.getD 0 : Nat) : Int)] : Array Value).all (·.oneCell') = true by simp [Value.oneCell'])
    have hx2 := H1.out.c2
    have hi' : (i : Int) < es.length := by omega
    have hi0 : (0 : Int) ≤ i := by omega
    have HSUB := Aside0.mk (NumB.dif_i (nf : Int) x.o.refs x.o.raws (by omega) (by omega))
    have HH := Aside0.mk (And.intro hl (And.intro hr hs))
    have hr9 : (x.o.refs : Int) ≤ 1048576 := by omega
    have hn9 : (nf : Int) ≤ 2097152 := by omega
    have hs9 : (x.o.raws : Int) ≤ 1048576 := by omega
    have hs8 : (0 : Int) ≤ (x.o.raws : Int) := by omega
    clear hbd hx h1 h2 h3 h4 hok e2 e3 e4 e5 hf hnf hl hr hs
    go_upto_region 5 with (first
      | ((with_reducible refine gate_dst (N := 26) rfl ?_); refine wpList_load_at rfl 152 (.tmp 25) rfl (⟨go, i * 6, none⟩ : Addr) rfl (#[.int .i64 (place (obs es) i : Int), .int .i64 (x.o.kind : Int), .int .i64 (x.o.refs : Int), .slice Af nf cf, .bool x.o.gone.isSome, .int .i64 ((x.o.gone.getD 0 : Nat) : Int)]).toList _ HC.out Try.underlying152 rfl HSZ.out ?_)
      | ((with_reducible refine gate_dst (N := 10) rfl ?_); refine box_event ?hg (N := 10) ?hd (cs := #[.int .i64 0, .int .i64 0, .int .i64 0, .slice none 0 0, .bool false, .int .i64 0]) (t := 152) ?hr ?_; (case hd => rfl); (case hg => rfl); (case hr => first | (go_simp; done) | (go_simp; rfl)); intro ga hga w7 hbox hb; have BA := Aside0.mk hbox; have HB7 := Aside0.mk hb; have GA := Aside0.mk hga; clear hbox hb hga)
      | ((with_reducible refine gate_store (p := 10) rfl ?_); refine wpList_store_row rfl 152 (.tmp 10) (.tmp 26) rfl ga #[.int .i64 (place (obs es) i : Int), .int .i64 (x.o.kind : Int), .int .i64 (x.o.refs : Int), .slice Af nf cf, .bool x.o.gone.isSome, .int .i64 ((x.o.gone.getD 0 : Nat) : Int)] rfl rfl 152 #[.int .i64 0, .int .i64 0, .int .i64 0, .slice none 0 0, .bool false, .int .i64 0] BA.out HSZ2.out rfl HONE.out ?_; obtain ⟨w8, hw8⟩ : ∃ w8, w8 = w7.setRow ga #[.int .i64 (place (obs es) i : Int), .int .i64 (x.o.kind : Int), .int .i64 (x.o.refs : Int), .slice Af nf cf, .bool x.o.gone.isSome, .int .i64 ((x.o.gone.getD 0 : Nat) : Int)] := ⟨_, rfl⟩; rw [← hw8]; have BC := Aside0.mk (show w8.heap[ga]? = some (.cells #[.int .i64 (place (obs es) i : Int), .int .i64 (x.o.kind : Int), .int .i64 (x.o.refs : Int), .slice Af nf cf, .bool x.o.gone.isSome, .int .i64 ((x.o.gone.getD 0 : Nat) : Int)] 152 (0, 0)) by rw [hw8]; exact setRow_heap _ _ _ _ _ _ BA.out); have HB8 := Aside0.mk (show Below w1.heap.size w1 w8 by rw [hw8]; exact below_setRow HB7.out (by rw [GA.out]; exact Nat.le_refl _) _); clear hw8))
    have b1 : w8.cell? ⟨ga, 1, none⟩ = some (.int .i64 (x.o.kind : Int)) := (blk_cell BC.out 1).trans rfl
    have b2 : w8.cell? ⟨ga, 2, none⟩ = some (.int .i64 (x.o.refs : Int)) := (blk_cell BC.out 2).trans rfl
    have b3 : w8.cell? ⟨ga, 3, none⟩ = some (.slice Af nf cf) := (blk_cell BC.out 3).trans rfl
    go_quiet (fail)
    go_wp2_with fail
    ((try simp only [Exit.inBlock, Exit.then]); refine bodyPost_ret (results_tmp4 rfl _ _ _) rfl ?_)
    exact ⟨by rw [HR.out]; simp only; rw [← HSUB.out.2]; rfl, pw_below_drewN (below_next HB.out HB8.out) _⟩
set_option maxHeartbeats 4000000 in
theorem get.calls {k : Nat} {W : World} {lo : Own} {g sz : Nat} {vo : Value} {es : List RO} (h : RA k W lo g sz vo es) (p q : Int) :
    Calls Try.prog 54 #[.pointer (some ⟨g, 0, none⟩), .int .i64 p, .int .i64 q] W fun e w' => e = .returned (.tuple #[.int .u64 (getR (obs es) p q).1, .int .i64 (getR (obs es) p q).2]) ∧ Below W.heap.size W w' := by
  have H := Aside0.mk h
  obtain ⟨A, c, hv, hcc⟩ := GenS.own_slice h.tb
  subst hv
  clear h
  have HWC := Aside0.mk (whole.calls H.out p)
  go_enter Try.func54, Try.ntmps54
  go_wp2_with fail
  refine HWC.out.mono ?_
  rintro e w1 ⟨rfl, hb⟩
  have H1 := Aside0.mk (H.out.below hb)
  have HB := Aside0.mk hb
  clear hb HWC
  cases hbd : badOf (obs es) p with
  | some e =>
    rw [whR_bad hbd]
    have HR := Aside0.mk (show getR (obs es) p q = (0, e) by unfold getR; rw [hbd])
    have hne : (e != 0) = true := by rcases badOf_val hbd with rfl | rfl <;> rfl
    clear hbd
    go_wp2_with fail
    go_ret2
    exact ⟨by rw [HR.out]; rfl, HB.out⟩
  | none =>
    obtain ⟨i, x, hx, hi, h1, h2, h3, h4⟩ := H1.out.at_ hbd
    rw [h3]
    have hgr : getR (obs es) p q = if 0 ≤ q ∧ q < x.o.fields.length then (((x.o.fields.getD q.toNat 0 : Nat) : Int), 0) else (0, 24) := by unfold getR; rw [hbd, h1]
    obtain ⟨go, cap, cur, e1, e2, e3, e4, e5⟩ := H1.out.ob hx
    simp only [Value.slice.injEq] at e1
    obtain ⟨rfl, _, rfl⟩ := e1
    have hF := ((H1.out.fl i x hx).1)
    obtain ⟨Af, cf, hf⟩ := hF.slice
    rw [List.length_map] at hf
    obtain ⟨nf, hnf⟩ : ∃ nf, nf = x.o.fields.length := ⟨_, rfl⟩
    rw [← hnf] at hf hgr
    have hc3 : w1.cell? ⟨go, i * 6 + 3, none⟩ = some (.slice Af nf cf) := by rw [← hf]; exact e5 3 _ rfl
    have hx2 := H1.out.c2
    have hi' : (i : Int) < es.length := by omega
    have hi0 : (0 : Int) ≤ i := by omega
    by_cases hq0 : q < 0
    · have HR := Aside0.mk (hgr.trans (if_neg (by omega)))
      clear hgr hF hbd hx h1 h2 h3 h4 e2 e3 e4 e5 hf hnf
      go_wp2_with fail
      go_ret2
      exact ⟨by rw [HR.out]; rfl, HB.out⟩
    · by_cases hq1 : (nf : Int) ≤ q
      · have HR := Aside0.mk (hgr.trans (if_neg (by omega)))
        clear hgr hF hbd hx h1 h2 h3 h4 e2 e3 e4 e5 hf hnf
        go_wp2_with fail
        go_ret2
        exact ⟨by rw [HR.out]; rfl, HB.out⟩
      · obtain ⟨j, rfl⟩ := Int.eq_ofNat_of_zero_le (show 0 ≤ q by omega)
        have hj : j < nf := by omega
        obtain ⟨y, hy⟩ : ∃ y, x.o.fields[j]? = some y := ⟨_, List.getElem?_eq_getElem (by omega)⟩
        have HR := Aside0.mk ((hgr.trans (if_pos ⟨by omega, by omega⟩)).trans (show (((x.o.fields.getD (j : Int).toNat 0 : Nat) : Int), (0 : Int)) = ((y : Int), 0) by rw [Int.toNat_natCast, List.getD_eq_getElem?_getD, hy]; rfl))
        obtain ⟨gf, cf', ef, hcy⟩ := hF.get j (u64 y) (by rw [List.getElem?_map, hy]; rfl)
        rw [hf, List.length_map, ← hnf] at ef
        simp only [Value.slice.injEq] at ef
        obtain ⟨rfl, _, rfl⟩ := ef
        unfold u64 at hcy
        have hj' : (j : Int) < nf := by omega
        clear hgr hF hbd hx h1 h2 h3 h4 e2 e3 e4 e5 hf hnf hy hq0 hq1
        go_wp2_with fail
        go_ret2
        exact ⟨by rw [HR.out]; rfl, HB.out⟩
theorem _root_.Go.Proofs.Ytgjcffjicbmkhaa.RfM.RA.put {k : Nat} {W : World} {lo : Own} {g sz : Nat} {vo : Value} {es : List RO} (h : RA k W lo g sz vo es) {i : Nat} {x : RO} (hx : es[i]? = some x) {gf j v : Nat} (hg : x.v.ownBlock = some gf) (hj : j < x.o.fields.length) (hv : v < 18446744073709551616) :
    RA k (W.setCell ⟨gf, j, none⟩ (.int .u64 (v : Int))) lo g sz vo (es.set i ⟨Ob.put x.o j v, x.v⟩) := by
  have ht := (h.fl i x hx).2 gf hg
  have hl : (Ob.put x.o j v).fields.length = x.o.fields.length := by simp [Ob.put]
  have hu : Upd (fun b => b = gf) W (W.setCell ⟨gf, j, none⟩ (.int .u64 (v : Int))) := Upd.put (S := fun b => b = gf) (Upd.refl _ W) (.inl rfl) _ _
  have hus : used (obs (es.set i ⟨Ob.put x.o j v, x.v⟩)) = used (obs es) := by rw [obs_set]; exact used_set (obs_get hx) hl
  have hil := (List.getElem?_eq_some_iff.1 hx).1
  refine ⟨?_, ?_, h.gT, h.tT, fun i' x' hx' => ?_, fun o ho => ?_, by rw [hus]; exact h.fit, h.sz1⟩
  · rw [hus]
    exact blk_upd h.hd hu (fun e => by have := h.gT; rw [e, ht] at this; simp at this)
  · rw [List.length_set, ocs_same (x' := ⟨Ob.put x.o j v, x.v⟩) es 1 i x hx (fun q => rfl) hl]
    exact own_upd h.tb hu (fun b hb e => by subst e; have := h.tT _ hb; rw [ht] at this; simp at this; omega)
  · by_cases c : i' = i
    · subst c
      rw [List.getElem?_set_self hil] at hx'
      obtain rfl := Option.some.inj hx'
      refine ⟨?_, (h.fl i' x hx).2⟩
      rcases (h.fl i' x hx).1 with ⟨e, _⟩ | ⟨g', cap, e, hG⟩
      · rw [e] at hg; cases hg
      · rw [e] at hg
        obtain rfl := Option.some.inj hg
        refine .inr ⟨g', cap, by show x.v = _; rw [e]; simp [Ob.put], ?_⟩
        have := gen_set hG j (by rw [List.length_map]; exact hj) (.int .u64 (v : Int))
        have e2 : (x.o.fields.map u64).set j (.int .u64 (v : Int)) = (Ob.put x.o j v).fields.map u64 := by simp [Ob.put, List.map_set, u64]
        rwa [e2] at this
    · rw [List.getElem?_set_ne (fun e => c e.symm)] at hx'
      refine ⟨(h.fl i' x' hx').1.upd hu (fun b hb e => ?_), (h.fl i' x' hx').2⟩
      subst e
      have := (h.fl i' x' hx').2 _ hb
      rw [ht] at this
      simp only [Option.some.injEq, Prod.mk.injEq, true_and] at this
      omega
  · rw [obs_set] at ho
    rcases List.mem_or_eq_of_mem_set ho with h1 | h1
    · exact h.ok o h1
    · subst h1
      have hok := h.ok x.o (List.mem_of_getElem? (obs_get hx))
      refine ⟨hok.k1, hok.k2, hok.r1, by show _ ≤ _; rw [hl]; exact hok.r2, by have := hok.s1; unfold Ob.raws at this ⊢; rw [hl]; exact this, fun y hy => ?_, hok.g1⟩
      rcases List.mem_or_eq_of_mem_set (show y ∈ x.o.fields.set j v from hy) with h2 | h2
      · exact hok.f1 y h2
      · subst h2; exact hv
set_option maxHeartbeats 4000000 in
theorem set.calls {k : Nat} {W : World} {lo : Own} {g sz : Nat} {vo : Value} {es : List RO} (h : RA k W lo g sz vo es) (p q : Int) (v : Nat) (hv : v < 18446744073709551616) :
    Calls Try.prog 55 #[.pointer (some ⟨g, 0, none⟩), .int .i64 p, .int .i64 q, .int .u64 (v : Int)] W fun e w' => e = .returned (.int .i64 (setR (obs es) p q v).1) ∧ ∃ es', obs es' = (setR (obs es) p q v).2 ∧ RA k w' lo g sz vo es' ∧ Upd (fun b => ∃ t, lo b = some (k, t)) W w' := by
  have H := Aside0.mk h
  obtain ⟨A, c, hvo, hcc⟩ := GenS.own_slice h.tb
  subst hvo
  clear h
  have HWC := Aside0.mk (whole.calls H.out p)
  go_enter Try.func55, Try.ntmps55
  go_wp2_with fail
  refine HWC.out.mono ?_
  rintro e w1 ⟨rfl, hb⟩
  have H1 := Aside0.mk (H.out.below hb)
  have HB := Aside0.mk hb
  clear hb HWC
  have HE : Aside0 (∀ r : Int, setR (obs es) p q v = (r, obs es) → r = (setR (obs es) p q v).1 ∧ ∃ es', obs es' = (setR (obs es) p q v).2 ∧ RA k w1 lo g sz (.slice A es.length c) es' ∧ Upd (fun b => ∃ t, lo b = some (k, t)) W w1) := ⟨fun r hr => by rw [hr]; exact ⟨rfl, es, rfl, H1.out, Upd.of_below HB.out⟩⟩
  cases hbd : badOf (obs es) p with
  | some e =>
    rw [whR_bad hbd]
    have HR := Aside0.mk (HE.out e (by unfold setR; rw [hbd]))
    have hne : (e != 0) = true := by rcases badOf_val hbd with rfl | rfl <;> rfl
    clear hbd
    go_wp2_with fail
    go_ret
    exact ⟨by rw [← HR.out.1]; rfl, HR.out.2⟩
  | none =>
    obtain ⟨i, x, hx, hi, h1, h2, h3, h4⟩ := H1.out.at_ hbd
    rw [h3]
    have hgr : setR (obs es) p q v = if 0 ≤ q ∧ q < x.o.fields.length then (0, (obs es).set i (Ob.put x.o q.toNat v)) else (24, obs es) := by unfold setR; rw [hbd, h1]
    obtain ⟨go, cap, cur, e1, e2, e3, e4, e5⟩ := H1.out.ob hx
    simp only [Value.slice.injEq] at e1
    obtain ⟨rfl, _, rfl⟩ := e1
    have hF := ((H1.out.fl i x hx).1)
    obtain ⟨Af, cf, hf⟩ := hF.slice
    rw [List.length_map] at hf
    obtain ⟨nf, hnf⟩ : ∃ nf, nf = x.o.fields.length := ⟨_, rfl⟩
    rw [← hnf] at hf hgr
    have hc3 : w1.cell? ⟨go, i * 6 + 3, none⟩ = some (.slice Af nf cf) := by rw [← hf]; exact e5 3 _ rfl
    have hx2 := H1.out.c2
    have hi' : (i : Int) < es.length := by omega
    have hi0 : (0 : Int) ≤ i := by omega
    by_cases hq0 : q < 0
    · have HR := Aside0.mk (HE.out 24 (hgr.trans (if_neg (by omega))))
      clear hgr hF hbd hx h1 h2 h3 h4 e2 e3 e4 e5 hf hnf
      go_wp2_with fail
      go_ret
      exact ⟨by rw [← HR.out.1]; rfl, HR.out.2⟩
    · by_cases hq1 : (nf : Int) ≤ q
      · have HR := Aside0.mk (HE.out 24 (hgr.trans (if_neg (by omega))))
        clear hgr hF hbd hx h1 h2 h3 h4 e2 e3 e4 e5 hf hnf
        go_wp2_with fail
        go_ret
        exact ⟨by rw [← HR.out.1]; rfl, HR.out.2⟩
      · obtain ⟨j, rfl⟩ := Int.eq_ofNat_of_zero_le (show 0 ≤ q by omega)
        have hj : j < nf := by omega
        obtain ⟨y, hy⟩ : ∃ y, x.o.fields[j]? = some y := ⟨_, List.getElem?_eq_getElem (by omega)⟩
        have HR := Aside0.mk (hgr.trans (if_pos ⟨by omega, by omega⟩))
        rcases hF with ⟨ef, eb⟩ | ⟨gf, cf', ef, hG⟩
        · have := congrArg List.length eb
          rw [List.length_map, List.length_nil] at this
          omega
        rw [hf, List.length_map, ← hnf] at ef
        simp only [Value.slice.injEq] at ef
        obtain ⟨rfl, _, rfl⟩ := ef
        have hcy := hG.get j (u64 y) (by rw [List.getElem?_map, hy]; rfl)
        have hfz := gen_frozen hG j
        unfold u64 at hcy
        have hj' : (j : Int) < nf := by omega
        have hp := H1.out.put hx (gf := gf) (j := j) (v := v) (by rw [hf]; rfl) (by omega) hv
        rw [hf] at hp
        have HP := Aside0.mk hp
        clear hp
        have HT := Aside0.mk (show lo gf = some (k, 2 + i) from (H1.out.fl i x hx).2 gf (by rw [hf]; rfl))
        clear hgr hbd hx h1 h2 h3 h4 e2 e3 e4 e5 hf hnf hy hq0 hq1 hG
        go_wp2_with fail
        go_ret
        refine ⟨by rw [HR.out]; rfl, es.set i ⟨Ob.put x.o j v, .slice (some ⟨gf, 0, none⟩) nf cf⟩, by rw [HR.out, obs_set]; rfl, ?_, (Upd.of_below HB.out).put (.inl ⟨_, HT.out⟩) _ _⟩
        exact HP.out
set_option maxHeartbeats 4000000 in
theorem moved.calls {k : Nat} {W : World} {lo : Own} {g sz : Nat} {vo : Value} {es : List RO} (h : RA k W lo g sz vo es) (p : Int) :
    Calls Try.prog 56 #[.pointer (some ⟨g, 0, none⟩), .int .i64 p] W fun e w' => e = .returned (.tuple #[.int .i64 (movR (obs es) p).1, .bool (movR (obs es) p).2.1, .int .i64 (movR (obs es) p).2.2]) ∧ Below W.heap.size W w' := by
  have H := Aside0.mk h
  obtain ⟨A, c, hv, hcc⟩ := GenS.own_slice h.tb
  subst hv
  clear h
  have HFC := Aside0.mk (find.calls H.out p)
  go_enter Try.func56, Try.ntmps56
  go_wp2_with fail
  refine HFC.out.mono ?_
  rintro e w1 ⟨rfl, hb⟩
  have H1 := Aside0.mk (H.out.below hb)
  have HB := Aside0.mk hb
  clear hb HFC
  cases hx : obAt (obs es) p with
  | none =>
    have HR := Aside0.mk (show movR (obs es) p = (0, false, 23) by unfold movR; rw [hx])
    rw [show fiR (obs es) p = -1 by unfold fiR; rw [hx]]
    clear hx
    go_wp2_with fail
    go_ret3
    exact ⟨by rw [HR.out]; rfl, HB.out⟩
  | some y =>
    obtain ⟨i, o⟩ := y
    obtain ⟨h1, h2⟩ := obAt_some hx
    have hi : i < es.length := by have := (List.getElem?_eq_some_iff.1 h1).1; rwa [obs_len] at this
    obtain ⟨x, hxx⟩ : ∃ x, es[i]? = some x := ⟨_, List.getElem?_eq_getElem hi⟩
    obtain rfl : x.o = o := by have := obs_get hxx; rw [h1] at this; exact (Option.some.inj this).symm
    obtain ⟨go, cap, cur, e1, e2, e3, e4, e5⟩ := H1.out.ob hxx
    simp only [Value.slice.injEq] at e1
    obtain ⟨rfl, _, rfl⟩ := e1
    have hg : w1.cell? ⟨go, i * 6 + 4, none⟩ = some (.bool x.o.gone.isSome) := e5 4 _ rfl
    have hg5 : w1.cell? ⟨go, i * 6 + 5, none⟩ = some (.int .i64 ((x.o.gone.getD 0 : Nat) : Int)) := e5 5 _ rfl
    have hx2 := H1.out.c2
    have hi' : (i : Int) < es.length := by omega
    have hi0 : (0 : Int) ≤ i := by omega
    have hi1 : ¬ (i : Int) < 0 := by omega
    rw [show fiR (obs es) p = i by unfold fiR; rw [hx]]
    cases hgs : x.o.gone with
    | none =>
      have HR := Aside0.mk (show movR (obs es) p = (0, false, 0) by unfold movR; rw [hx]; simp only [hgs])
      rw [hgs] at hg
      simp only [Option.isSome_none] at hg
      clear e2 e3 e4 e5 h1 h2 hxx hx hgs hg5
      go_wp2_with fail
      go_ret3
      exact ⟨by rw [HR.out]; rfl, HB.out⟩
    | some t =>
      have HR := Aside0.mk (show movR (obs es) p = ((t : Int), true, 0) by unfold movR; rw [hx]; simp only [hgs])
      rw [hgs] at hg hg5
      simp only [Option.isSome_some, Option.getD_some] at hg hg5
      clear e2 e3 e4 e5 h1 h2 hxx hx hgs
      go_wp2_with fail
      go_ret3
      exact ⟨by rw [HR.out]; rfl, HB.out⟩
/-- New: a new arena, or a nil one with the error. -/
def NewR (W w' : World) (n : Int) (k : Nat) (e : Ending) : Prop := (¬ (1 ≤ n ∧ n ≤ 1048576) ∧ e = .returned (.tuple #[.pointer none, .int .i64 20]) ∧ w' = W) ∨
      (1 ≤ n ∧ n ≤ 1048576 ∧ ∃ g, e = .returned (.tuple #[.pointer (some ⟨g, 0, none⟩), .int .i64 0]) ∧ W.heap.size ≤ g ∧ Below W.heap.size W w' ∧ ∀ lo' : Own, lo' g = some (k, 0) → RA k w' lo' g n.toNat (.slice none 0 0) [])
theorem new.calls (W : World) (n : Int) (k : Nat) : Calls Try.prog 46 #[.int .i64 n] W fun e w' => NewR W w' n k e := by
  by_cases h0 : n < 1
  · go_enter Try.func46, Try.ntmps46
    go_wp2_with fail
    go_ret2
    exact .inl ⟨by omega, rfl, rfl⟩
  · by_cases h1 : n > 1048576
    · go_enter Try.func46, Try.ntmps46
      go_wp2_with fail
      go_ret2
      exact .inl ⟨by omega, rfl, rfl⟩
    · have h1' : n ≤ 1048576 := by omega
      go_enter Try.func46, Try.ntmps46
      go_wp2_with fail
      go_ret2
      refine .inr ⟨by omega, h1', W.heap.size, rfl, Nat.le_refl _, below_alloc (Below.refl _ _) _, fun lo' hl => ⟨?_, ⟨rfl, .inl ⟨rfl, rfl⟩⟩, hl, fun b hb => (by cases hb), fun i x hx => by simp at hx, fun o ho => by simp [obs] at ho, by simp only [obs, List.map_nil, used_nil]; omega, by omega⟩⟩
      rw [Int.toNat_of_nonneg (by omega)]
      exact blk_new W _
theorem clear.calls {k : Nat} {W : World} {lo : Own} {g sz : Nat} {vo : Value} {es : List RO} (h : RA k W lo g sz vo es) :
    Calls Try.prog 66 #[.pointer (some ⟨g, 0, none⟩)] W fun e w' => e = .returned (.tuple #[]) ∧ RA k w' lo g sz (.slice none 0 0) [] ∧ Upd (fun b => ∃ t, lo b = some (k, t)) W w' := by
  have H := Aside0.mk h
  have hx2 := h.c2
  have hfz := blk_frozen h.hd 2
  have h2 := blk_set h.hd 2 (.slice none 0 0)
  have hfz2 := blk_frozen h2 1
  have hx1 : (W.setCell ⟨g, 2, none⟩ (.slice none 0 0)).cell? ⟨g, 1, none⟩ = some (.int .i64 (used (obs es) : Int)) := (blk_cell h2 1).trans rfl
  have H2 := Aside0.mk (blk_set h2 1 (.int .i64 1))
  clear h h2
  go_enter Try.func66, Try.ntmps66
  go_wp2_with fail
  go_end0
  refine ⟨rfl, ⟨H2.out, ⟨rfl, .inl ⟨rfl, rfl⟩⟩, H.out.gT, fun b hb => (by cases hb), fun i x hx => by simp at hx, fun o ho => by simp [obs] at ho, ?_, H.out.sz1⟩, ((Upd.refl _ W).put (.inl ⟨_, H.out.gT⟩) _ _).put (.inl ⟨_, H.out.gT⟩) _ _⟩
  have := H.out.fit
  have := used_pos (obs es)
  simp only [obs, List.map_nil, used_nil]
  omega
end Go.Proofs.Ytgjcffjicbmkhaa.RfG
