/- ArenaWalk walked. -/
import Derived.Test.YtgjcffjicbmkhaaMemI
import Derived.Test.YtgjcffjicbmkhaaSumI
import Derived.Test.YtgjcffjicbmkhaaArV
import Derived.Deep.QuietTactic
import Derived.BigQuiet
import Derived.StillTailTactics
import Derived.Deep.DeepMust
import Derived.Deep.RegionHeld3
namespace Go.Proofs.Ytgjcffjicbmkhaa.WalkW
open Go Go.RowKit Go.Proofs.YtgjcffjicbmkhaaW.PrintWords Go.Proofs.YtgjcffjicbmkhaaW.PrintLast Go.Proofs.YtgjcffjicbmkhaaW.PrintMore Go.Proofs.Ytgjcffjicbmkhaa.PF Go.Proofs.Ytgjcffjicbmkhaa.RowU Go.Proofs.Ytgjcffjicbmkhaa.ArS Go.Proofs.Ytgjcffjicbmkhaa.ArM Go.Proofs.Ytgjcffjicbmkhaa.ArW Go.Proofs.Ytgjcffjicbmkhaa.ArX Go.Proofs.Ytgjcffjicbmkhaa.ArY Go.Proofs.Ytgjcffjicbmkhaa.ArZ Go.Proofs.Ytgjcffjicbmkhaa.GenM Go.Proofs.Ytgjcffjicbmkhaa.TakS Go.Proofs.Ytgjcffjicbmkhaa.FillL Go.Proofs.Ytgjcffjicbmkhaa.MemI Go.Proofs.Ytgjcffjicbmkhaa.MemO Go.Proofs.Ytgjcffjicbmkhaa.ArV
set_option linter.unusedVariables false
set_option maxRecDepth 100000

theorem cell_new2 (wr : World) (o1 : Obj) (v : Value) (T : TypeId) : ((wr.alloc o1).alloc (.cells #[v] T)).drew.cell? ⟨wr.heap.size + 1, 0, none⟩ = some v := by
  have h := blk_new (wr.alloc o1) (.cells #[v] T)
  rw [show (wr.alloc o1).heap.size = wr.heap.size + 1 by simp] at h
  exact (blk_cell (w := ((wr.alloc o1).alloc (.cells #[v] T)).drew) h 0).trans rfl
/-- No object begins between two that follow one another. -/
theorem no_begin {obs : List Ob} {k : Nat} {p : Int} (hk : k ≤ obs.length) (h1 : k = 0 ∨ (place obs (k - 1) : Int) < p) (h2 : p ≤ place obs k) (h3 : p = place obs k → k = obs.length) : ¬ ∃ q : Nat, p = q ∧ begins obs q := by
  rintro ⟨q, rfl, j, hj, rfl⟩
  rcases Nat.lt_trichotomy j k with h | h | h
  · rcases h1 with h1 | h1
    · omega
    · by_cases h4 : j = k - 1
      · subst h4; omega
      · have := place_mono (l := obs) (j := j) (k := k - 1) (by omega) (by omega); omega
  · subst h
    have := h3 rfl; omega
  · have := place_mono (l := obs) h (Nat.le_of_lt hj); omega
theorem no_begin_far {obs : List Ob} {p : Int} (h : (used obs : Int) ≤ p) : ¬ ∃ q : Nat, p = q ∧ begins obs q := by
  rintro ⟨q, rfl, hq⟩
  have := begins_lt hq; omega
theorem k9_ok : ShOk ⟨9, 2, 0⟩ := ⟨by decide, by decide, by decide, by decide, by decide, by decide⟩
set_option maxHeartbeats 8000000 in
theorem walk.calls (l1 : List S28) (lw : List (Int × Int × Int)) (A1 A2 : Option Addr) (c1 c2 : Nat) (W : World) (hC1 : Kd.C k28 W A1 l1.length l1) (hc1 : l1.length ≤ c1) (hl1 : l1.length ≤ 100000000000000)
    (hC2 : Kd.C kW W A2 lw.length lw) (hc2 : lw.length ≤ c2) (hl2 : lw.length ≤ 100000000000000) (hwf : ∀ x ∈ lw, gU x.2.2) :
    Calls Try.prog 4 #[.agg #[.slice A1 l1.length c1, .slice A2 lw.length c2]] W fun e w' => e = .returned (.bool true) ∧ Below W.heap.size W w' := by
  obtain ⟨lt, hlt, htl, htok⟩ := take_ok l1 hl1
  have HT := Aside0.mk (fun W2 (h : Kd.C k28 W2 A1 l1.length l1) => larderlaw2_take.calls 2001 A1 c1 l1 lt W2 h hc1 hlt)
  have HC1 := Aside0.mk hC1
  have HC2 := Aside0.mk hC2
  have HWF := Aside0.mk hwf
  have HOK := Aside0.mk htok
  clear hC1 hC2 hlt hwf htok
  go_enter Try.func4, Try.ntmps4
  go_wp2_with fail
  refine (HT.out _ (Kd.C_below HC1.out (below_alloc (Below.refl _ _) _))).mono ?_
  rintro e w2 ⟨v2, rfl, hR, hb⟩
  have HR := Aside0.mk hR
  have H2 := Aside0.mk (below_next (below_alloc (Below.refl W.heap.size W) _) hb)
  have hw1 : w2.cell? ⟨W.heap.size, 1, none⟩ = some (.slice A2 lw.length c2) := by
    refine (hb.cell (p := ⟨W.heap.size, 1, none⟩) (by simp)).trans ?_
    exact (blk_cell (blk_new W _) 1).trans rfl
  obtain ⟨b0, hb0⟩ : ∃ b0, b0 = (W.alloc (.cells #[.slice A1 l1.length c1, .slice A2 lw.length c2] 25)).heap.size := ⟨_, rfl⟩
  have HB0 : Aside0 (b0 ≤ w2.heap.size ∧ W.heap.size ≤ b0) := ⟨by rw [hb0]; exact hb.size, by rw [hb0]; exact (below_alloc (Below.refl W.heap.size W) _).size⟩
  rw [← hb0] at HR
  clear hR hb hb0 HT
  go_upto_region 4 with ((with_reducible refine gate_builtin (b := .append) (xs := #[.tmp 28, .tmp 30]) rfl ?_); at_builtin; refine Kd.R_append k28 (w0 := w2) b0 rfl (.tmp 28) (.tmp 30) 22 28 (.agg #[.int .i64 0, .int .i64 0, .int .i64 0]) 24 rfl Try.underlying22 info28 rfl (by decide) (by omega) v2 lt (⟨9, 2, 0⟩ : S28) [.int .i64 9, .int .i64 2, .int .i64 0] (fun _ => True) (fun _ => False) rfl (by first | (go_simp; done) | (go_simp; rfl)) ?aP (fun _ hk => hk.elim) (fun _ _ => trivial) ?aO ?aB ?aS ?aL ?_; (case aP => exact k28_mkM _ _ _ (⟨9, 2, 0⟩ : S28)); (case aO => exact HR.out); (case aB => exact Below.refl _ _); (case aS => exact HB0.out.1); (case aL => omega); intro v3 w3 ho hb hg hat; have HO := Aside0.mk ho; have H3 := Aside0.mk (Below.trans (H2.out.mono (Nat.le_refl _)) (hb.mono HB0.out.2)); clear ho hb hg hat)
  obtain ⟨A, c, rfl, hc, hC⟩ := Kd.R_reads HO.out
  have HOKl : Aside0 (∀ x ∈ lt ++ [(⟨9, 2, 0⟩ : S28)], ShOk x) := ⟨fun x hx => by
    rcases List.mem_append.1 hx with h | h
    · exact HOK.out x h
    · rw [List.mem_singleton.1 h]; exact k9_ok⟩
  have hll : (lt ++ [(⟨9, 2, 0⟩ : S28)]).length ≤ 2001 ∧ 0 < (lt ++ [(⟨9, 2, 0⟩ : S28)]).length := by simp; omega
  generalize lt ++ [(⟨9, 2, 0⟩ : S28)] = l at *
  obtain ⟨hlm, hl0⟩ := hll
  have HC := Aside0.mk hC
  have HFi := Aside0.mk (fill.calls l A c w3 hC hc HOKl.out hlm)
  clear hC HO HR HB0 HOK htl hw1 H2
  go_wp2_with fail
  refine HFi.out.mono ?_
  rintro e w4 ⟨g, gw, gf, va, rfl, hfi⟩
  have HSH : Aside0 (∀ i : Nat, i < l.length → ∃ k r s : Nat, l[i]? = some (⟨k, r, s⟩ : S28) ∧ rd_T28 l i = ⟨k, r, s⟩ ∧ 1 ≤ k ∧ k ≤ 255 ∧ r ≤ 24 ∧ s ≤ 24) := ⟨fun i hi => by
    have h1 := rd_get l i hi
    obtain ⟨k, r, s, h2, h3⟩ := sh_nat (HOKl.out _ (List.mem_of_getElem? h1))
    exact ⟨k, r, s, by rw [h1, h2], h2, h3⟩⟩
  have HMem : Aside0 (Mem w3 w4 l g gw gf va (.slice none 0 0) (obsOf l) []) := ⟨by
    refine ⟨hfi.ar, hfi.at_, ?_, by simp, fun j h o h1 _ => by simp at h1, fun i j h h1 _ => by simp at h1, fun h h1 => by simp at h1, fun j k r s h1 => ⟨newOb k r s, ?_, rfl, rfl, by simp [newOb], rfl⟩, fun _ => rfl, hfi.below, hfi.g0, hfi.gw0, hfi.gf0, hfi.v0, fun k hk => (by cases hk), by simp [obsOf]⟩
    · have : heldV l [] = [] := by unfold heldV; simp
      rw [this]; exact GV.nil _ _
    · unfold obsOf; rw [List.getElem?_map, h1]; simp [obOf]⟩
  clear hfi HFi
  go_wp2_with fail
  obtain ⟨gp, cp, hva, hcp⟩ := HMem.out.at_.form (by simp [placesV]; exact hl0)
  have hpl : (placesV l l.length).length = l.length := by simp [placesV]
  rw [hpl] at hva hcp
  subst hva
  clear hpl
  go_loopw [8] (fun i wr => ∃ k : Nat, k ≤ lw.length ∧ k ≤ 2000 ∧ i = .int .i64 k ∧ ∃ obs, Aside0 (Mem w3 wr l g gw gf (.slice (some ⟨gp, 0, none⟩) l.length cp) (.slice none 0 0) obs [])) (fun i _ => 2001 - (intOf i).toNat)
  case atStart => exact ⟨0, Nat.zero_le _, Nat.zero_le _, rfl, _, HMem⟩
  case round =>
    obtain ⟨i, hi1, hi2, rfl, obs, HM2⟩ := hrel
    clear HMem
    rename World => wr2
    by_cases hlt : i < lw.length
    · by_cases hlt2 : i < 2000
      · obtain ⟨x, hx⟩ : ∃ x, lw[i]? = some x := ⟨_, List.getElem?_eq_getElem hlt⟩
        obtain ⟨a, b, v⟩ := x
        obtain ⟨hv0, hv1⟩ := wf_u64 (HWF.out _ (List.mem_of_getElem? hx))
        obtain ⟨V, rfl⟩ := Int.eq_ofNat_of_zero_le hv0
        obtain ⟨ad, hA, hx0, hx1, hx2⟩ := write_at (Kd.C_below HC2.out (below_next H3.out HM2.out.below)) i _ hx
        subst hA
        have HX3 : Aside0 (∀ W2, Below w3.heap.size w3 W2 → W2.cell? (ad.add (i * 3)) = some (.int .i64 a) ∧ W2.cell? ⟨(ad.add (i * 3)).block, (ad.add (i * 3)).off + 1, none⟩ = some (.int .i64 b) ∧ W2.cell? ⟨(ad.add (i * 3)).block, (ad.add (i * 3)).off + 2, none⟩ = some (.int .u64 (V : Int))) := ⟨fun W2 hb => by
          obtain ⟨ad', hA', h0, h1, h2⟩ := write_at (Kd.C_below HC2.out (below_next H3.out hb)) i _ hx
          obtain rfl := Option.some.inj hA'
          exact ⟨h0, h1, h2⟩⟩
        obtain ⟨o, ho, _, HWo⟩ := within_calls a l.length hl0 (by omega)
        obtain ⟨f, hf, _, HWf⟩ := within_calls b 48 (by omega) (by omega)
        have HWf48 : Aside0 (∀ w : World, Calls Try.prog 12 #[.int .i64 b, .int .i64 48] w fun e w' => e = .returned (.int .i64 (f : Int)) ∧ Below w.heap.size w w') := ⟨HWf⟩
        obtain ⟨k, r, s, hxo, hrd, h1, h2, h3, h4⟩ := HSH.out o ho
        obtain ⟨ob, hob, ob1, ob2, ob3, ob4⟩ := HM2.out.sh o k r s hxo
        have hilt : (i : Int) < lw.length := by omega
        have holt : (o : Int) < l.length := by omega
        have HOB := Aside0.mk (And.intro hob ob4)
        have HHW := Aside0.mk HWo
        have HV1 : Aside0 (V < 18446744073709551616) := ⟨by have h' : (V : Int) < 18446744073709551616 := hv1; omega⟩
        have hpc := HM2.out.at_.cell o _ (placesV_get l l.length o ho)
        obtain ⟨p, hp⟩ : ∃ p, p = place (obsOf l) o := ⟨_, rfl⟩
        rw [← hp] at hpc
        have HP := Aside0.mk hp
        have HSet : Aside0 (∀ W2, Mem w3 W2 l g gw gf (.slice (some ⟨gp, 0, none⟩) l.length cp) (.slice none 0 0) obs [] → Calls Try.prog 13 #[.pointer (some ⟨g, 0, none⟩), .int .i64 (p : Int), .int .i64 (f : Int), .int .u64 (V : Int)] W2 fun e' w' => ∃ x obs', e' = .returned (.int .i64 x) ∧ Mem w3 w' l g gw gf (.slice (some ⟨gp, 0, none⟩) l.length cp) (.slice none 0 0) obs' []) := ⟨fun W2 hM => by
          by_cases hfn : f < ob.fields.length
          · refine (set_yes hM.ar hob ob4 f V hfn HV1.out p (by rw [hp]; exact (hM.pl o).symm)).mono ?_
            rintro e w' ⟨rfl, hA', hu'⟩
            exact ⟨0, _, rfl, hM.set0 hob hA' hu'⟩
          · refine (set_far hM.ar hob ob4 f V (.inr (by omega)) p (by rw [hp]; exact (hM.pl o).symm)).mono ?_
            rintro e w' ⟨rfl, hb⟩
            exact ⟨24, obs, rfl, hM.move hb⟩⟩
        clear hxo hob ob1 ob2 ob3 ob4 HWo HWf hx hrd hv0 hv1 hp hf
        go_wp2_with fail
        refine (HHW.out _).mono ?_
        rintro e w5 ⟨rfl, hb⟩
        have HM5 := Aside0.mk (HM2.out.move hb)
        clear hb hx0 hx1 hx2 HHW hpc
        obtain ⟨hx0, hx1, hx2⟩ := HX3.out w5 HM5.out.below
        have hpc := HM5.out.at_.cell o _ (placesV_get l l.length o ho)
        rw [← HP.out] at hpc
        go_wp2_with fail
        go_region_held3 (fun w' => w'.cell? ⟨gp, o, none⟩ = some (.int .i64 (p : Int)) ∧ w'.cell? ⟨(ad.add (i * 3)).block, (ad.add (i * 3)).off + 1, none⟩ = some (.int .i64 b) ∧ w'.cell? ⟨(ad.add (i * 3)).block, (ad.add (i * 3)).off + 2, none⟩ = some (.int .u64 (V : Int))) (first | exact ⟨hpc, hx1, hx2⟩ | exact HK.out | exact HK2.out | go_keep) (first | (go_at_call 12; refine (HWf48.out _).mono ?_; rintro e w6 ⟨rfl, hb⟩; have HM6 := Aside0.mk ((HM5.out.move (Below.refl w5.heap.size w5).drew).move hb); clear hb; have HK : Aside0 (w6.cell? ⟨gp, o, none⟩ = some (.int .i64 (p : Int)) ∧ w6.cell? ⟨(ad.add (i * 3)).block, (ad.add (i * 3)).off + 1, none⟩ = some (.int .i64 b) ∧ w6.cell? ⟨(ad.add (i * 3)).block, (ad.add (i * 3)).off + 2, none⟩ = some (.int .u64 (V : Int))) := ⟨by rw [HP.out]; exact HM6.out.at_.cell o _ (placesV_get l l.length o ho), (HX3.out w6 HM6.out.below).2⟩) | (go_at_call 13; refine (HSet.out _ HM6.out).mono ?_; rintro e w7 ⟨x7, obs7, rfl, hM7⟩; have HM7 := Aside0.mk hM7; clear hM7; have HK2 : Aside0 (w7.cell? ⟨gp, o, none⟩ = some (.int .i64 (p : Int)) ∧ w7.cell? ⟨(ad.add (i * 3)).block, (ad.add (i * 3)).off + 1, none⟩ = some (.int .i64 b) ∧ w7.cell? ⟨(ad.add (i * 3)).block, (ad.add (i * 3)).off + 2, none⟩ = some (.int .u64 (V : Int))) := ⟨by rw [HP.out]; exact HM7.out.at_.cell o _ (placesV_get l l.length o ho), (HX3.out w7 HM7.out.below).2⟩))
        go_wp2_with fail
        go_roundw
        case rel => exact ⟨i + 1, by omega, by omega, by go_num, obs7, HM7⟩
        case measure => simp [intOf]; omega
      · clear hi1 hi2
        have hln : obs.length = l.length := HM2.out.ln
        have hus : used obs = used (obsOf l) := by
          have h1 := place_len obs
          rw [hln, HM2.out.pl] at h1
          have h2 := place_len (obsOf l)
          rw [show (obsOf l).length = l.length by simp [obsOf]] at h2
          rw [← h1, h2]
        have hub : used obs ≤ 1048576 := by obtain ⟨_, _, _, hA⟩ := HM2.out.ar; exact Nat.le_trans hA.fit hA.sz1
        have HImg := Aside0.mk (fun W2 (hA : ArAt W2 g gw gf (used (obsOf l)) obs) => image.calls hA)
        have HUs := Aside0.mk (fun W2 (hA : ArAt W2 g gw gf (used (obsOf l)) obs) => used.calls hA)
        obtain ⟨U, hU⟩ : ∃ U, U = used obs := ⟨_, rfl⟩
        have hU1 : 1 ≤ U := by rw [hU]; exact used_pos _
        rw [← hU] at HImg HUs hub
        have HU := Aside0.mk (And.intro hU (And.intro hus hln))
        clear hus hU
        go_wp2_with fail
        refine (HImg.out _ HM2.out.ar).mono ?_
        rintro e w5 ⟨gi, ci, rfl, hwi, hgi, hb⟩
        have HM5 := Aside0.mk (HM2.out.move hb)
        have HWI := Aside0.mk hwi
        have HGI : Aside0 (w3.heap.size ≤ gi) := ⟨Nat.le_trans HM2.out.below.size hgi⟩
        clear hb hwi hgi HImg HM2
        go_wp2_with fail
        refine (HUs.out _ HM5.out.ar).mono ?_
        rintro e w6 ⟨rfl, hb⟩
        have HM6 := Aside0.mk (HM5.out.move hb)
        have HWI6 := Aside0.mk (HWI.out.below hb)
        clear hb HM5 HWI
        have hi0 : w6.cell? ⟨gi, 0, none⟩ = some (.int .u64 0) := HWI6.out.get 0 0 rfl
        have hU0 : (0 : Int) < U := by omega
        go_wp2_with fail
        go_loopw [11, 12, 13] (fun nx k p wr => ∃ (kk : Nat) (P : Int), kk ≤ l.length ∧ nx = .int .i64 (place obs kk : Int) ∧ k = .int .i64 (kk : Int) ∧ p = .int .i64 P ∧ -2 ≤ P ∧ P ≤ U + 3 ∧ Aside0 (kk = 0 ∨ (place obs (kk - 1) : Int) < P) ∧ Aside0 (P ≤ place obs kk ∨ kk = l.length) ∧ Aside0 (Mem w3 wr l g gw gf (.slice (some ⟨gp, 0, none⟩) l.length cp) (.slice none 0 0) obs [] ∧ WordsAt wr gi ci (words obs))) (fun _ _ p _ => ((U : Int) + 3 - intOf p).toNat)
        case atStart => exact ⟨0, -2, Nat.zero_le _, rfl, rfl, rfl, by omega, by omega, ⟨.inl rfl⟩, ⟨.inl (by have := place_pos obs 0; omega)⟩, ⟨HM6.out, HWI6.out⟩⟩
        case round =>
          obtain ⟨kk, P, hkk, rfl, rfl, rfl, hP1, hP2, HI1, HI2, HM7⟩ := hrel
          clear HM6 HWI6 hi0
          rename World => wr7
          by_cases hPU : P < U + 3
          · by_cases hA : P = place obs kk ∧ kk < l.length
            · obtain ⟨hPe, hkl⟩ := hA
              obtain ⟨k, r, s, hxo, hrd, h1, h2, h3, h4⟩ := HSH.out kk hkl
              obtain ⟨ob, hob, ob1, ob2, ob3, ob4⟩ := HM7.out.1.sh kk k r s hxo
              have hpu : place obs kk < U := by rw [HU.out.1]; exact place_lt hob
              have hps : place obs (kk + 1) = place obs kk + 1 + (r + s) := by rw [place_succ hob, ob3]
              have hpsu : place obs (kk + 1) ≤ U := by rw [HU.out.1, hps, ← ob3]; exact used_split hob
              obtain ⟨q, hq⟩ : ∃ q, q = place obs kk := ⟨_, rfl⟩
              obtain ⟨q2, hq2⟩ : ∃ q2, q2 = place obs (kk + 1) := ⟨_, rfl⟩
              have HObj := Aside0.mk (fun W2 (hA : ArAt W2 g gw gf (used (obsOf l)) obs) => object_yes hA hob ob4 q hq k r s ob1 ob2 ob3)
              have HGet := Aside0.mk (fun W2 (hA : ArAt W2 g gw gf (used (obsOf l)) obs) (f x : Nat) (hx : ob.fields[f]? = some x) => get_yes hA hob ob4 f x hx q hq)
              have HHd := Aside0.mk (fun W => PA.word_Head.calls (k : Int) r s (k + 256 * r + 4294967296 * s) 0 W (by unfold PA.word_Head.f; rw [if_pos ⟨by omega, by omega, by omega, by omega, by omega, by omega⟩]))
              have hhd : (ob.head : Int) = k + 256 * r + 4294967296 * s := by
                rw [Ob.head_whole ob4, ob1, ob2, show ob.raws = s by unfold Ob.raws; omega]; omega
              have HCE : Aside0 (∀ W2, Mem w3 W2 l g gw gf (.slice (some ⟨gp, 0, none⟩) l.length cp) (.slice none 0 0) obs [] ∧ WordsAt W2 gi ci (words obs) → W2.cell? ⟨gp, kk, none⟩ = some (.int .i64 (q : Int)) ∧ W2.cell? ⟨gi, q, none⟩ = some (.int .u64 (k + 256 * r + 4294967296 * s)) ∧ ∀ (f x : Nat), ob.fields[f]? = some x → W2.cell? ⟨gi, q + 1 + f, none⟩ = some (.int .u64 (x : Int))) := ⟨fun W2 hM => ⟨by have := hM.1.at_.cell kk _ (placesV_get l l.length kk hkl); rw [← HM7.out.1.pl kk, ← hq] at this; exact this, by have := hM.2.get _ _ (words_head hob); rw [hhd, ← hq] at this; exact this, fun f x hx => by have := hM.2.get _ x ((words_field hob f (List.getElem?_eq_some_iff.1 hx).1).trans hx); rw [← hq] at this; exact this⟩⟩
              have HFL : Aside0 (ob.fields.length = r + s) := ⟨ob3⟩
              rw [← hq] at hPe hpu hps ⊢
              rw [← hq2] at hps hpsu
              have HQ2 := Aside0.mk (And.intro hq2 hq)
              subst hPe
              obtain ⟨n, hn⟩ : ∃ n, n = r + s := ⟨_, rfl⟩
              have HN := Aside0.mk hn
              have hnb : n ≤ 48 := by omega
              have HPS : Aside0 (q2 = q + 1 + n) := ⟨by omega⟩
              have hklt : (kk : Int) < l.length := by omega
              have hkl2 : decide (l.length ≤ kk) = false := decide_eq_false (by omega)
              have hpu' : (q : Int) < U := by omega
              obtain ⟨x1, hx1⟩ : ∃ x : Int, x = k + 256 * r + 4294967296 * s := ⟨_, rfl⟩
              rw [← hx1] at HHd HCE
              obtain ⟨y1, hy1⟩ : ∃ y, y = q + 1 := ⟨_, rfl⟩
              obtain ⟨y2, hy2⟩ : ∃ y, y = y1 + r := ⟨_, rfl⟩
              have HY := Aside0.mk hy1
              have HE := Aside0.mk (And.intro (NumB.sum_i (q : Int) 1 y1 (by omega) (by omega)) (And.intro (NumB.sum_i (y1 : Int) r y2 (by omega) (by omega)) (And.intro (NumB.sum_i (y2 : Int) s q2 (by omega) (by omega)) (NumB.sum_i (r : Int) s n (by omega) (by omega)))))
              have HFQ : Aside0 (∀ f : Nat, f < n → (f : Int) < n ∧ y1 + f < U ∧ (y1 : Int) + f < U) := ⟨fun f hf => ⟨by omega, by omega, by omega⟩⟩
              obtain ⟨hc1, hc2, hc3⟩ := HCE.out _ HM7.out
              clear hc3 hxo hrd hob ob1 ob2 ob3 ob4 hhd hx1 hy1 hy2 hps hn hq hq2
              go_wp2_with fail
              refine (HObj.out _ HM7.out.1.ar).mono ?_
              rintro e w8 ⟨rfl, hb⟩
              have HM8 := Aside0.mk (And.intro (HM7.out.1.move hb) (HM7.out.2.below hb))
              clear hb hc1 hc2 HObj
              go_wp2_with fail
              refine (HHd.out _).mono ?_
              rintro e w9 ⟨rfl, hd⟩
              have HM9 := Aside0.mk (And.intro (HM8.out.1.move hd.below) (HM8.out.2.below hd.below))
              clear hd HHd HM8
              obtain ⟨hc1, hc2, hc3⟩ := HCE.out _ HM9.out
              clear hc3
              go_wp2_with fail
              refine (num.calls _ _).mono ?_
              rintro e w10 ⟨rfl, rfl⟩
              go_wp2_with fail
              refine (num.calls _ _).mono ?_
              rintro e w11 ⟨rfl, rfl⟩
              obtain ⟨⟨e1, f1⟩, ⟨e2, f2⟩, ⟨e3, f3⟩, e4, f4⟩ := HE.out
              go_wp2_with fail
              clear hc1 hc2 e1 f1 e2 f2 e3 f3 e4 f4
              go_loopw [20] (fun i wr => ∃ f : Nat, f ≤ n ∧ i = .int .i64 f ∧ Aside0 (Mem w3 wr l g gw gf (.slice (some ⟨gp, 0, none⟩) l.length cp) (.slice none 0 0) obs [] ∧ WordsAt wr gi ci (words obs))) (fun i _ => n - (intOf i).toNat)
              case atStart => exact ⟨0, Nat.zero_le _, rfl, HM9⟩
              case round =>
                obtain ⟨f, hf, rfl, HM10⟩ := hrel
                clear HM9
                rename World => wr10
                by_cases hfn : f < n
                · obtain ⟨x, hx⟩ : ∃ x, ob.fields[f]? = some x := ⟨_, List.getElem?_eq_getElem (by rw [HFL.out, ← HN.out]; exact hfn)⟩
                  have HG := Aside0.mk (fun W2 hA => HGet.out W2 hA f x hx)
                  have HX := Aside0.mk hx
                  obtain ⟨hfn', hqf, hqf'⟩ := HFQ.out f hfn
                  have hrs : (f : Int) < (r : Int) + s := by have := HN.out; omega
                  have hqf2 : (q : Int) + 1 + f < U := by have := HY.out; omega
                  have hqf3 : q + 1 + f < U := by have := HY.out; omega
                  clear hx
                  go_wp2_with fail
                  refine (HG.out _ HM10.out.1.ar).mono ?_
                  rintro e w12 ⟨rfl, hb⟩
                  have HM12 := Aside0.mk (And.intro (HM10.out.1.move hb) (HM10.out.2.below hb))
                  clear hb HG
                  have hcx := (HCE.out _ HM12.out).2.2 f x HX.out
                  go_wp2_with fail
                  refine (num.calls _ _).mono ?_
                  rintro e w13 ⟨rfl, rfl⟩
                  go_wp2_with fail
                  go_roundw
                  case rel => first | exact ⟨f + 1, by omega, by go_num, HM12⟩ | ((repeat apply Exists.intro); exact ⟨⟨f + 1, by omega, by go_num, HM12⟩, rfl⟩)
                  case measure => simp [intOf]; omega
                · have hrs : ¬ ((f : Int) < (r : Int) + s) := by have := HN.out; omega
                  go_wp2_with fail
                  go_roundw
                  case rel =>
                    have hyq := HY.out
                    exact ⟨kk + 1, (q : Int) + 1, by omega, by rw [← HQ2.out.1], by go_num, by go_num, by omega, by omega, ⟨.inr (by rw [Nat.add_sub_cancel, ← HQ2.out.2]; omega)⟩, ⟨.inl (by rw [← HQ2.out.1, HPS.out]; omega)⟩, HM10⟩
                  case measure => (have hyq := HY.out; simp [intOf]; omega)
            · have hBad : Bad obs P 23 := .inl ⟨rfl, by
                by_cases hPu : (used obs : Int) ≤ P
                · exact no_begin_far hPu
                · rcases HI2.out with h | h
                  · exact no_begin (by rw [HU.out.2.2]; exact hkk) HI1.out h (fun hp => by rw [HU.out.2.2]; by_cases hkl : kk < l.length; exact absurd ⟨hp, hkl⟩ hA; omega)
                  · subst h
                    have hpl2 := place_len obs
                    rw [HU.out.2.2] at hpl2
                    rcases HI1.out with h0 | h1
                    · omega
                    · exact no_begin (by rw [HU.out.2.2]; exact Nat.le_refl _) (.inr h1) (by rw [hpl2]; omega) (fun _ => HU.out.2.2.symm)⟩
              have HObj := Aside0.mk (fun W2 (hA : ArAt W2 g gw gf (used (obsOf l)) obs) => object_bad hA hBad)
              have HOR : Aside0 (¬ P = place obs kk ∨ (P = place obs kk ∧ (U : Int) ≤ P)) := ⟨by
                by_cases hp : P = place obs kk
                · refine .inr ⟨hp, ?_⟩
                  have hkl : kk = l.length := by by_cases hkl : kk < l.length; exact absurd ⟨hp, hkl⟩ hA; omega
                  have hpl2 := place_len obs
                  rw [HU.out.2.2, ← hkl, ← HU.out.1] at hpl2
                  omega
                · exact .inl hp⟩
              have HNX : Aside0 ((kk = 0 ∨ (place obs (kk - 1) : Int) < P + 1) ∧ (P + 1 ≤ place obs kk ∨ kk = l.length)) := ⟨by
                constructor
                · rcases HI1.out with h | h
                  · exact .inl h
                  · exact .inr (by omega)
                · by_cases hkl : kk < l.length
                  · rcases HI2.out with h | h
                    · by_cases hp : P = place obs kk
                      · exact absurd ⟨hp, hkl⟩ hA
                      · exact .inl (by omega)
                    · omega
                  · exact .inr (by omega)⟩
              clear hBad hA
              obtain ⟨q, hq⟩ : ∃ q, q = place obs kk := ⟨_, rfl⟩
              rw [← hq] at HOR ⊢
              have HQ := Aside0.mk hq
              clear hq
              rcases HOR.out with hne | ⟨he, hge⟩
              · have hne' : (P == (q : Int)) = false := beq_eq_false_iff_ne.2 hne
                go_wp2_with fail
                refine (HObj.out _ HM7.out.1.ar).mono ?_
                rintro e w8 ⟨rfl, hb⟩
                have HM8 := Aside0.mk (And.intro (HM7.out.1.move hb) (HM7.out.2.below hb))
                clear hb HObj
                go_wp2_with fail
                refine (num.calls _ _).mono ?_
                rintro e w9 ⟨rfl, rfl⟩
                go_wp2_with fail
                go_roundw
                case rel => exact ⟨kk, P + 1, hkk, by rw [HQ.out], rfl, rfl, by omega, by omega, ⟨HNX.out.1⟩, ⟨HNX.out.2⟩, HM8⟩
                case measure => simp [intOf]; omega
              · subst he
                have hge' : U ≤ q := by omega
                go_wp2_with fail
                refine (HObj.out _ HM7.out.1.ar).mono ?_
                rintro e w8 ⟨rfl, hb⟩
                have HM8 := Aside0.mk (And.intro (HM7.out.1.move hb) (HM7.out.2.below hb))
                clear hb HObj
                go_wp2_with fail
                refine (num.calls _ _).mono ?_
                rintro e w9 ⟨rfl, rfl⟩
                go_wp2_with fail
                go_roundw
                case rel => exact ⟨kk, (q : Int) + 1, hkk, by rw [HQ.out], rfl, by go_num, by omega, by omega, ⟨HNX.out.1⟩, ⟨HNX.out.2⟩, HM8⟩
                case measure => simp [intOf]; omega
          · have hkl : kk = l.length := by
              rcases HI2.out with h | h
              · by_cases hkl : kk < l.length
                · have h1 := place_mono (l := obs) (j := kk) (k := l.length) hkl (by rw [HU.out.2.2]; exact Nat.le_refl _)
                  have h2 := place_len obs
                  rw [HU.out.2.2, ← HU.out.1] at h2
                  omega
                · omega
              · exact h
            subst hkl
            have hpl2 := place_len obs
            rw [HU.out.2.2, ← HU.out.1] at hpl2
            rw [hpl2]
            go_wp2_with fail
            refine (HUs.out _ HM7.out.1.ar).mono ?_
            rintro e w8 ⟨rfl, hb⟩
            have HM8 := Aside0.mk (HM7.out.1.move hb)
            clear hb HUs
            go_wp2_with fail
            go_ret
            exact ⟨by simp, below_next H3.out HM8.out.below⟩
    · clear hi1 hi2
      have hln : obs.length = l.length := HM2.out.ln
      have hus : used obs = used (obsOf l) := by
        have h1 := place_len obs
        rw [hln, HM2.out.pl] at h1
        have h2 := place_len (obsOf l)
        rw [show (obsOf l).length = l.length by simp [obsOf]] at h2
        rw [← h1, h2]
      have hub : used obs ≤ 1048576 := by obtain ⟨_, _, _, hA⟩ := HM2.out.ar; exact Nat.le_trans hA.fit hA.sz1
      have HImg := Aside0.mk (fun W2 (hA : ArAt W2 g gw gf (used (obsOf l)) obs) => image.calls hA)
      have HUs := Aside0.mk (fun W2 (hA : ArAt W2 g gw gf (used (obsOf l)) obs) => used.calls hA)
      obtain ⟨U, hU⟩ : ∃ U, U = used obs := ⟨_, rfl⟩
      have hU1 : 1 ≤ U := by rw [hU]; exact used_pos _
      rw [← hU] at HImg HUs hub
      have HU := Aside0.mk (And.intro hU (And.intro hus hln))
      clear hus hU
      go_wp2_with fail
      refine (HImg.out _ HM2.out.ar).mono ?_
      rintro e w5 ⟨gi, ci, rfl, hwi, hgi, hb⟩
      have HM5 := Aside0.mk (HM2.out.move hb)
      have HWI := Aside0.mk hwi
      have HGI : Aside0 (w3.heap.size ≤ gi) := ⟨Nat.le_trans HM2.out.below.size hgi⟩
      clear hb hwi hgi HImg HM2
      go_wp2_with fail
      refine (HUs.out _ HM5.out.ar).mono ?_
      rintro e w6 ⟨rfl, hb⟩
      have HM6 := Aside0.mk (HM5.out.move hb)
      have HWI6 := Aside0.mk (HWI.out.below hb)
      clear hb HM5 HWI
      have hi0 : w6.cell? ⟨gi, 0, none⟩ = some (.int .u64 0) := HWI6.out.get 0 0 rfl
      have hU0 : (0 : Int) < U := by omega
      go_wp2_with fail
      go_loopw [11, 12, 13] (fun nx k p wr => ∃ (kk : Nat) (P : Int), kk ≤ l.length ∧ nx = .int .i64 (place obs kk : Int) ∧ k = .int .i64 (kk : Int) ∧ p = .int .i64 P ∧ -2 ≤ P ∧ P ≤ U + 3 ∧ Aside0 (kk = 0 ∨ (place obs (kk - 1) : Int) < P) ∧ Aside0 (P ≤ place obs kk ∨ kk = l.length) ∧ Aside0 (Mem w3 wr l g gw gf (.slice (some ⟨gp, 0, none⟩) l.length cp) (.slice none 0 0) obs [] ∧ WordsAt wr gi ci (words obs))) (fun _ _ p _ => ((U : Int) + 3 - intOf p).toNat)
      case atStart => exact ⟨0, -2, Nat.zero_le _, rfl, rfl, rfl, by omega, by omega, ⟨.inl rfl⟩, ⟨.inl (by have := place_pos obs 0; omega)⟩, ⟨HM6.out, HWI6.out⟩⟩
      case round =>
        obtain ⟨kk, P, hkk, rfl, rfl, rfl, hP1, hP2, HI1, HI2, HM7⟩ := hrel
        clear HM6 HWI6 hi0
        rename World => wr7
        by_cases hPU : P < U + 3
        · by_cases hA : P = place obs kk ∧ kk < l.length
          · obtain ⟨hPe, hkl⟩ := hA
            obtain ⟨k, r, s, hxo, hrd, h1, h2, h3, h4⟩ := HSH.out kk hkl
            obtain ⟨ob, hob, ob1, ob2, ob3, ob4⟩ := HM7.out.1.sh kk k r s hxo
            have hpu : place obs kk < U := by rw [HU.out.1]; exact place_lt hob
            have hps : place obs (kk + 1) = place obs kk + 1 + (r + s) := by rw [place_succ hob, ob3]
            have hpsu : place obs (kk + 1) ≤ U := by rw [HU.out.1, hps, ← ob3]; exact used_split hob
            obtain ⟨q, hq⟩ : ∃ q, q = place obs kk := ⟨_, rfl⟩
            obtain ⟨q2, hq2⟩ : ∃ q2, q2 = place obs (kk + 1) := ⟨_, rfl⟩
            have HObj := Aside0.mk (fun W2 (hA : ArAt W2 g gw gf (used (obsOf l)) obs) => object_yes hA hob ob4 q hq k r s ob1 ob2 ob3)
            have HGet := Aside0.mk (fun W2 (hA : ArAt W2 g gw gf (used (obsOf l)) obs) (f x : Nat) (hx : ob.fields[f]? = some x) => get_yes hA hob ob4 f x hx q hq)
            have HHd := Aside0.mk (fun W => PA.word_Head.calls (k : Int) r s (k + 256 * r + 4294967296 * s) 0 W (by unfold PA.word_Head.f; rw [if_pos ⟨by omega, by omega, by omega, by omega, by omega, by omega⟩]))
            have hhd : (ob.head : Int) = k + 256 * r + 4294967296 * s := by
              rw [Ob.head_whole ob4, ob1, ob2, show ob.raws = s by unfold Ob.raws; omega]; omega
            have HCE : Aside0 (∀ W2, Mem w3 W2 l g gw gf (.slice (some ⟨gp, 0, none⟩) l.length cp) (.slice none 0 0) obs [] ∧ WordsAt W2 gi ci (words obs) → W2.cell? ⟨gp, kk, none⟩ = some (.int .i64 (q : Int)) ∧ W2.cell? ⟨gi, q, none⟩ = some (.int .u64 (k + 256 * r + 4294967296 * s)) ∧ ∀ (f x : Nat), ob.fields[f]? = some x → W2.cell? ⟨gi, q + 1 + f, none⟩ = some (.int .u64 (x : Int))) := ⟨fun W2 hM => ⟨by have := hM.1.at_.cell kk _ (placesV_get l l.length kk hkl); rw [← HM7.out.1.pl kk, ← hq] at this; exact this, by have := hM.2.get _ _ (words_head hob); rw [hhd, ← hq] at this; exact this, fun f x hx => by have := hM.2.get _ x ((words_field hob f (List.getElem?_eq_some_iff.1 hx).1).trans hx); rw [← hq] at this; exact this⟩⟩
            have HFL : Aside0 (ob.fields.length = r + s) := ⟨ob3⟩
            rw [← hq] at hPe hpu hps ⊢
            rw [← hq2] at hps hpsu
            have HQ2 := Aside0.mk (And.intro hq2 hq)
            subst hPe
            obtain ⟨n, hn⟩ : ∃ n, n = r + s := ⟨_, rfl⟩
            have HN := Aside0.mk hn
            have hnb : n ≤ 48 := by omega
            have HPS : Aside0 (q2 = q + 1 + n) := ⟨by omega⟩
            have hklt : (kk : Int) < l.length := by omega
            have hkl2 : decide (l.length ≤ kk) = false := decide_eq_false (by omega)
            have hpu' : (q : Int) < U := by omega
            obtain ⟨x1, hx1⟩ : ∃ x : Int, x = k + 256 * r + 4294967296 * s := ⟨_, rfl⟩
            rw [← hx1] at HHd HCE
            obtain ⟨y1, hy1⟩ : ∃ y, y = q + 1 := ⟨_, rfl⟩
            obtain ⟨y2, hy2⟩ : ∃ y, y = y1 + r := ⟨_, rfl⟩
            have HY := Aside0.mk hy1
            have HE := Aside0.mk (And.intro (NumB.sum_i (q : Int) 1 y1 (by omega) (by omega)) (And.intro (NumB.sum_i (y1 : Int) r y2 (by omega) (by omega)) (And.intro (NumB.sum_i (y2 : Int) s q2 (by omega) (by omega)) (NumB.sum_i (r : Int) s n (by omega) (by omega)))))
            have HFQ : Aside0 (∀ f : Nat, f < n → (f : Int) < n ∧ y1 + f < U ∧ (y1 : Int) + f < U) := ⟨fun f hf => ⟨by omega, by omega, by omega⟩⟩
            obtain ⟨hc1, hc2, hc3⟩ := HCE.out _ HM7.out
            clear hc3 hxo hrd hob ob1 ob2 ob3 ob4 hhd hx1 hy1 hy2 hps hn hq hq2
            go_wp2_with fail
            refine (HObj.out _ HM7.out.1.ar).mono ?_
            rintro e w8 ⟨rfl, hb⟩
            have HM8 := Aside0.mk (And.intro (HM7.out.1.move hb) (HM7.out.2.below hb))
            clear hb hc1 hc2 HObj
            go_wp2_with fail
            refine (HHd.out _).mono ?_
            rintro e w9 ⟨rfl, hd⟩
            have HM9 := Aside0.mk (And.intro (HM8.out.1.move hd.below) (HM8.out.2.below hd.below))
            clear hd HHd HM8
            obtain ⟨hc1, hc2, hc3⟩ := HCE.out _ HM9.out
            clear hc3
            go_wp2_with fail
            refine (num.calls _ _).mono ?_
            rintro e w10 ⟨rfl, rfl⟩
            go_wp2_with fail
            refine (num.calls _ _).mono ?_
            rintro e w11 ⟨rfl, rfl⟩
            obtain ⟨⟨e1, f1⟩, ⟨e2, f2⟩, ⟨e3, f3⟩, e4, f4⟩ := HE.out
            go_wp2_with fail
            clear hc1 hc2 e1 f1 e2 f2 e3 f3 e4 f4
            go_loopw [20] (fun i wr => ∃ f : Nat, f ≤ n ∧ i = .int .i64 f ∧ Aside0 (Mem w3 wr l g gw gf (.slice (some ⟨gp, 0, none⟩) l.length cp) (.slice none 0 0) obs [] ∧ WordsAt wr gi ci (words obs))) (fun i _ => n - (intOf i).toNat)
            case atStart => exact ⟨0, Nat.zero_le _, rfl, HM9⟩
            case round =>
              obtain ⟨f, hf, rfl, HM10⟩ := hrel
              clear HM9
              rename World => wr10
              by_cases hfn : f < n
              · obtain ⟨x, hx⟩ : ∃ x, ob.fields[f]? = some x := ⟨_, List.getElem?_eq_getElem (by rw [HFL.out, ← HN.out]; exact hfn)⟩
                have HG := Aside0.mk (fun W2 hA => HGet.out W2 hA f x hx)
                have HX := Aside0.mk hx
                obtain ⟨hfn', hqf, hqf'⟩ := HFQ.out f hfn
                have hrs : (f : Int) < (r : Int) + s := by have := HN.out; omega
                have hqf2 : (q : Int) + 1 + f < U := by have := HY.out; omega
                have hqf3 : q + 1 + f < U := by have := HY.out; omega
                clear hx
                go_wp2_with fail
                refine (HG.out _ HM10.out.1.ar).mono ?_
                rintro e w12 ⟨rfl, hb⟩
                have HM12 := Aside0.mk (And.intro (HM10.out.1.move hb) (HM10.out.2.below hb))
                clear hb HG
                have hcx := (HCE.out _ HM12.out).2.2 f x HX.out
                go_wp2_with fail
                refine (num.calls _ _).mono ?_
                rintro e w13 ⟨rfl, rfl⟩
                go_wp2_with fail
                go_roundw
                case rel => first | exact ⟨f + 1, by omega, by go_num, HM12⟩ | ((repeat apply Exists.intro); exact ⟨⟨f + 1, by omega, by go_num, HM12⟩, rfl⟩)
                case measure => simp [intOf]; omega
              · have hrs : ¬ ((f : Int) < (r : Int) + s) := by have := HN.out; omega
                go_wp2_with fail
                go_roundw
                case rel =>
                  have hyq := HY.out
                  exact ⟨kk + 1, (q : Int) + 1, by omega, by rw [← HQ2.out.1], by go_num, by go_num, by omega, by omega, ⟨.inr (by rw [Nat.add_sub_cancel, ← HQ2.out.2]; omega)⟩, ⟨.inl (by rw [← HQ2.out.1, HPS.out]; omega)⟩, HM10⟩
                case measure => (have hyq := HY.out; simp [intOf]; omega)
          · have hBad : Bad obs P 23 := .inl ⟨rfl, by
              by_cases hPu : (used obs : Int) ≤ P
              · exact no_begin_far hPu
              · rcases HI2.out with h | h
                · exact no_begin (by rw [HU.out.2.2]; exact hkk) HI1.out h (fun hp => by rw [HU.out.2.2]; by_cases hkl : kk < l.length; exact absurd ⟨hp, hkl⟩ hA; omega)
                · subst h
                  have hpl2 := place_len obs
                  rw [HU.out.2.2] at hpl2
                  rcases HI1.out with h0 | h1
                  · omega
                  · exact no_begin (by rw [HU.out.2.2]; exact Nat.le_refl _) (.inr h1) (by rw [hpl2]; omega) (fun _ => HU.out.2.2.symm)⟩
            have HObj := Aside0.mk (fun W2 (hA : ArAt W2 g gw gf (used (obsOf l)) obs) => object_bad hA hBad)
            have HOR : Aside0 (¬ P = place obs kk ∨ (P = place obs kk ∧ (U : Int) ≤ P)) := ⟨by
              by_cases hp : P = place obs kk
              · refine .inr ⟨hp, ?_⟩
                have hkl : kk = l.length := by by_cases hkl : kk < l.length; exact absurd ⟨hp, hkl⟩ hA; omega
                have hpl2 := place_len obs
                rw [HU.out.2.2, ← hkl, ← HU.out.1] at hpl2
                omega
              · exact .inl hp⟩
            have HNX : Aside0 ((kk = 0 ∨ (place obs (kk - 1) : Int) < P + 1) ∧ (P + 1 ≤ place obs kk ∨ kk = l.length)) := ⟨by
              constructor
              · rcases HI1.out with h | h
                · exact .inl h
                · exact .inr (by omega)
              · by_cases hkl : kk < l.length
                · rcases HI2.out with h | h
                  · by_cases hp : P = place obs kk
                    · exact absurd ⟨hp, hkl⟩ hA
                    · exact .inl (by omega)
                  · omega
                · exact .inr (by omega)⟩
            clear hBad hA
            obtain ⟨q, hq⟩ : ∃ q, q = place obs kk := ⟨_, rfl⟩
            rw [← hq] at HOR ⊢
            have HQ := Aside0.mk hq
            clear hq
            rcases HOR.out with hne | ⟨he, hge⟩
            · have hne' : (P == (q : Int)) = false := beq_eq_false_iff_ne.2 hne
              go_wp2_with fail
              refine (HObj.out _ HM7.out.1.ar).mono ?_
              rintro e w8 ⟨rfl, hb⟩
              have HM8 := Aside0.mk (And.intro (HM7.out.1.move hb) (HM7.out.2.below hb))
              clear hb HObj
              go_wp2_with fail
              refine (num.calls _ _).mono ?_
              rintro e w9 ⟨rfl, rfl⟩
              go_wp2_with fail
              go_roundw
              case rel => exact ⟨kk, P + 1, hkk, by rw [HQ.out], rfl, rfl, by omega, by omega, ⟨HNX.out.1⟩, ⟨HNX.out.2⟩, HM8⟩
              case measure => simp [intOf]; omega
            · subst he
              have hge' : U ≤ q := by omega
              go_wp2_with fail
              refine (HObj.out _ HM7.out.1.ar).mono ?_
              rintro e w8 ⟨rfl, hb⟩
              have HM8 := Aside0.mk (And.intro (HM7.out.1.move hb) (HM7.out.2.below hb))
              clear hb HObj
              go_wp2_with fail
              refine (num.calls _ _).mono ?_
              rintro e w9 ⟨rfl, rfl⟩
              go_wp2_with fail
              go_roundw
              case rel => exact ⟨kk, (q : Int) + 1, hkk, by rw [HQ.out], rfl, by go_num, by omega, by omega, ⟨HNX.out.1⟩, ⟨HNX.out.2⟩, HM8⟩
              case measure => simp [intOf]; omega
        · have hkl : kk = l.length := by
            rcases HI2.out with h | h
            · by_cases hkl : kk < l.length
              · have h1 := place_mono (l := obs) (j := kk) (k := l.length) hkl (by rw [HU.out.2.2]; exact Nat.le_refl _)
                have h2 := place_len obs
                rw [HU.out.2.2, ← HU.out.1] at h2
                omega
              · omega
            · exact h
          subst hkl
          have hpl2 := place_len obs
          rw [HU.out.2.2, ← HU.out.1] at hpl2
          rw [hpl2]
          go_wp2_with fail
          refine (HUs.out _ HM7.out.1.ar).mono ?_
          rintro e w8 ⟨rfl, hb⟩
          have HM8 := Aside0.mk (HM7.out.1.move hb)
          clear hb HUs
          go_wp2_with fail
          go_ret
          exact ⟨by simp, below_next H3.out HM8.out.below⟩
end Go.Proofs.Ytgjcffjicbmkhaa.WalkW
