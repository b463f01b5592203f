/- ArenaMemory walked. -/
import Derived.Test.YtgjcffjicbmkhaaMemI
import Derived.Test.YtgjcffjicbmkhaaSumI
import Derived.Test.YtgjcffjicbmkhaaArV
import Derived.Deep.QuietTactic
import Derived.BigQuiet
import Derived.StillTailTactics
import Derived.Deep.DeepMust
import Derived.Deep.RegionHeld3
namespace Go.Proofs.Ytgjcffjicbmkhaa.MemW
open Go Go.RowKit Go.Proofs.YtgjcffjicbmkhaaW.PrintWords Go.Proofs.YtgjcffjicbmkhaaW.PrintLast Go.Proofs.YtgjcffjicbmkhaaW.PrintMore Go.Proofs.Ytgjcffjicbmkhaa.PF Go.Proofs.Ytgjcffjicbmkhaa.RowU Go.Proofs.Ytgjcffjicbmkhaa.ArS Go.Proofs.Ytgjcffjicbmkhaa.ArM Go.Proofs.Ytgjcffjicbmkhaa.ArW Go.Proofs.Ytgjcffjicbmkhaa.ArX Go.Proofs.Ytgjcffjicbmkhaa.ArY Go.Proofs.Ytgjcffjicbmkhaa.GenM Go.Proofs.Ytgjcffjicbmkhaa.TakS Go.Proofs.Ytgjcffjicbmkhaa.FillL Go.Proofs.Ytgjcffjicbmkhaa.MemI Go.Proofs.Ytgjcffjicbmkhaa.MemO Go.Proofs.Ytgjcffjicbmkhaa.ArV
set_option linter.unusedVariables false
set_option maxRecDepth 100000

theorem cell_new2 (wr : World) (o1 : Obj) (v : Value) (T : TypeId) : ((wr.alloc o1).alloc (.cells #[v] T)).drew.cell? ⟨wr.heap.size + 1, 0, none⟩ = some v := by
  have h := blk_new (wr.alloc o1) (.cells #[v] T)
  rw [show (wr.alloc o1).heap.size = wr.heap.size + 1 by simp] at h
  exact (blk_cell (w := ((wr.alloc o1).alloc (.cells #[v] T)).drew) h 0).trans rfl
theorem k3_ok : ShOk ⟨3, 1, 2⟩ := ⟨by decide, by decide, by decide, by decide, by decide, by decide⟩
set_option maxHeartbeats 8000000 in
theorem memory.calls (l1 : List S28) (lw : List (Int × Int × Int)) (A1 A2 : Option Addr) (c1 c2 : Nat) (W : World) (hC1 : Kd.C k28 W A1 l1.length l1) (hc1 : l1.length ≤ c1) (hl1 : l1.length ≤ 100000000000000)
    (hC2 : Kd.C kW W A2 lw.length lw) (hc2 : lw.length ≤ c2) (hl2 : lw.length ≤ 100000000000000) (hwf : ∀ x ∈ lw, gU x.2.2) :
    Calls Try.prog 3 #[.agg #[.slice A1 l1.length c1, .slice A2 lw.length c2]] W fun e w' => e = .returned (.bool true) ∧ Below W.heap.size W w' := by
  obtain ⟨lt, hlt, htl, htok⟩ := take_ok l1 hl1
  have HT := Aside0.mk (fun W2 (h : Kd.C k28 W2 A1 l1.length l1) => larderlaw2_take.calls 2001 A1 c1 l1 lt W2 h hc1 hlt)
  have HC1 := Aside0.mk hC1
  have HC2 := Aside0.mk hC2
  have HWF := Aside0.mk hwf
  have HOK := Aside0.mk htok
  clear hC1 hC2 hlt hwf htok
  go_enter Try.func3, Try.ntmps3
  go_wp2_with fail
  refine (HT.out _ (Kd.C_below HC1.out (below_alloc (Below.refl _ _) _))).mono ?_
  rintro e w2 ⟨v2, rfl, hR, hb⟩
  have HR := Aside0.mk hR
  have H2 := Aside0.mk (below_next (below_alloc (Below.refl W.heap.size W) _) hb)
  have hw1 : w2.cell? ⟨W.heap.size, 1, none⟩ = some (.slice A2 lw.length c2) := by
    refine (hb.cell (p := ⟨W.heap.size, 1, none⟩) (by simp)).trans ?_
    exact (blk_cell (blk_new W _) 1).trans rfl
  obtain ⟨b0, hb0⟩ : ∃ b0, b0 = (W.alloc (.cells #[.slice A1 l1.length c1, .slice A2 lw.length c2] 25)).heap.size := ⟨_, rfl⟩
  have HB0 : Aside0 (b0 ≤ w2.heap.size ∧ W.heap.size ≤ b0) := ⟨by rw [hb0]; exact hb.size, by rw [hb0]; exact (below_alloc (Below.refl W.heap.size W) _).size⟩
  rw [← hb0] at HR
  clear hR hb hb0 HT
  go_upto_region 4 with ((with_reducible refine gate_builtin (b := .append) (xs := #[.tmp 28, .tmp 30]) rfl ?_); at_builtin; refine Kd.R_append k28 (w0 := w2) b0 rfl (.tmp 28) (.tmp 30) 22 28 (.agg #[.int .i64 0, .int .i64 0, .int .i64 0]) 24 rfl Try.underlying22 info28 rfl (by decide) (by omega) v2 lt (⟨3, 1, 2⟩ : S28) [.int .i64 3, .int .i64 1, .int .i64 2] (fun _ => True) (fun _ => False) rfl (by first | (go_simp; done) | (go_simp; rfl)) ?aP (fun _ hk => hk.elim) (fun _ _ => trivial) ?aO ?aB ?aS ?aL ?_; (case aP => exact k28_mkM _ _ _ (⟨3, 1, 2⟩ : S28)); (case aO => exact HR.out); (case aB => exact Below.refl _ _); (case aS => exact HB0.out.1); (case aL => omega); intro v3 w3 ho hb hg hat; have HO := Aside0.mk ho; have H3 := Aside0.mk (Below.trans (H2.out.mono (Nat.le_refl _)) (hb.mono HB0.out.2)); clear ho hb hg hat)
  obtain ⟨A, c, rfl, hc, hC⟩ := Kd.R_reads HO.out
  have HOKl : Aside0 (∀ x ∈ lt ++ [(⟨3, 1, 2⟩ : S28)], ShOk x) := ⟨fun x hx => by
    rcases List.mem_append.1 hx with h | h
    · exact HOK.out x h
    · rw [List.mem_singleton.1 h]; exact k3_ok⟩
  have hll : (lt ++ [(⟨3, 1, 2⟩ : S28)]).length ≤ 2001 ∧ 0 < (lt ++ [(⟨3, 1, 2⟩ : S28)]).length := by simp; omega
  generalize lt ++ [(⟨3, 1, 2⟩ : S28)] = l at *
  obtain ⟨hlm, hl0⟩ := hll
  have HC := Aside0.mk hC
  have HFi := Aside0.mk (fill.calls l A c w3 hC hc HOKl.out hlm)
  clear hC HO HR HB0 HOK htl hw1 H2
  go_wp2_with fail
  refine HFi.out.mono ?_
  rintro e w4 ⟨g, gw, gf, va, rfl, hfi⟩
  have HSH : Aside0 (∀ i : Nat, i < l.length → ∃ k r s : Nat, l[i]? = some (⟨k, r, s⟩ : S28) ∧ rd_T28 l i = ⟨k, r, s⟩ ∧ 1 ≤ k ∧ k ≤ 255 ∧ r ≤ 24 ∧ s ≤ 24) := ⟨fun i hi => by
    have h1 := rd_get l i hi
    obtain ⟨k, r, s, h2, h3⟩ := sh_nat (HOKl.out _ (List.mem_of_getElem? h1))
    exact ⟨k, r, s, by rw [h1, h2], h2, h3⟩⟩
  have HMem : Aside0 (Mem w3 w4 l g gw gf va (.slice none 0 0) (obsOf l) []) := ⟨by
    refine ⟨hfi.ar, hfi.at_, ?_, by simp, fun j h o h1 _ => by simp at h1, fun i j h h1 _ => by simp at h1, fun h h1 => by simp at h1, fun j k r s h1 => ⟨newOb k r s, ?_, rfl, rfl, by simp [newOb], rfl⟩, fun _ => rfl, hfi.below, hfi.g0, hfi.gw0, hfi.gf0, hfi.v0, fun k hk => by cases hk⟩
    · have : heldV l [] = [] := by unfold heldV; simp
      rw [this]; exact GV.nil _ _
    · unfold obsOf; rw [List.getElem?_map, h1]; simp [obOf]⟩
  clear hfi HFi
  go_wp2_with fail
  go_loopw [8, 9] (fun vh i wr => ∃ hs : List Nat, hs.length ≤ l.length ∧ i = .int .i64 (hs.length : Int) ∧ Aside0 (Mem w3 wr l g gw gf va vh (obsOf l) hs)) (fun _ i _ => l.length - (intOf i).toNat)
  case atStart => exact ⟨[], by simp, rfl, HMem⟩
  case round =>
    obtain ⟨hs, hi, rfl, HM⟩ := hrel
    rename World => wr
    obtain ⟨i, hie⟩ : ∃ i, i = hs.length := ⟨_, rfl⟩
    rw [← hie] at hi
    rw [← hie]
    have HI := Aside0.mk hie
    clear HMem hie
    by_cases hlt : i < l.length
    · have hlt' : (i : Int) < l.length := by omega
      obtain ⟨k, r, s, hx, hrd, h1, h2, h3, h4⟩ := HSH.out i hlt
      obtain ⟨ad, hA, hx0, hx1, hx2⟩ := cells3 (Kd.C_below HC.out HM.out.below) hlt hrd
      subst hA
      have HX := Aside0.mk hx
      obtain ⟨q, hq⟩ : ∃ q, q = r + s := ⟨_, rfl⟩
      have HQ := Aside0.mk hq
      have hmk := make_u64 q (by omega)
      obtain ⟨e1, f1⟩ := NumB.sum_i (r : Int) s q (by omega) (by omega)
      have HRD := Aside0.mk hrd
      clear hx hrd hq
      go_wp2_with fail
      go_region_held3 (fun w' => w'.cell? (ad.add (i * 3)) = some (.int .i64 (k : Int)) ∧ w'.cell? ⟨(ad.add (i * 3)).block, (ad.add (i * 3)).off + 1, none⟩ = some (.int .i64 (r : Int)) ∧ w'.cell? ⟨(ad.add (i * 3)).block, (ad.add (i * 3)).off + 2, none⟩ = some (.int .i64 (s : Int))) (first | exact ⟨hx0, hx1, hx2⟩ | exact HK.out | go_keep) (first | (refine step_gen _ rfl (.tmp 46) (.tmp 59) 33 34 rfl Try.underlying33 (.slice none 0 0) 24 (by kernel_rfl) rfl (by decide) u8 (heldV l hs) rfl ?hv ⟨_, 0, none⟩ (ownV wr.heap.size q) rfl ?hc rfl ?hb ?_; go_must ((case hv => exact HM.out.hv.upd (S := none_) (Upd.of_below (by repeat (first | (with_reducible first | exact Below.refl _ _ | apply below_alloc | apply pw_below_drewN | apply below_drew1) | exact Below.refl _ _))) (fun _ _ h => h))); go_must ((case hc => exact cell_new2 _ _ _ _)); go_must ((case hb => rw [heldV_len l hs (by rw [← HI.out]; exact hi)]; rw [← HI.out]; omega)); intro v7 w7 hv7 ho7 hu7; have R7 := Aside0.mk (And.intro hv7 (And.intro ho7 hu7)); clear hv7 ho7 hu7; have HM7 : Aside0 (Mem w3 w7 l g gw gf va v7 (obsOf l) (hs ++ [wr.heap.size])) := ⟨by have R := R7.out; rw [HQ.out] at R; exact Mem.grow HM.out (by rw [← HI.out]; exact HX.out) (by unfold maxLen; omega) rfl (by repeat (first | (with_reducible first | exact Below.refl _ _ | apply below_alloc | apply pw_below_drewN | apply below_drew1) | exact Below.refl _ _)) R.1 R.2.1 R.2.2⟩; have HK := Aside0.mk (cells3' (Kd.C_below HC.out HM7.out.below) hlt HRD.out)))
      go_wp2_with fail
      go_roundw
      case rel => exact ⟨hs ++ [wr.heap.size], by rw [List.length_append, ← HI.out]; simp; omega, by rw [List.length_append, ← HI.out]; simp, HM7⟩
      case measure => simp [intOf]; omega
    · obtain rfl : i = l.length := by omega
      have HHL : Aside0 (hs.length = l.length) := ⟨HI.out.symm⟩
      obtain ⟨gh, ch, hvh, hch⟩ := HM.out.hv.form (by rw [heldV_len l hs (Nat.le_of_eq HHL.out), HHL.out]; exact hl0)
      rw [heldV_len l hs (Nat.le_of_eq HHL.out), HHL.out] at hvh hch
      subst hvh
      obtain ⟨gp, cp, hva, hcp⟩ := HM.out.at_.form (by simp [placesV]; exact hl0)
      have hpl : (placesV l l.length).length = l.length := by simp [placesV]
      rw [hpl] at hva hcp
      subst hva
      clear hpl hlt HI
      go_wp2_with fail
      go_loopw [10] (fun i wr => ∃ k : Nat, k ≤ lw.length ∧ k ≤ 2000 ∧ i = .int .i64 k ∧ ∃ obs, Aside0 (Mem w3 wr l g gw gf (.slice (some ⟨gp, 0, none⟩) l.length cp) (.slice (some ⟨gh, 0, none⟩) l.length ch) obs hs)) (fun i _ => 2001 - (intOf i).toNat)
      case atStart => exact ⟨0, Nat.zero_le _, Nat.zero_le _, rfl, _, HM⟩
      case round =>
        obtain ⟨i, hi1, hi2, rfl, obs, HM2⟩ := hrel
        clear HM
        rename World => wr2
        by_cases hlt : i < lw.length
        · by_cases hlt2 : i < 2000
          · obtain ⟨x, hx⟩ : ∃ x, lw[i]? = some x := ⟨_, List.getElem?_eq_getElem hlt⟩
            obtain ⟨a, b, v⟩ := x
            obtain ⟨hv0, hv1⟩ := wf_u64 (HWF.out _ (List.mem_of_getElem? hx))
            obtain ⟨V, rfl⟩ := Int.eq_ofNat_of_zero_le hv0
            obtain ⟨ad, hA, hx0, hx1, hx2⟩ := write_at (Kd.C_below HC2.out (below_next H3.out HM2.out.below)) i _ hx
            subst hA
            have HX3 : Aside0 (∀ W2, Below w3.heap.size w3 W2 → W2.cell? (ad.add (i * 3)) = some (.int .i64 a) ∧ W2.cell? ⟨(ad.add (i * 3)).block, (ad.add (i * 3)).off + 1, none⟩ = some (.int .i64 b) ∧ W2.cell? ⟨(ad.add (i * 3)).block, (ad.add (i * 3)).off + 2, none⟩ = some (.int .u64 (V : Int))) := ⟨fun W2 hb => by
              obtain ⟨ad', hA', h0, h1, h2⟩ := write_at (Kd.C_below HC2.out (below_next H3.out hb)) i _ hx
              obtain rfl := Option.some.inj hA'
              exact ⟨h0, h1, h2⟩⟩
            obtain ⟨o, ho, _, HWo⟩ := within_calls a l.length hl0 (by omega)
            obtain ⟨k, r, s, hxo, hrd, h1, h2, h3, h4⟩ := HSH.out o ho
            obtain ⟨ob, hob, ob1, ob2, ob3, ob4⟩ := HM2.out.sh o k r s hxo
            obtain ⟨h, hh⟩ : ∃ h, hs[o]? = some h := ⟨_, List.getElem?_eq_getElem (by rw [HHL.out]; exact ho)⟩
            have hcell := HM2.out.hv.cell o _ (heldV_get l hs o k r s h hxo hh)
            unfold ownV at hcell
            obtain ⟨n, hn⟩ : ∃ n, n = r + s := ⟨_, rfl⟩
            rw [← hn] at hcell ob3
            have hilt : (i : Int) < lw.length := by omega
            have holt : (o : Int) < l.length := by omega
            have HOB := Aside0.mk (And.intro hxo (And.intro hob (And.intro ob1 (And.intro ob2 (And.intro ob3 (And.intro ob4 hh))))))
            have HHW := Aside0.mk HWo
            have HN := Aside0.mk hn
            have hnb : n ≤ 48 := by omega
            have HV1 : Aside0 (V < 18446744073709551616) := ⟨by have h' : (V : Int) < 18446744073709551616 := hv1; omega⟩
            clear hxo hob ob1 ob2 ob3 ob4 hh HWo hx hrd hn hv0 hv1
            go_wp2_with fail
            refine (HHW.out _).mono ?_
            rintro e w5 ⟨rfl, hb⟩
            have HM5 := Aside0.mk (HM2.out.move hb)
            have hcell5 := (hb.cell (p := ⟨gh, o, none⟩) (World.block_lt_of_cell? _ _ hcell)).trans hcell
            clear hb hcell hx0 hx1 hx2 HHW
            obtain ⟨hx0, hx1, hx2⟩ := HX3.out w5 HM5.out.below
            by_cases hn0 : n = 0
            · have hn0' : ((n : Int) == 0) = true := by rw [hn0]; rfl
              go_wp2_with fail
              go_roundw
              case rel => exact ⟨i + 1, by omega, by omega, by go_num, obs, HM5⟩
              case measure => simp [intOf]; omega
            · have hn0' : ((n : Int) == 0) = false := by simp; exact hn0
              obtain ⟨f, hf, _, HWf⟩ := within_calls b n (by omega) (by omega)
              have HHW := Aside0.mk HWf
              have hnf : (f : Int) < n := by omega
              clear HWf
              go_wp2_with fail
              refine (HHW.out _).mono ?_
              rintro e w6 ⟨rfl, hb⟩
              have HM6 := Aside0.mk (HM5.out.move hb)
              have hcell6 := (hb.cell (p := ⟨gh, o, none⟩) (World.block_lt_of_cell? _ _ hcell5)).trans hcell5
              clear hb hcell5 hx0 hx1 hx2 HHW
              obtain ⟨hx0, hx1, hx2⟩ := HX3.out w6 HM6.out.below
              have hpc := HM6.out.at_.cell o _ (placesV_get l l.length o ho)
              obtain ⟨p, hp⟩ : ∃ p, p = place (obsOf l) o := ⟨_, rfl⟩
              rw [← hp] at hpc
              have HSet := Aside0.mk (fun W2 (hA : ArAt W2 g gw gf (used (obsOf l)) obs) => set_yes hA HOB.out.2.1 HOB.out.2.2.2.2.2.1 f V (by rw [HOB.out.2.2.2.2.1]; omega) HV1.out p (by rw [hp]; exact (HM6.out.pl o).symm))
              have HP := Aside0.mk hp
              clear hp
              go_wp2_with fail
              go_region_held3 (fun w' => w'.cell? ⟨gp, o, none⟩ = some (.int .i64 (p : Int)) ∧ w'.cell? ⟨(ad.add (i * 3)).block, (ad.add (i * 3)).off + 2, none⟩ = some (.int .u64 (V : Int))) (first | exact ⟨hpc, hx2⟩ | exact HK.out | go_keep) (first | (go_at_call 13; refine (HSet.out _ (HM6.out.ar.below (Below.refl w6.heap.size w6).drew)).mono ?_; rintro e w7 ⟨rfl, hA7, hu7⟩; have HA7 := Aside0.mk hA7; have HU7 : Aside0 (Upd (fun b => b = gw) w6 w7) := ⟨((Upd.refl (fun b => b = gw) w6).drew).trans hu7⟩; clear hA7 hu7; have HB7 : Aside0 (Below w3.heap.size w3 w7) := ⟨Upd.to_below HM6.out.below HU7.out HM6.out.below.size (fun j hj => by rw [hj]; exact HM6.out.gw0)⟩; have HK : Aside0 (w7.cell? ⟨gp, o, none⟩ = some (.int .i64 (p : Int)) ∧ w7.cell? ⟨(ad.add (i * 3)).block, (ad.add (i * 3)).off + 2, none⟩ = some (.int .u64 (V : Int))) := ⟨(HM6.out.at_.upd HU7.out (fun k hk hg => gv_not_ar HM6.out.at_ HM6.out.ar (by decide) (by decide) k hk (.inr (.inl hg)))).cell o _ (by rw [HP.out]; exact placesV_get l l.length o ho), (HX3.out w7 HB7.out).2.2⟩))
              clear hx0 hx1 hx2 hpc hcell6
              obtain ⟨hx0, hx1, hx2⟩ := HX3.out w7 HB7.out
              have hcell7 := (HM6.out.hv.upd HU7.out (fun k hk hg => gv_not_ar HM6.out.hv HM6.out.ar (by decide) (by decide) k hk (.inr (.inl hg)))).cell o _ (heldV_get l hs o k r s h HOB.out.1 HOB.out.2.2.2.2.2.2)
              unfold ownV at hcell7
              rw [← HN.out] at hcell7
              have HW7 := Aside0.mk ((HM6.out.ws o h ob HOB.out.2.2.2.2.2.2 HOB.out.2.1).upd HU7.out (HM6.out.nw h (List.mem_of_getElem? HOB.out.2.2.2.2.2.2)).1)
              obtain ⟨x0, hx0'⟩ : ∃ x0, ob.fields[f]? = some x0 := ⟨_, List.getElem?_eq_getElem (by rw [HOB.out.2.2.2.2.1]; exact hf)⟩
              have hcf := HW7.out.get f x0 hx0'
              have hff := HW7.out.frozen f
              have HPut := Aside0.mk (HM6.out.put HOB.out.2.2.2.2.2.2 HOB.out.2.1 (f := f) (x := V) (by rw [HOB.out.2.2.2.2.1]; exact hf) HV1.out (HA7.out.below (Below.refl w7.heap.size w7).drew) HU7.out.drew)
              clear hx0'
              go_wp2_with fail
              refine (num.calls _ _).mono ?_
              rintro e w8 ⟨rfl, rfl⟩
              go_wp2_with fail
              go_still_tail 11, (by kernel_rfl)
              change wpList _ _ _ _ _ w8.drew
              go_wp2_with fail
              go_roundw
              case rel => exact ⟨i + 1, by omega, by omega, by go_num, _, HPut⟩
              case measure => simp [intOf]; omega
          · clear hi1 hi2
            go_wp2_with fail
            go_loopw [15] (fun i wr => ∃ k : Nat, k ≤ l.length ∧ i = .int .i64 k ∧ Aside0 (Mem w3 wr l g gw gf (.slice (some ⟨gp, 0, none⟩) l.length cp) (.slice (some ⟨gh, 0, none⟩) l.length ch) obs hs)) (fun i _ => l.length - (intOf i).toNat)
            case atStart => exact ⟨0, Nat.zero_le _, rfl, HM2⟩
            case round =>
              obtain ⟨j, hj, rfl, HM3⟩ := hrel
              clear HM2
              rename World => wr3
              by_cases hjl : j < l.length
              · obtain ⟨k, r, s, hxo, hrd, h1, h2, h3, h4⟩ := HSH.out j hjl
                obtain ⟨ob, hob, ob1, ob2, ob3, ob4⟩ := HM3.out.sh j k r s hxo
                obtain ⟨h, hh⟩ : ∃ h, hs[j]? = some h := ⟨_, List.getElem?_eq_getElem (by rw [HHL.out]; exact hjl)⟩
                have HCE : Aside0 (∀ W2, Mem w3 W2 l g gw gf (.slice (some ⟨gp, 0, none⟩) l.length cp) (.slice (some ⟨gh, 0, none⟩) l.length ch) obs hs → W2.cell? ⟨gh, j, none⟩ = some (.slice (some ⟨h, 0, none⟩) (r + s) (r + s)) ∧ W2.cell? ⟨gp, j, none⟩ = some (.int .i64 (place (obsOf l) j : Int)) ∧ WordsAt W2 h (r + s) ob.fields) := ⟨fun W2 hM => ⟨hM.hv.cell j _ (heldV_get l hs j k r s h hxo hh), hM.at_.cell j _ (placesV_get l l.length j hjl), by have := hM.ws j h ob hh hob; rw [ob3] at this; exact this⟩⟩
                obtain ⟨n, hn⟩ : ∃ n, n = r + s := ⟨_, rfl⟩
                obtain ⟨p, hp⟩ : ∃ p, p = place (obsOf l) j := ⟨_, rfl⟩
                rw [← hn, ← hp] at HCE
                obtain ⟨ad, hA, hx0, hx1, hx2⟩ := cells3 (Kd.C_below HC.out HM3.out.below) hjl hrd
                subst hA
                have HX3 : Aside0 (∀ W2, Below w3.heap.size w3 W2 → Cells3 W2 ad j k r s) := ⟨fun W2 hb => cells3' (Kd.C_below HC.out hb) hjl hrd⟩
                have HObj := Aside0.mk (fun W2 (hA : ArAt W2 g gw gf (used (obsOf l)) obs) => object_yes hA hob ob4 p (by rw [hp]; exact (HM3.out.pl j).symm) k r s ob1 ob2 ob3)
                have HGet := Aside0.mk (fun W2 (hA : ArAt W2 g gw gf (used (obsOf l)) obs) (f x : Nat) (hx : ob.fields[f]? = some x) => get_yes hA hob ob4 f x hx p (by rw [hp]; exact (HM3.out.pl j).symm))
                have HFL : Aside0 (ob.fields.length = n) := ⟨by rw [hn]; exact ob3⟩
                have hnb : n ≤ 48 := by omega
                have hjlt : (j : Int) < l.length := by omega
                obtain ⟨hcell, hpc, hwd⟩ := HCE.out _ HM3.out
                have HWD := Aside0.mk hwd
                clear hxo hrd hob ob1 ob2 ob3 ob4 hh hn hp hwd hx0 hx1 hx2
                go_wp2_with fail
                refine (HObj.out _ HM3.out.ar).mono ?_
                rintro e w5 ⟨rfl, hb⟩
                have HM5 := Aside0.mk (HM3.out.move hb)
                clear hb hcell hpc HWD HObj
                obtain ⟨hx0, hx1, hx2⟩ := HX3.out w5 HM5.out.below
                go_wp2_with fail
                refine (num.calls _ _).mono ?_
                rintro e w6 ⟨rfl, rfl⟩
                go_wp2_with fail
                clear hx0 hx1 hx2
                go_loopw [20] (fun i wr => ∃ f : Nat, f ≤ n ∧ i = .int .i64 f ∧ Aside0 (Mem w3 wr l g gw gf (.slice (some ⟨gp, 0, none⟩) l.length cp) (.slice (some ⟨gh, 0, none⟩) l.length ch) obs hs)) (fun i _ => n - (intOf i).toNat)
                case atStart => exact ⟨0, Nat.zero_le _, rfl, HM5⟩
                case round =>
                  obtain ⟨f, hf, rfl, HM6⟩ := hrel
                  clear HM5
                  rename World => wr6
                  obtain ⟨hcell, hpc, hwd⟩ := HCE.out _ HM6.out
                  have HWD := Aside0.mk hwd
                  clear hwd
                  by_cases hfn : f < n
                  · obtain ⟨x, hx⟩ : ∃ x, ob.fields[f]? = some x := ⟨_, List.getElem?_eq_getElem (by rw [HFL.out]; exact hfn)⟩
                    have HG := Aside0.mk (fun W2 hA => HGet.out W2 hA f x hx)
                    have HX := Aside0.mk hx
                    have hfn' : (f : Int) < n := by omega
                    clear hx
                    go_wp2_with fail
                    refine (HG.out _ HM6.out.ar).mono ?_
                    rintro e w7 ⟨rfl, hb⟩
                    have HM7 := Aside0.mk (HM6.out.move hb)
                    clear hb hcell hpc HWD HG
                    obtain ⟨hcell, hpc, hwd⟩ := HCE.out _ HM7.out
                    have hcx := hwd.get f x HX.out
                    clear hwd
                    go_wp2_with fail
                    refine (num.calls _ _).mono ?_
                    rintro e w8 ⟨rfl, rfl⟩
                    go_wp2_with fail
                    go_roundw
                    case rel => exact ⟨f + 1, by omega, by go_num, HM7⟩
                    case measure => simp [intOf]; omega
                  · go_wp2_with fail
                    go_roundw
                    case rel => exact ⟨j + 1, by omega, by go_num, HM6⟩
                    case measure => simp [intOf]; omega
              · go_wp2_with fail
                go_ret
                exact ⟨rfl, below_next H3.out HM3.out.below⟩
        · clear hi1 hi2
          go_wp2_with fail
          go_loopw [15] (fun i wr => ∃ k : Nat, k ≤ l.length ∧ i = .int .i64 k ∧ Aside0 (Mem w3 wr l g gw gf (.slice (some ⟨gp, 0, none⟩) l.length cp) (.slice (some ⟨gh, 0, none⟩) l.length ch) obs hs)) (fun i _ => l.length - (intOf i).toNat)
          case atStart => exact ⟨0, Nat.zero_le _, rfl, HM2⟩
          case round =>
            obtain ⟨j, hj, rfl, HM3⟩ := hrel
            clear HM2
            rename World => wr3
            by_cases hjl : j < l.length
            · obtain ⟨k, r, s, hxo, hrd, h1, h2, h3, h4⟩ := HSH.out j hjl
              obtain ⟨ob, hob, ob1, ob2, ob3, ob4⟩ := HM3.out.sh j k r s hxo
              obtain ⟨h, hh⟩ : ∃ h, hs[j]? = some h := ⟨_, List.getElem?_eq_getElem (by rw [HHL.out]; exact hjl)⟩
              have HCE : Aside0 (∀ W2, Mem w3 W2 l g gw gf (.slice (some ⟨gp, 0, none⟩) l.length cp) (.slice (some ⟨gh, 0, none⟩) l.length ch) obs hs → W2.cell? ⟨gh, j, none⟩ = some (.slice (some ⟨h, 0, none⟩) (r + s) (r + s)) ∧ W2.cell? ⟨gp, j, none⟩ = some (.int .i64 (place (obsOf l) j : Int)) ∧ WordsAt W2 h (r + s) ob.fields) := ⟨fun W2 hM => ⟨hM.hv.cell j _ (heldV_get l hs j k r s h hxo hh), hM.at_.cell j _ (placesV_get l l.length j hjl), by have := hM.ws j h ob hh hob; rw [ob3] at this; exact this⟩⟩
              obtain ⟨n, hn⟩ : ∃ n, n = r + s := ⟨_, rfl⟩
              obtain ⟨p, hp⟩ : ∃ p, p = place (obsOf l) j := ⟨_, rfl⟩
              rw [← hn, ← hp] at HCE
              obtain ⟨ad, hA, hx0, hx1, hx2⟩ := cells3 (Kd.C_below HC.out HM3.out.below) hjl hrd
              subst hA
              have HX3 : Aside0 (∀ W2, Below w3.heap.size w3 W2 → Cells3 W2 ad j k r s) := ⟨fun W2 hb => cells3' (Kd.C_below HC.out hb) hjl hrd⟩
              have HObj := Aside0.mk (fun W2 (hA : ArAt W2 g gw gf (used (obsOf l)) obs) => object_yes hA hob ob4 p (by rw [hp]; exact (HM3.out.pl j).symm) k r s ob1 ob2 ob3)
              have HGet := Aside0.mk (fun W2 (hA : ArAt W2 g gw gf (used (obsOf l)) obs) (f x : Nat) (hx : ob.fields[f]? = some x) => get_yes hA hob ob4 f x hx p (by rw [hp]; exact (HM3.out.pl j).symm))
              have HFL : Aside0 (ob.fields.length = n) := ⟨by rw [hn]; exact ob3⟩
              have hnb : n ≤ 48 := by omega
              have hjlt : (j : Int) < l.length := by omega
              obtain ⟨hcell, hpc, hwd⟩ := HCE.out _ HM3.out
              have HWD := Aside0.mk hwd
              clear hxo hrd hob ob1 ob2 ob3 ob4 hh hn hp hwd hx0 hx1 hx2
              go_wp2_with fail
              refine (HObj.out _ HM3.out.ar).mono ?_
              rintro e w5 ⟨rfl, hb⟩
              have HM5 := Aside0.mk (HM3.out.move hb)
              clear hb hcell hpc HWD HObj
              obtain ⟨hx0, hx1, hx2⟩ := HX3.out w5 HM5.out.below
              go_wp2_with fail
              refine (num.calls _ _).mono ?_
              rintro e w6 ⟨rfl, rfl⟩
              go_wp2_with fail
              clear hx0 hx1 hx2
              go_loopw [20] (fun i wr => ∃ f : Nat, f ≤ n ∧ i = .int .i64 f ∧ Aside0 (Mem w3 wr l g gw gf (.slice (some ⟨gp, 0, none⟩) l.length cp) (.slice (some ⟨gh, 0, none⟩) l.length ch) obs hs)) (fun i _ => n - (intOf i).toNat)
              case atStart => exact ⟨0, Nat.zero_le _, rfl, HM5⟩
              case round =>
                obtain ⟨f, hf, rfl, HM6⟩ := hrel
                clear HM5
                rename World => wr6
                obtain ⟨hcell, hpc, hwd⟩ := HCE.out _ HM6.out
                have HWD := Aside0.mk hwd
                clear hwd
                by_cases hfn : f < n
                · obtain ⟨x, hx⟩ : ∃ x, ob.fields[f]? = some x := ⟨_, List.getElem?_eq_getElem (by rw [HFL.out]; exact hfn)⟩
                  have HG := Aside0.mk (fun W2 hA => HGet.out W2 hA f x hx)
                  have HX := Aside0.mk hx
                  have hfn' : (f : Int) < n := by omega
                  clear hx
                  go_wp2_with fail
                  refine (HG.out _ HM6.out.ar).mono ?_
                  rintro e w7 ⟨rfl, hb⟩
                  have HM7 := Aside0.mk (HM6.out.move hb)
                  clear hb hcell hpc HWD HG
                  obtain ⟨hcell, hpc, hwd⟩ := HCE.out _ HM7.out
                  have hcx := hwd.get f x HX.out
                  clear hwd
                  go_wp2_with fail
                  refine (num.calls _ _).mono ?_
                  rintro e w8 ⟨rfl, rfl⟩
                  go_wp2_with fail
                  go_roundw
                  case rel => exact ⟨f + 1, by omega, by go_num, HM7⟩
                  case measure => simp [intOf]; omega
                · go_wp2_with fail
                  go_roundw
                  case rel => exact ⟨j + 1, by omega, by go_num, HM6⟩
                  case measure => simp [intOf]; omega
            · go_wp2_with fail
              go_ret
              exact ⟨rfl, below_next H3.out HM3.out.below⟩
end Go.Proofs.Ytgjcffjicbmkhaa.MemW
