/- Book.Words walked. -/
import Derived.Test.YtgngpbcbnfmoiaaBokB
namespace Go.Proofs.Ytgngpbcbnfmoiaa.BokD
open Go Go.RowKit Go.Proofs.YtgngpbcbnfmoiaaW.PrintWords Go.Proofs.YtgngpbcbnfmoiaaW.PrintLast Go.Proofs.YtgngpbcbnfmoiaaW.PrintMore Go.Proofs.Ytgngpbcbnfmoiaa.PF Go.Proofs.Ytgngpbcbnfmoiaa.RowU Go.Proofs.Ytgngpbcbnfmoiaa.ArS Go.Proofs.Ytgngpbcbnfmoiaa.ArM Go.Proofs.Ytgngpbcbnfmoiaa.GenM Go.Proofs.Ytgngpbcbnfmoiaa.GenN Go.Proofs.Ytgngpbcbnfmoiaa.BokA Go.Proofs.Ytgngpbcbnfmoiaa.BokT Go.Proofs.Ytgngpbcbnfmoiaa.BokB
set_option linter.unusedVariables false
set_option maxRecDepth 100000
set_option maxHeartbeats 8000000 in
theorem words.calls {W : World} {g off : Nat} {ow : Own} {vB vBo : Value} {eB : List Ent} {aB : Nat} {vW vWo : Value} {eW : List Ent} {aW turn done used : Nat} (h : Bk W g off ow vB vBo eB aB vW vWo eW aW turn done used)
    (A : Option Addr) (n cp : Nat) (l : List Value) (hv : GV 23 W (.slice A n cp) l) (hl : l.length ≤ 200000000000000) (hvn : ∀ b, (Value.slice A n cp).ownBlock = some b → ow b = none ∧ b ≠ g) (ht : turn < 1000000000000000) :
    Calls Try.prog 49 #[.pointer (some ⟨g, off, none⟩), .slice A n cp] W fun e w' => e = .returned (.tuple #[]) ∧ ∃ ow' vW' vWo' eW' used', Bk w' g off ow' vB vBo eB aB vW' vWo' eW' aW (turn + 1) done used' ∧ BkS W w' g off ow ow' (vB_ (.slice A n cp)) := by
  have hnl : n = l.length := by
    rcases hv with ⟨h1, h2⟩ | ⟨g', c', h1, h2⟩
    · simp only [Value.slice.injEq] at h1; rw [h2]; exact h1.2.1
    · simp only [Value.slice.injEq] at h1; exact h1.2.1
  have HB := Aside0.mk h
  have HV := Aside0.mk hv
  have HVN := Aside0.mk hvn
  have HN := Aside0.mk hnl
  have hx30 := h.hd.cell 30 (by omega)
  rw [show bkC vB vBo aB vW vWo aW turn done used 30 = .int .i64 (turn : Int) from rfl] at hx30
  obtain ⟨cur, T, hbk⟩ := h.hd.blk
  have hfz := blk_frozen hbk (off + 30)
  obtain ⟨m, hm⟩ : ∃ m, m = turn + 1 := ⟨_, rfl⟩
  have HM := Aside0.mk hm
  have hm15 : m ≤ 1000000000000000 := by omega
  have HE := Aside0.mk (NumB.sum_i (turn : Int) 1 m (by omega) (by omega))
  have hn14 : n ≤ 200000000000000 := by omega
  clear h hv hvn hm hnl
  go_enter Try.func49, Try.ntmps49
  obtain ⟨e1, f1⟩ := HE.out
  go_upto_region 1 with fail
  clear e1 f1 hfz hbk
  have HF0 : Aside0 (Fl W (W.setCell ⟨g, off + 30, none⟩ (.int .i64 (m : Int))) g off (.slice A n cp) elW 23 l m 0 (bkC vB vBo aB vW vWo aW m done used)) := ⟨Fl.start HB.out.hd HV.out (fun hb => (HVN.out g hb).2 rfl) 30 (by omega) (fun i hi => by
    unfold putC bkC
    by_cases h1 : i = 30
    · subst h1; simp
    · simp [h1])⟩
  generalize W.setCell ⟨g, off + 30, none⟩ (.int .i64 (m : Int)) = w1 at *
  clear hx30
  have hx30 := HF0.out.hd.cell 30 (by omega)
  rw [show bkC vB vBo aB vW vWo aW m done used 30 = .int .i64 (m : Int) from rfl] at hx30
  have HWM := Aside0.mk (wm_all m hm15 w1)
  go_wp2_with fail
  refine HWM.out.mono ?_
  rintro e w1' ⟨rfl, hb⟩
  have HF1 := Aside0.mk (HF0.out.move hb)
  clear hb HWM HF0 hx30
  go_wp2_with fail
  go_loopw [6] (fun i wr => ∃ k : Nat, k ≤ n ∧ i = .int .i64 k ∧ Aside0 (Fl W wr g off (.slice A n cp) elW 23 l m k (bkC vB vBo aB vW vWo aW m done used))) (fun i _ => n - (intOf i).toNat)
  case atStart => exact ⟨0, by omega, rfl, HF1⟩
  case round =>
    obtain ⟨k, hk, rfl, HF⟩ := hrel
    clear HF1
    rename World => wr
    by_cases hlt : k < n
    · have hlt' : (k : Int) < n := by omega
      have hk0 : (0 : Int) ≤ (k : Int) := by omega
      obtain ⟨gv, rfl⟩ : ∃ gv, A = some ⟨gv, 0, none⟩ := by
        rcases HF.out.gv with ⟨h1, _⟩ | ⟨g', c', h1, _⟩
        · simp only [Value.slice.injEq] at h1; omega
        · simp only [Value.slice.injEq] at h1; exact ⟨g', h1.1⟩
      obtain ⟨hg1, hn1⟩ := GenAt.of_gv HF.out.gv
      obtain ⟨old, hold⟩ : ∃ old, (half elW m l k)[k]? = some old := ⟨_, List.getElem?_eq_getElem (by omega)⟩
      have hkk := hg1.get k old hold
      have hfz := gen_frozen hg1 k
      have hbk : ∃ cur : List Value, wr.heap[gv]? = some (.cells cur.toArray 23 (0, 0)) := by
        obtain ⟨cur, q1, _⟩ := hg1
        exact ⟨cur, q1⟩
      obtain ⟨cur, hbk⟩ := hbk
      clear hg1 hn1 hold
      have HF3 := Aside0.mk (HF.out.set (by rw [← HN.out]; exact hlt) (HVN.out gv rfl).2)
      unfold elW at HF3
      go_wp2_with fail
      exact ⟨⟨k + 1, by omega, by rw [Int.natCast_succ], HF3⟩, by simp only [intOf]; omega⟩
    · obtain rfl : k = n := by omega
      have HFu : Aside0 (Full W wr g off ow (.slice A k cp) elW 23 k m (bkC vB vBo aB vW vWo aW m done used)) := ⟨by have := HF.out; rw [HN.out] at this ⊢; exact this.full⟩
      obtain ⟨z1, hz1⟩ : ∃ z1, z1 = 300 * k := ⟨_, rfl⟩
      obtain ⟨z2, hz2⟩ : ∃ z2, z2 = 8000 + z1 := ⟨_, rfl⟩
      have HEs := Aside0.mk (And.intro (NumB.mul_i (300 : Int) k z1 (by omega) (by omega)) (NumB.sum_i (8000 : Int) z1 z2 (by omega) (by omega)))
      have HTi := Aside0.mk (tight.calls wr g off _ used z2 HFu.out.hd rfl HB.out.us (by omega))
      have HZ := Aside0.mk (And.intro hz1 hz2)
      clear hz1 hz2 HF hlt
      obtain ⟨⟨e1, f1⟩, e2, f2⟩ := HEs.out
      go_wp2_with fail
      clear e1 f1 e2 f2
      refine HTi.out.mono ?_
      rintro e w5 (⟨rfl, rfl⟩ | ⟨rfl, hfit, hw5⟩)
      · have HE := Aside0.mk (full_end HB.out HVN.out (by rw [← HM.out]; exact HFu.out))
        clear HTi
        go_wp2_with fail
        (try simp only [Exit.inBlock, Exit.then])
        refine bodyPost_ret (results_none rfl _ _ _) rfl ?_
        exact ⟨rfl, ow, vW, vWo, eW, used, HE.out.1, HE.out.2⟩
      · obtain ⟨used', hus⟩ : ∃ u, u = used + z2 := ⟨_, rfl⟩
        rw [← hus] at hfit hw5
        have HF5 : Aside0 (Full W w5 g off ow (.slice A k cp) elW 23 k m (bkC vB vBo aB vW vWo aW m done used')) := ⟨by
          rw [hw5]
          refine HFu.out.put (fun hb => (HVN.out g hb).2 rfl) 32 (by omega) _ (fun i hi => ?_)
          unfold putC bkC
          by_cases h1 : i = 32
          · subst h1; simp
          · simp [h1]⟩
        have HU5 : Aside0 (used + 1200 ≤ used' ∧ used' ≤ 16777216 ∧ k ≤ 5900000) := ⟨by have := HZ.out; omega, hfit, by have := HZ.out; omega⟩
        have HT5 : Aside0 (Tb 2 43 23 elW w5 ow vW vWo eW aW used ∧ eW.length ≤ 140000) := ⟨by
          have hnS : ∀ b t, ow b = some t → ¬ (b = g ∨ (Value.slice A k cp).ownBlock = some b) := by
            rintro b t hb (rfl | h1)
            · rw [HB.out.ng] at hb; cases hb
            · rw [(HVN.out b h1).1] at hb; cases hb
          exact HB.out.tW.move HF5.out.upd (fun b t hb => hnS b _ hb) (Own.le.refl _) (Nat.le_refl _), cnt_fit HB.out.tW HB.out.us⟩
        clear hus hw5 hfit HFu HTi HZ
        have hx0 : w5.cell? ⟨g, off + 6, none⟩ = some vW := HF5.out.hd.cell 6 (by omega)
        go_upto_region 9 with ((with_reducible refine gate_builtin (b := .append) (xs := #[.tmp 40, .tmp 42]) rfl ?_); at_builtin; refine wpList_gen2 _ rfl (.tmp 40) (.tmp 42) 54 43 rfl Try.underlying54 (.slice none 0 0) 24 (by kernel_rfl) rfl (by decide) vW (vsOf eW) rfl ?hv ⟨w5.heap.size, 0, none⟩ (.slice A k cp) rfl ?hc rfl ?hb ?_; (case hv => exact HT5.out.1.tab.upd (S := none_) (Upd.of_below (below_alloc (Below.refl _ _) _)) (fun _ _ h => h)); (case hc => exact cell_one_new _ _ _ 0 _ rfl); (case hb => rw [vsOf_len]; have := HT5.out.2; omega); intro v7 w7 hr7; obtain ⟨g7, c7, rfl⟩ := hr7.form; have R7 := Aside0.mk hr7; clear hr7 hx0; have H7 : Aside0 (Hd w7 g off (bkC vB vBo aB vW vWo aW m done used')) := ⟨hd_grew (Tt := 0) (Te := 0) (el := elB) HF5.out.hd HB.out.ng HB.out.tW.tabT (below_alloc (Below.refl _ _) _) R7.out⟩; have hx0 : w7.cell? ⟨g, off + 6, none⟩ = some vW := H7.out.cell 6 (by omega); obtain ⟨cur7, T7, hbk⟩ := H7.out.blk; have hfz := blk_frozen hbk (off + 6))
        clear hbk hfz hx0
        obtain ⟨w8, hw8⟩ : ∃ w8, w8 = w7.setCell ⟨g, off + 6, none⟩ (.slice (some ⟨g7, 0, none⟩) ((vsOf eW).length + 1) c7) := ⟨_, rfl⟩
        rw [← hw8]
        have H8 : Aside0 (Hd w8 g off (putC (bkC vB vBo aB vW vWo aW m done used') 6 (.slice (some ⟨g7, 0, none⟩) ((vsOf eW).length + 1) c7))) := ⟨by rw [hw8]; exact H7.out.put 6 (by omega) _⟩
        have HO8 : Aside0 (GV 3 w8 vWo (msOf eW)) := ⟨by
          have u : Upd (fun b => vW.ownBlock = some b ∨ b = g) w5 w8 := by
            rw [hw8]
            exact ((Upd.of_below (below_alloc (Below.refl _ _) _)).trans (R7.out.upd.mono (fun b hb => .inl hb))).trans ((put_upd _ _ _ _).mono (fun b hb => .inr hb))
          refine HT5.out.1.of_.upd u (fun b hb => ?_)
          have h1 := HT5.out.1.ofT b hb
          rintro (h2 | rfl)
          · have h3 := HT5.out.1.tabT b h2
            rw [h1] at h3; simp at h3
          · rw [HB.out.ng] at h1; cases h1⟩
        have HW8 := Aside0.mk hw8
        clear hw8
        have hx1 : w8.cell? ⟨g, off + 7, none⟩ = some vWo := H8.out.cell 7 (by omega)
        go_upto_region 99 with ((with_reducible refine gate_builtin (b := .append) (xs := #[.tmp 50, .tmp 52]) rfl ?_); at_builtin; refine wpList_gen2 _ rfl (.tmp 50) (.tmp 52) 52 3 rfl Try.underlying52 (.int .i64 0) 8 (by kernel_rfl) rfl (by decide) vWo (msOf eW) rfl ?hv ⟨w8.heap.size, 0, none⟩ (.int .i64 (m : Int)) rfl ?hc rfl ?hb ?_; (case hv => exact HO8.out.upd (S := none_) (Upd.of_below (below_alloc (Below.refl _ _) _)) (fun _ _ h => h)); (case hc => exact cell_one_new _ _ _ 0 _ rfl); (case hb => rw [msOf_len]; have := HT5.out.2; omega); intro v9 w9 hr9; obtain ⟨g9, c9, rfl⟩ := hr9.form; have R9 := Aside0.mk hr9; clear hr9 hx1; have H9 : Aside0 (Hd w9 g off (putC (bkC vB vBo aB vW vWo aW m done used') 6 (.slice (some ⟨g7, 0, none⟩) ((vsOf eW).length + 1) c7))) := ⟨hd_grew (Tt := 0) (Te := 0) (el := elB) H8.out HB.out.ng HB.out.tW.ofT (below_alloc (Below.refl _ _) _) R9.out⟩; have hx1 : w9.cell? ⟨g, off + 7, none⟩ = some vWo := H9.out.cell 7 (by omega); obtain ⟨cur9, T9, hbk⟩ := H9.out.blk; have hfz := blk_frozen hbk (off + 7))
        clear hbk hfz hx1
        have hm2 := HM.out
        subst hm2
        go_end0
        obtain ⟨ow', h1, h2⟩ := words_end HB.out HVN.out HU5.out.2.2 ht HU5.out.1 HU5.out.2.1 HF5.out (below_alloc (Below.refl _ _) _) R7.out HW8.out (below_alloc (Below.refl _ _) _) R9.out rfl
        exact ⟨rfl, ow', _, _, _, _, h1, h2⟩
end Go.Proofs.Ytgngpbcbnfmoiaa.BokD
