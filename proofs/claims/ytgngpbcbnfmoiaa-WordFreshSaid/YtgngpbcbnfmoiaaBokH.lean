/- Book.growBytes walked. -/
import Derived.Test.YtgngpbcbnfmoiaaBokS
namespace Go.Proofs.Ytgngpbcbnfmoiaa.BokH
open Go Go.RowKit Go.Proofs.YtgngpbcbnfmoiaaW.PrintWords Go.Proofs.YtgngpbcbnfmoiaaW.PrintLast Go.Proofs.YtgngpbcbnfmoiaaW.PrintMore Go.Proofs.Ytgngpbcbnfmoiaa.PF Go.Proofs.Ytgngpbcbnfmoiaa.RowU Go.Proofs.Ytgngpbcbnfmoiaa.ArS Go.Proofs.Ytgngpbcbnfmoiaa.ArM Go.Proofs.Ytgngpbcbnfmoiaa.GenM Go.Proofs.Ytgngpbcbnfmoiaa.GenN Go.Proofs.Ytgngpbcbnfmoiaa.BokA Go.Proofs.Ytgngpbcbnfmoiaa.BokT Go.Proofs.Ytgngpbcbnfmoiaa.BokB Go.Proofs.Ytgngpbcbnfmoiaa.BokE Go.Proofs.Ytgngpbcbnfmoiaa.BokG Go.Proofs.Ytgngpbcbnfmoiaa.BokS
set_option linter.unusedVariables false
set_option maxRecDepth 100000
def othW (vW vWo : Value) (eW : List Ent) (aW U : Nat) : World → Own → Prop := fun w ow => Tb 2 43 23 elW w ow vW vWo eW aW U
theorem othW_ok (vW vWo : Value) (eW : List Ent) (aW U : Nat) : OthOk 0 (othW vW vWo eW aW U) := oth_W vW vWo eW aW U
set_option maxHeartbeats 8000000 in
theorem growBytes.calls {W : World} {g off : Nat} {ow : Own} {vB vBo : Value} {eB : List Ent} {aB : Nat} {vW vWo : Value} {eW : List Ent} {aW turn done used : Nat} (h : Bk W g off ow vB vBo eB aB vW vWo eW aW turn done used) :
    Calls Try.prog 75 #[.pointer (some ⟨g, off, none⟩)] W fun e w' => e = .returned (.tuple #[]) ∧ ∃ ow' vB' vBo' eB', Bk w' g off ow' vB' vBo' eB' eB'.length vW vWo eW aW turn done used ∧ BkS W w' g off ow ow' nix := by
  have HG0 : Aside0 (Gs 0 (othW vW vWo eW aW used) W W g off ow ow (bkC vB vBo aB vW vWo aW turn done used) ∧ Tg 0 22 5 elB W ow vB vBo eB eB.length aB used) := ⟨⟨h.hd, h.tW, h.lt, h.ng, BkS.refl _ _ _ _ _⟩, Tg.start h.tB⟩
  have HUS := Aside0.mk h.us
  obtain ⟨A0, c0, hvB⟩ := h.tB.tab.slice
  rw [vsOf_len] at hvB
  have HL : Aside0 (eB.length ≤ 140000) := ⟨cnt_fit h.tB h.us⟩
  have hlen := HL.out
  obtain ⟨N0, hN0⟩ : ∃ N0, N0 = eB.length := ⟨_, rfl⟩
  rw [← hN0] at hvB HG0 hlen
  have haN : aB ≤ N0 := by rw [hN0]; exact h.tB.al
  subst hvB
  have hx0 : W.cell? ⟨g, off, none⟩ = some (.slice A0 N0 c0) := h.hd.cell 0 (by omega)
  have hx2 : W.cell? ⟨g, off + 2, none⟩ = some (.int .i64 (aB : Int)) := h.hd.cell 2 (by omega)
  clear h hN0 HL
  go_enter Try.func75, Try.ntmps75
  go_wp2_with fail
  clear hx0 hx2
  go_loopw [3] (fun i wr => ∃ (k : Nat) (ow1 : Own) (v1 vo1 : Value) (es : List Ent), k ≤ N0 ∧ i = .int .i64 k ∧ Aside0 (Gs 0 (othW vW vWo eW aW used) W wr g off ow ow1 (bkC v1 vo1 aB vW vWo aW turn done used) ∧ Tg 0 22 5 elB wr ow1 v1 vo1 es N0 k used)) (fun i _ => N0 - (intOf i).toNat)
  case atStart => exact ⟨aB, ow, _, vBo, eB, haN, rfl, HG0⟩
  case round =>
    obtain ⟨i, ow1, v1, vo1, es, hi, rfl, HG⟩ := hrel
    clear HG0
    rename World => wr
    by_cases hlt : i < N0
    · have hlt' : (i : Int) < N0 := by omega
      have hi0 : (0 : Int) ≤ (i : Int) := by omega
      have hil : i < es.length := Nat.lt_of_lt_of_le hlt HG.out.2.nl
      obtain ⟨⟨ve, m, n0⟩, he⟩ : ∃ e, es[i]? = some e := ⟨_, List.getElem?_eq_getElem hil⟩
      obtain ⟨gt, ct, e1, c1⟩ := HG.out.2.tab.get i _ (vsOf_get he)
      obtain ⟨go, co, e2, c2⟩ := HG.out.2.of_.get i _ (msOf_get he)
      rw [vsOf_len] at e1
      rw [msOf_len] at e2
      subst e1 e2
      have hil' : (i : Int) < es.length := by omega
      obtain ⟨b1, b2, b3, b4⟩ := HG.out.2.begin_ hlt he
      have HB := Aside0.mk (And.intro (HG.out.1.retag (othW_ok _ _ _ _ _) b2 b3) (And.intro b1 b4))
      have hx0 : wr.cell? ⟨g, off, none⟩ = some (.slice (some ⟨gt, 0, none⟩) es.length ct) := HG.out.1.hd.cell 0 (by omega)
      have hx1 : wr.cell? ⟨g, off + 1, none⟩ = some (.slice (some ⟨go, 0, none⟩) es.length co) := HG.out.1.hd.cell 1 (by omega)
      have hm : m ≤ 1000000000000000 := b1.mb
      have hn0 : n0 ≤ 5900000 := b4
      clear b1 b2 b3 b4 he HG hil
      go_wp2_with fail
      clear hx0 hx1 c1 c2
      generalize ow1.put ve (0, 3) = ow2 at *
      go_loopw [4, 6] (fun v x wr => ∃ (j : Nat) (ow1 : Own) (v1 vo1 : Value) (es : List Ent), 1 ≤ j ∧ j ≤ 97 ∧ x = .int .i64 j ∧ Aside0 (Gs 0 (othW vW vWo eW aW used) W wr g off ow ow1 (bkC v1 vo1 aB vW vWo aW turn done used) ∧ Gr 0 22 5 elB wr ow1 v1 vo1 es N0 i v m (n0 + (j - 1)) (pcnt j) used)) (fun _ x _ => 97 - (intOf x).toNat)
      case atStart => exact ⟨1, ow2, _, _, es, by omega, by omega, rfl, ⟨HB.out.1, HB.out.2.1⟩⟩
      case round =>
        obtain ⟨j, ow3, v1, vo1, es1, hj1, hj2, rfl, HR⟩ := hrel
        clear HB
        rename World => wk
        obtain ⟨Ac, cc, hv4⟩ := HR.out.2.cur.slice
        rw [mkL_len] at hv4
        subst hv4
        by_cases hjl : j ≤ 96
        · have hjl' : (j : Int) ≤ 96 := by omega
          obtain ⟨n, hn⟩ : ∃ n, n = n0 + (j - 1) := ⟨_, rfl⟩
          rw [← hn] at HR ⊢
          have HN := Aside0.mk hn
          have hn6 : n ≤ 5999999 := by omega
          have HAt := Aside0.mk (at_all m n hm (by omega) wk)
          simp only [elB] at HAt
          clear hn
          go_wp2_with fail
          refine HAt.out.mono ?_
          rintro e w2 ⟨rfl, hb⟩
          have HR2 : Aside0 (Gs 0 (othW vW vWo eW aW used) W w2 g off ow ow3 (bkC v1 vo1 aB vW vWo aW turn done used) ∧ Gr 0 22 5 elB w2 ow3 v1 vo1 es1 N0 i (.slice Ac n cc) m n (pcnt j) used) := ⟨HR.out.1.below (othW_ok _ _ _ _ _) hb, HR.out.2.moveU (S := none_) (Upd.of_below hb) (fun _ _ h => h)⟩
          clear hb HAt HR
          go_upto_region 10 with ((with_reducible refine gate_builtin (b := .append) (xs := #[.tmp 39, .tmp 44]) rfl ?_); at_builtin; refine wpList_gen2 _ rfl (.tmp 39) (.tmp 44) 22 5 rfl Try.underlying22 (.int .u8 0) 1 (by kernel_rfl) rfl (by decide) (.slice Ac n cc) (mkL elB m n) rfl ?hv ⟨w2.heap.size, 0, none⟩ (.int .u8 (atN m n : Int)) rfl ?hc rfl ?hb ?_; (case hv => exact HR2.out.2.cur.upd (S := none_) (Upd.of_below (below_alloc (Below.refl _ _) _)) (fun _ _ h => h)); (case hc => exact cell_one_new _ _ _ 0 _ rfl); (case hb => rw [mkL_len]; omega); intro v5 w5 hr5; obtain ⟨g5, c5, rfl⟩ := hr5.form; have R5 := Aside0.mk hr5; clear hr5)
          have HG5 := Aside0.mk (gs_grow (othW_ok _ _ _ _ _) HR2.out.1 HR2.out.2 (below_alloc (Below.refl _ _) _) R5.out)
          clear R5 HR2
          rw [mkL_len]
          obtain ⟨ow5, HG5'⟩ := HG5.out
          rw [mkL_len] at HG5'
          have HR5 := Aside0.mk HG5'
          clear HG5 HG5'
          have htm : Int.tmod (j : Int) 16 = ((j % 16 : Nat) : Int) := by rw [Int.tmod_eq_emod_of_nonneg (by omega)]; omega
          -- PUSHES
          by_cases hj4 : j < 4
          · have hj4' : (j : Int) < 4 := by omega
            clear htm
            obtain ⟨c1, hc1⟩ : ∃ c1, c1 = bkC v1 vo1 aB vW vWo aW turn done used := ⟨_, rfl⟩
            have hx0 : w5.cell? ⟨g, off, none⟩ = some v1 := HR5.out.2.hd.cell 0 (by omega)
            have HE1 : Aside0 (es1.length ≤ 150000) := ⟨by have h1 := HR5.out.1.bnd; have h2 := HR5.out.1.nl; have h3 := HR5.out.1.iN; have h4 := HUS.out; have h5 := pcnt_le (x := j) (by omega); omega⟩
            go_upto_region 12 with ((with_reducible refine gate_builtin (b := .append) (xs := #[.tmp 57, .tmp 59]) rfl ?_); at_builtin; refine wpList_gen2 _ rfl (.tmp 57) (.tmp 59) 51 22 rfl Try.underlying51 (.slice none 0 0) 24 (by kernel_rfl) rfl (by decide) v1 (vsOf es1) rfl ?hv ⟨w5.heap.size, 0, none⟩ (.slice (some ⟨g5, 0, none⟩) (n + 1) c5) rfl ?hc rfl ?hb ?_; (case hv => exact HR5.out.1.tab.upd (S := none_) (Upd.of_below (below_alloc (Below.refl _ _) _)) (fun _ _ h => h)); (case hc => exact cell_one_new _ _ _ 0 _ rfl); (case hb => rw [vsOf_len]; have := HE1.out; omega); intro v7 w7 hr7; obtain ⟨g7, c7, rfl⟩ := hr7.form; have R7 := Aside0.mk hr7; clear hr7 hx0; have H7 : Aside0 (Hd w7 g off (bkC v1 vo1 aB vW vWo aW turn done used)) := ⟨hd_grew (Tt := 0) (Te := 0) (el := elB) HR5.out.2.hd HR5.out.2.ng HR5.out.1.tabT (below_alloc (Below.refl _ _) _) R7.out⟩; have hx0 : w7.cell? ⟨g, off, none⟩ = some v1 := H7.out.cell 0 (by omega); obtain ⟨cur7, T7, hbk⟩ := H7.out.blk; have hfz := blk_frozen hbk off)
            clear hbk hfz hx0
            obtain ⟨w8, hw8⟩ : ∃ w8, w8 = w7.setCell ⟨g, off, none⟩ (.slice (some ⟨g7, 0, none⟩) ((vsOf es1).length + 1) c7) := ⟨_, rfl⟩
            rw [← hw8]
            have H8 : Aside0 (Hd w8 g off (putC (bkC v1 vo1 aB vW vWo aW turn done used) 0 (.slice (some ⟨g7, 0, none⟩) ((vsOf es1).length + 1) c7))) := ⟨by rw [hw8]; exact H7.out.put 0 (by omega) _⟩
            have HO8 : Aside0 (GV 3 w8 vo1 (msOf es1)) := ⟨by
              have u : Upd (fun b => v1.ownBlock = some b ∨ b = g) w5 w8 := by
                rw [hw8]
                exact ((Upd.of_below (below_alloc (Below.refl _ _) _)).trans (R7.out.upd.mono (fun b hb => .inl hb))).trans ((put_upd _ _ _ _).mono (fun b hb => .inr hb))
              refine HR5.out.1.of_.upd u (fun b hb => ?_)
              have h1 := HR5.out.1.ofT b hb
              rintro (h2 | rfl)
              · have h3 := HR5.out.1.tabT b h2
                rw [h1] at h3; simp at h3
              · rw [HR5.out.2.ng] at h1; cases h1⟩
            have HW8 := Aside0.mk hw8
            clear hw8
            have hx1 : w8.cell? ⟨g, off + 1, none⟩ = some vo1 := H8.out.cell 1 (by omega)
            go_upto_region 8 with ((with_reducible refine gate_builtin (b := .append) (xs := #[.tmp 67, .tmp 69]) rfl ?_); at_builtin; refine wpList_gen2 _ rfl (.tmp 67) (.tmp 69) 52 3 rfl Try.underlying52 (.int .i64 0) 8 (by kernel_rfl) rfl (by decide) vo1 (msOf es1) rfl ?hv ⟨w8.heap.size, 0, none⟩ (.int .i64 (m : Int)) rfl ?hc rfl ?hb ?_; (case hv => exact HO8.out.upd (S := none_) (Upd.of_below (below_alloc (Below.refl _ _) _)) (fun _ _ h => h)); (case hc => exact cell_one_new _ _ _ 0 _ rfl); (case hb => rw [msOf_len]; have := HE1.out; omega); intro v9 w9 hr9; obtain ⟨g9, c9, rfl⟩ := hr9.form; have R9 := Aside0.mk hr9; clear hr9 hx1; have H9 : Aside0 (Hd w9 g off (putC (bkC v1 vo1 aB vW vWo aW turn done used) 0 (.slice (some ⟨g7, 0, none⟩) ((vsOf es1).length + 1) c7))) := ⟨hd_grew (Tt := 0) (Te := 0) (el := elB) H8.out HR5.out.2.ng HR5.out.1.ofT (below_alloc (Below.refl _ _) _) R9.out⟩; have hx1 : w9.cell? ⟨g, off + 1, none⟩ = some vo1 := H9.out.cell 1 (by omega); obtain ⟨cur9, T9, hbk⟩ := H9.out.blk; have hfz := blk_frozen hbk (off + 1))
            clear hbk hfz hx1
            have HP := Aside0.mk (gs_push (othW_ok _ _ _ _ _) HR5.out.2 HR5.out.1 (by omega) (below_alloc (Below.refl _ _) _) R7.out (by omega) HW8.out (below_alloc (Below.refl _ _) _) R9.out (j0 := 0) (j1 := 1) (by omega) rfl (c' := bkC (.slice (some ⟨g7, 0, none⟩) ((vsOf es1).length + 1) c7) (.slice (some ⟨g9, 0, none⟩) ((msOf es1).length + 1) c9) aB vW vWo aW turn done used) (fun i hi => by
              unfold putC bkC
              by_cases h1 : i = 1
              · subst h1; simp
              · by_cases h0 : i = 0
                · subst h0; simp
                · simp [h1, h0]))
            have HRound : Aside0 (∃ (jj : Nat) (ow1 : Own) (v1 vo1 : Value) (es : List Ent), 1 ≤ jj ∧ jj ≤ 97 ∧ (Value.int .i64 ((j : Int) + 1)) = .int .i64 jj ∧ Aside0 (Gs 0 (othW vW vWo eW aW used) W (w9.setCell ⟨g, off + 1, none⟩ (.slice (some ⟨g9, 0, none⟩) ((msOf es1).length + 1) c9)) g off ow ow1 (bkC v1 vo1 aB vW vWo aW turn done used) ∧ Gr 0 22 5 elB (w9.setCell ⟨g, off + 1, none⟩ (.slice (some ⟨g9, 0, none⟩) ((msOf es1).length + 1) c9)) ow1 v1 vo1 es N0 i (.slice (some ⟨g5, 0, none⟩) (n + 1) c5) m (n0 + (jj - 1)) (pcnt jj) used)) := ⟨by
              obtain ⟨ow9, q1, q2⟩ := HP.out
              refine ⟨j + 1, ow9, _, _, es1 ++ [⟨.slice (some ⟨g5, 0, none⟩) (n + 1) c5, m, n + 1⟩], by omega, by omega, by rw [Int.natCast_succ], ⟨q2, ?_⟩⟩
              have e1 : n0 + (j + 1 - 1) = n + 1 := by have := HN.out; omega
              rw [e1, pcnt_yes hj1 (.inl hj4)]
              exact q1⟩
            clear R7 R9 H7 H8 H9 HO8 HW8 HP HR5 hc1
            go_wp2_with fail
            exact ⟨HRound.out, by simp only [intOf]; omega⟩
          · have hj4' : ¬ ((j : Int) < 4) := by omega
            by_cases h16 : j % 16 = 0
            · have htm' : Int.tmod (j : Int) 16 = 0 := by rw [htm, h16]; rfl
              clear htm
              obtain ⟨c1, hc1⟩ : ∃ c1, c1 = bkC v1 vo1 aB vW vWo aW turn done used := ⟨_, rfl⟩
              have hx0 : w5.cell? ⟨g, off, none⟩ = some v1 := HR5.out.2.hd.cell 0 (by omega)
              have HE1 : Aside0 (es1.length ≤ 150000) := ⟨by have h1 := HR5.out.1.bnd; have h2 := HR5.out.1.nl; have h3 := HR5.out.1.iN; have h4 := HUS.out; have h5 := pcnt_le (x := j) (by omega); omega⟩
              go_upto_region 12 with ((with_reducible refine gate_builtin (b := .append) (xs := #[.tmp 57, .tmp 59]) rfl ?_); at_builtin; refine wpList_gen2 _ rfl (.tmp 57) (.tmp 59) 51 22 rfl Try.underlying51 (.slice none 0 0) 24 (by kernel_rfl) rfl (by decide) v1 (vsOf es1) rfl ?hv ⟨w5.heap.size, 0, none⟩ (.slice (some ⟨g5, 0, none⟩) (n + 1) c5) rfl ?hc rfl ?hb ?_; (case hv => exact HR5.out.1.tab.upd (S := none_) (Upd.of_below (below_alloc (Below.refl _ _) _)) (fun _ _ h => h)); (case hc => exact cell_one_new _ _ _ 0 _ rfl); (case hb => rw [vsOf_len]; have := HE1.out; omega); intro v7 w7 hr7; obtain ⟨g7, c7, rfl⟩ := hr7.form; have R7 := Aside0.mk hr7; clear hr7 hx0; have H7 : Aside0 (Hd w7 g off (bkC v1 vo1 aB vW vWo aW turn done used)) := ⟨hd_grew (Tt := 0) (Te := 0) (el := elB) HR5.out.2.hd HR5.out.2.ng HR5.out.1.tabT (below_alloc (Below.refl _ _) _) R7.out⟩; have hx0 : w7.cell? ⟨g, off, none⟩ = some v1 := H7.out.cell 0 (by omega); obtain ⟨cur7, T7, hbk⟩ := H7.out.blk; have hfz := blk_frozen hbk off)
              clear hbk hfz hx0
              obtain ⟨w8, hw8⟩ : ∃ w8, w8 = w7.setCell ⟨g, off, none⟩ (.slice (some ⟨g7, 0, none⟩) ((vsOf es1).length + 1) c7) := ⟨_, rfl⟩
              rw [← hw8]
              have H8 : Aside0 (Hd w8 g off (putC (bkC v1 vo1 aB vW vWo aW turn done used) 0 (.slice (some ⟨g7, 0, none⟩) ((vsOf es1).length + 1) c7))) := ⟨by rw [hw8]; exact H7.out.put 0 (by omega) _⟩
              have HO8 : Aside0 (GV 3 w8 vo1 (msOf es1)) := ⟨by
                have u : Upd (fun b => v1.ownBlock = some b ∨ b = g) w5 w8 := by
                  rw [hw8]
                  exact ((Upd.of_below (below_alloc (Below.refl _ _) _)).trans (R7.out.upd.mono (fun b hb => .inl hb))).trans ((put_upd _ _ _ _).mono (fun b hb => .inr hb))
                refine HR5.out.1.of_.upd u (fun b hb => ?_)
                have h1 := HR5.out.1.ofT b hb
                rintro (h2 | rfl)
                · have h3 := HR5.out.1.tabT b h2
                  rw [h1] at h3; simp at h3
                · rw [HR5.out.2.ng] at h1; cases h1⟩
              have HW8 := Aside0.mk hw8
              clear hw8
              have hx1 : w8.cell? ⟨g, off + 1, none⟩ = some vo1 := H8.out.cell 1 (by omega)
              go_upto_region 8 with ((with_reducible refine gate_builtin (b := .append) (xs := #[.tmp 67, .tmp 69]) rfl ?_); at_builtin; refine wpList_gen2 _ rfl (.tmp 67) (.tmp 69) 52 3 rfl Try.underlying52 (.int .i64 0) 8 (by kernel_rfl) rfl (by decide) vo1 (msOf es1) rfl ?hv ⟨w8.heap.size, 0, none⟩ (.int .i64 (m : Int)) rfl ?hc rfl ?hb ?_; (case hv => exact HO8.out.upd (S := none_) (Upd.of_below (below_alloc (Below.refl _ _) _)) (fun _ _ h => h)); (case hc => exact cell_one_new _ _ _ 0 _ rfl); (case hb => rw [msOf_len]; have := HE1.out; omega); intro v9 w9 hr9; obtain ⟨g9, c9, rfl⟩ := hr9.form; have R9 := Aside0.mk hr9; clear hr9 hx1; have H9 : Aside0 (Hd w9 g off (putC (bkC v1 vo1 aB vW vWo aW turn done used) 0 (.slice (some ⟨g7, 0, none⟩) ((vsOf es1).length + 1) c7))) := ⟨hd_grew (Tt := 0) (Te := 0) (el := elB) H8.out HR5.out.2.ng HR5.out.1.ofT (below_alloc (Below.refl _ _) _) R9.out⟩; have hx1 : w9.cell? ⟨g, off + 1, none⟩ = some vo1 := H9.out.cell 1 (by omega); obtain ⟨cur9, T9, hbk⟩ := H9.out.blk; have hfz := blk_frozen hbk (off + 1))
              clear hbk hfz hx1
              have HP := Aside0.mk (gs_push (othW_ok _ _ _ _ _) HR5.out.2 HR5.out.1 (by omega) (below_alloc (Below.refl _ _) _) R7.out (by omega) HW8.out (below_alloc (Below.refl _ _) _) R9.out (j0 := 0) (j1 := 1) (by omega) rfl (c' := bkC (.slice (some ⟨g7, 0, none⟩) ((vsOf es1).length + 1) c7) (.slice (some ⟨g9, 0, none⟩) ((msOf es1).length + 1) c9) aB vW vWo aW turn done used) (fun i hi => by
                unfold putC bkC
                by_cases h1 : i = 1
                · subst h1; simp
                · by_cases h0 : i = 0
                  · subst h0; simp
                  · simp [h1, h0]))
              have HRound : Aside0 (∃ (jj : Nat) (ow1 : Own) (v1 vo1 : Value) (es : List Ent), 1 ≤ jj ∧ jj ≤ 97 ∧ (Value.int .i64 ((j : Int) + 1)) = .int .i64 jj ∧ Aside0 (Gs 0 (othW vW vWo eW aW used) W (w9.setCell ⟨g, off + 1, none⟩ (.slice (some ⟨g9, 0, none⟩) ((msOf es1).length + 1) c9)) g off ow ow1 (bkC v1 vo1 aB vW vWo aW turn done used) ∧ Gr 0 22 5 elB (w9.setCell ⟨g, off + 1, none⟩ (.slice (some ⟨g9, 0, none⟩) ((msOf es1).length + 1) c9)) ow1 v1 vo1 es N0 i (.slice (some ⟨g5, 0, none⟩) (n + 1) c5) m (n0 + (jj - 1)) (pcnt jj) used)) := ⟨by
                obtain ⟨ow9, q1, q2⟩ := HP.out
                refine ⟨j + 1, ow9, _, _, es1 ++ [⟨.slice (some ⟨g5, 0, none⟩) (n + 1) c5, m, n + 1⟩], by omega, by omega, by rw [Int.natCast_succ], ⟨q2, ?_⟩⟩
                have e1 : n0 + (j + 1 - 1) = n + 1 := by have := HN.out; omega
                rw [e1, pcnt_yes hj1 (.inr h16)]
                exact q1⟩
              clear R7 R9 H7 H8 H9 HO8 HW8 HP HR5 hc1
              go_wp2_with fail
              exact ⟨HRound.out, by simp only [intOf]; omega⟩
            · have htm' : (Int.tmod (j : Int) 16 == 0) = false := by rw [htm]; exact beq_eq_false_iff_ne.2 (by omega)
              clear htm
              have HRound : Aside0 (∃ (jj : Nat) (ow1 : Own) (v1 vo1 : Value) (es : List Ent), 1 ≤ jj ∧ jj ≤ 97 ∧ (Value.int .i64 ((j : Int) + 1)) = .int .i64 jj ∧ Aside0 (Gs 0 (othW vW vWo eW aW used) W w5 g off ow ow1 (bkC v1 vo1 aB vW vWo aW turn done used) ∧ Gr 0 22 5 elB w5 ow1 v1 vo1 es N0 i (.slice (some ⟨g5, 0, none⟩) (n + 1) c5) m (n0 + (jj - 1)) (pcnt jj) used)) := ⟨by
                refine ⟨j + 1, ow5, _, _, es1, by omega, by omega, by rw [Int.natCast_succ], ⟨HR5.out.2, ?_⟩⟩
                have e1 : n0 + (j + 1 - 1) = n + 1 := by have := HN.out; omega
                rw [e1, pcnt_no hj1 (by omega)]
                exact HR5.out.1⟩
              clear HR5
              go_wp2_with fail
              exact ⟨HRound.out, by simp only [intOf]; omega⟩
          -- SEHSUP
        · obtain rfl : j = 97 := by omega
          obtain ⟨b1, b2, b3⟩ := HR.out.2.finish (pcnt_le (by omega))
          have HN := Aside0.mk (And.intro (HR.out.1.retag (othW_ok _ _ _ _ _) b2 b3) b1)
          clear b1 b2 b3 HR hjl
          go_wp2_with fail
          exact ⟨⟨i + 1, _, _, _, _, by omega, by rw [Int.natCast_succ], HN⟩, by simp only [intOf]; omega⟩
    · obtain rfl : i = N0 := by omega
      obtain ⟨A1, c1, hv1⟩ := HG.out.2.tab.slice
      rw [vsOf_len] at hv1
      subst hv1
      have hx0 : wr.cell? ⟨g, off, none⟩ = some (.slice A1 es.length c1) := HG.out.1.hd.cell 0 (by omega)
      have hx2 : wr.cell? ⟨g, off + 2, none⟩ = some (.int .i64 (aB : Int)) := HG.out.1.hd.cell 2 (by omega)
      obtain ⟨cur, T, hbk⟩ := HG.out.1.hd.blk
      have hfz := blk_frozen hbk (off + 2)
      have HE := Aside0.mk (HG.out.1.store (othW_ok _ _ _ _ _) 2 (by omega) (.int .i64 (es.length : Int)) (c' := bkC (.slice A1 es.length c1) vo1 es.length vW vWo aW turn done used) (fun i hi => by
        unfold putC bkC
        by_cases h1 : i = 2
        · subst h1; simp
        · simp [h1]))
      have HT := Aside0.mk (Tg.done (HG.out.2.moveU (put_upd wr g (off + 2) (.int .i64 (es.length : Int))) (fun b hb e => by have e : b = g := e; subst e; exact hb HG.out.1.ng)))
      clear HG hlt
      go_wp2_with fail
      go_end0
      exact ⟨rfl, ow1, _, vo1, es, ⟨HE.out.hd, HT.out, HE.out.oth, HE.out.lt, HE.out.ng, HUS.out⟩, HE.out.bks⟩
end Go.Proofs.Ytgngpbcbnfmoiaa.BokH
