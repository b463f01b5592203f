/- larderlaw2.refused walked. -/
import Derived.Test.YtgjcffjicbmkhaaBegW
import Derived.Test.YtgjcffjicbmkhaaPFx7
import Derived.Deep.RegionHeld3
import Derived.Deep.DeepMust
namespace Go.Proofs.Ytgjcffjicbmkhaa.RefW
open Go Go.RowKit Go.Proofs.YtgjcffjicbmkhaaW.PrintWords Go.Proofs.YtgjcffjicbmkhaaW.PrintLast Go.Proofs.YtgjcffjicbmkhaaW.PrintMore Go.Proofs.Ytgjcffjicbmkhaa.PF Go.Proofs.Ytgjcffjicbmkhaa.RowU Go.Proofs.Ytgjcffjicbmkhaa.ArS Go.Proofs.Ytgjcffjicbmkhaa.ArM Go.Proofs.Ytgjcffjicbmkhaa.ArW Go.Proofs.Ytgjcffjicbmkhaa.ArX Go.Proofs.Ytgjcffjicbmkhaa.ArY Go.Proofs.Ytgjcffjicbmkhaa.ArT Go.Proofs.Ytgjcffjicbmkhaa.ArB Go.Proofs.Ytgjcffjicbmkhaa.ArC Go.Proofs.Ytgjcffjicbmkhaa.ArP Go.Proofs.Ytgjcffjicbmkhaa.ArQ Go.Proofs.Ytgjcffjicbmkhaa.BegW
set_option linter.unusedVariables false
set_option maxRecDepth 100000

theorem three_all (x : Int) (w : World) : Calls Try.prog 30 #[.int .i64 x] w fun e w' => e = .returned (.int .i64 (mod3 x : Int)) ∧ Below w.heap.size w w' := by
  refine (larderlaw2_three.calls x (mod3 x : Int) w ?_).mono fun e w' ⟨he, hd⟩ => ⟨he, hd.below⟩
  unfold larderlaw2_three.f mod3
  have h1 : -(3 : Int) < Int.tmod x 3 := Int.lt_tmod_of_pos x (by decide)
  have h2 : Int.tmod x 3 < 3 := Int.tmod_lt_of_pos x (by decide)
  rw [ArW.w64_small _ (by omega) (by omega)]
  have h3 : 0 ≤ Int.tmod (Int.tmod x 3 + 3) 3 := Int.tmod_nonneg _ (by omega)
  congr 1
  omega
def allOn : Nat → Bool := fun _ => true
/-- The pointers to three arenas, as one value. -/
def ptrs (d : Nat → ArD) : Value := .agg #[.pointer (some ⟨(d 0).g, 0, none⟩), .pointer (some ⟨(d 1).g, 0, none⟩), .pointer (some ⟨(d 2).g, 0, none⟩)]
/-- What a step on block i (from block j, at the place A; K: Take or not) may leave. -/
structure After (W w' : World) (d d' : Nat → ArD) (r : Bool) (i j : Nat) (K A : Int) : Prop where
  st : Three w' d' allOn
  g : ∀ k, k < 3 → (d' k).g = (d k).g
  new : ∀ k, k < 3 → ∀ b, (d' k).blk b → (d k).blk b ∨ W.heap.size ≤ b
  upd : Upd (fun b => ∃ k, k < 3 ∧ (d k).blk b) W w'
  no : r = true → ∀ k, k < 3 → (d' k).l = (d k).l
  yes1 : r = false → ∀ k, k < 3 → k ≠ i → (K ≠ 8 ∨ k ≠ j) → (d' k).l = (d k).l
  yes2 : r = false → j ≠ i → K = 8 → ∃ n o t, (d j).l[n]? = some o ∧ A = place (d j).l n ∧ (d' j).l = (d j).l.set n (Ob.went o t)
theorem After.same {W w' : World} {d : Nat → ArD} (h : Three W d allOn) (hb : Below W.heap.size W w') (i j : Nat) (K A : Int) : After W w' d d true i j K A :=
  ⟨h.below hb, fun _ _ => rfl, fun _ _ _ hb => .inl hb, Upd.of_below hb, fun _ _ _ => rfl, fun hr => absurd hr (by decide), fun hr => absurd hr (by decide)⟩
/-- One block alone has turned. -/
theorem After.one {W w' : World} {d : Nat → ArD} (h : Three W d allOn) {i : Nat} (hi : i < 3) {gw' gf' : Nat} {l' : List Ob} (hA : ArAt w' (d i).g gw' gf' (d i).sz l') (h1 : gw' = (d i).gw ∨ W.heap.size ≤ gw') (h2 : gf' = (d i).gf ∨ W.heap.size ≤ gf') (hu : Upd (d i).blk W w') (r : Bool) (j : Nat) (K A : Int) (hK : K ≠ 8) (hr : r = true → l' = (d i).l) :
    After W w' d (putD d i ⟨(d i).g, gw', gf', (d i).sz, l'⟩) r i j K A := by
  refine ⟨h.step hi rfl hA h1 h2 hu, fun k hk => ?_, fun k hk b hb => ?_, hu.mono (fun b hb => ⟨i, hi, hb⟩), fun hr' k hk => ?_, fun _ k hk hki _ => ?_, fun _ _ h8 => absurd h8 hK⟩
  · by_cases hki : k = i
    · subst hki; rw [putD_self]
    · rw [putD_other _ _ _ _ hki]
  · by_cases hki : k = i
    · subst hki
      rw [putD_self] at hb
      rcases hb with rfl | rfl | rfl
      · exact .inl (.inl rfl)
      · rcases h1 with h1 | h1
        · exact .inl (.inr (.inl h1))
        · exact .inr h1
      · rcases h2 with h2 | h2
        · exact .inl (.inr (.inr h2))
        · exact .inr h2
    · rw [putD_other _ _ _ _ hki] at hb; exact .inl hb
  · by_cases hki : k = i
    · subst hki; rw [putD_self]; exact hr hr'
    · rw [putD_other _ _ _ _ hki]
  · rw [putD_other _ _ _ _ hki]
theorem After.lift {W W1 w' : World} {d d' : Nat → ArD} {r : Bool} {i j : Nat} {K A : Int} (hb : Below W.heap.size W W1) (h : After W1 w' d d' r i j K A) : After W w' d d' r i j K A :=
  ⟨h.st, h.g, fun k hk b hk2 => (h.new k hk b hk2).imp id (Nat.le_trans hb.size), (Upd.of_below hb).trans h.upd, h.no, h.yes1, h.yes2⟩
theorem allR_no {sz : Nat} {l : List Ob} {k r s : Int} (h : ((allR sz l k r s).2.1 != 0) = true) : (allR sz l k r s).2.2 = l := by
  unfold allR at *
  split <;> rename_i h1
  · rw [if_pos h1] at h
    split <;> rename_i h2
    · rfl
    · rw [if_neg h2] at h; simp at h
  · rfl
theorem setR_no {l : List Ob} {p i : Int} {v : Nat} (h : ((setR l p i v).1 != 0) = true) : (setR l p i v).2 = l := by
  unfold setR at *
  cases hb : badOf l p with
  | some e => rfl
  | none =>
    obtain ⟨k, o, h1, _⟩ := badOf_none hb
    rw [hb, h1] at h
    rw [h1]
    simp only at *
    split <;> rename_i h2
    · rw [if_pos h2] at h; simp at h
    · rfl
theorem stbR_no {l : List Ob} {p f : Int} {bs : List Nat} (h : ((stbR l p f bs).1 != 0) = true) : (stbR l p f bs).2 = l := by
  unfold stbR at *
  cases hb : bytErr l p f bs.length with
  | some e => rfl
  | none =>
    rw [hb] at h
    cases hx : obAt l p with
    | none => rfl
    | some x => obtain ⟨k, o⟩ := x; rw [hx] at h; simp at h
theorem takR_no {sza : Nat} {la ls : List Ob} {p : Int} {same : Bool} (h : ((takR sza la ls p same).2.1 != 0) = true) : (takR sza la ls p same).2.2.1 = la ∧ (takR sza la ls p same).2.2.2 = ls := by
  unfold takR at *
  cases hx : obAt ls p with
  | none => exact ⟨rfl, rfl⟩
  | some x =>
    obtain ⟨k, o⟩ := x
    rw [hx] at h
    simp only at *
    cases hg : o.gone with
    | some t => exact ⟨rfl, rfl⟩
    | none =>
      rw [hg] at h
      simp only at *
      by_cases hf : sza < used la + (1 + o.fields.length)
      · rw [if_pos hf]; exact ⟨rfl, rfl⟩
      · rw [if_neg hf] at h; simp at h
theorem takR_src {sza : Nat} {la ls : List Ob} {p : Int} (h : ((takR sza la ls p false).2.1 != 0) = false) : ∃ n o t, ls[n]? = some o ∧ p = place ls n ∧ (takR sza la ls p false).2.2.2 = ls.set n (Ob.went o t) := by
  unfold takR at *
  cases hx : obAt ls p with
  | none => rw [hx] at h; simp at h
  | some x =>
    obtain ⟨k, o⟩ := x
    obtain ⟨h1, h2⟩ := obAt_some hx
    rw [hx] at h
    simp only at *
    cases hg : o.gone with
    | some t =>
      refine ⟨k, o, t, h1, h2, ?_⟩
      have he : Ob.went o t = o := by unfold Ob.went; rw [← hg]
      rw [he]
      obtain ⟨hk, he2⟩ := List.getElem?_eq_some_iff.1 h1
      subst he2
      simp
    | none =>
      rw [hg] at h
      simp only at *
      by_cases hf : sza < used la + (1 + o.fields.length)
      · rw [if_pos hf] at h; simp at h
      · rw [if_neg hf]
        exact ⟨k, o, used la, h1, h2, rfl⟩
/-- Take has been asked. -/
theorem After.took {W W' : World} {d : Nat → ArD} (h : Three W d allOn) {i j : Nat} (hi : i < 3) (hj : j < 3) (p : Int) {gwa' gfa' : Nat}
    (hP : Pair W' (d i).g gwa' gfa' (d i).sz (takR (d i).sz (d i).l (d j).l p (decide (i = j))).2.2.1 (d j).g (if decide (i = j) then gwa' else (d j).gw) (if decide (i = j) then gfa' else (d j).gf) (d j).sz (takR (d i).sz (d i).l (d j).l p (decide (i = j))).2.2.2 (decide (i = j)))
    (h1 : gwa' = (d i).gw ∨ W.heap.size ≤ gwa') (h2 : gfa' = (d i).gf ∨ W.heap.size ≤ gfa') (hu : Upd (fun b => three_ (d i).g (d i).gw (d i).gf b ∨ three_ (d j).g (d j).gw (d j).gf b) W W') :
    ∃ d', After W W' d d' ((takR (d i).sz (d i).l (d j).l p (decide (i = j))).2.1 != 0) i j 8 p := by
  have hst := h.took hi hj rfl rfl hP h1 h2 hu
  have hnew : ∀ b, three_ (d i).g gwa' gfa' b → (d i).blk b ∨ W.heap.size ≤ b := by
    rintro b (rfl | rfl | rfl)
    · exact .inl (.inl rfl)
    · rcases h1 with h1 | h1
      · exact .inl (.inr (.inl h1))
      · exact .inr h1
    · rcases h2 with h2 | h2
      · exact .inl (.inr (.inr h2))
      · exact .inr h2
  have hup : Upd (fun b => ∃ k, k < 3 ∧ (d k).blk b) W W' := hu.mono (fun b hb => by
    rcases hb with hb | hb
    · exact ⟨i, hi, hb⟩
    · exact ⟨j, hj, hb⟩)
  by_cases hij : i = j
  · subst hij
    rw [if_pos rfl] at hst
    refine ⟨_, hst, fun k hk => ?_, fun k hk b hb => ?_, hup, fun hr k hk => ?_, fun hr k hk hki _ => ?_, fun _ hji => absurd rfl hji⟩
    · by_cases hki : k = i
      · subst hki; rw [putD_self]
      · rw [putD_other _ _ _ _ hki]
    · by_cases hki : k = i
      · subst hki; rw [putD_self] at hb; exact hnew b hb
      · rw [putD_other _ _ _ _ hki] at hb; exact .inl hb
    · by_cases hki : k = i
      · subst hki; rw [putD_self]; exact (takR_no hr).1
      · rw [putD_other _ _ _ _ hki]
    · rw [putD_other _ _ _ _ hki]
  · rw [if_neg hij] at hst
    refine ⟨_, hst, fun k hk => ?_, fun k hk b hb => ?_, hup, fun hr k hk => ?_, fun hr k hk hki hkj => ?_, fun hr _ _ => ?_⟩
    · by_cases hkj : k = j
      · subst hkj; rw [putD_self]
      · rw [putD_other _ _ _ _ hkj]
        by_cases hki : k = i
        · subst hki; rw [putD_self]
        · rw [putD_other _ _ _ _ hki]
    · by_cases hkj : k = j
      · subst hkj; rw [putD_self] at hb; exact .inl hb
      · rw [putD_other _ _ _ _ hkj] at hb
        by_cases hki : k = i
        · subst hki; rw [putD_self] at hb; exact hnew b hb
        · rw [putD_other _ _ _ _ hki] at hb; exact .inl hb
    · by_cases hkj : k = j
      · subst hkj; rw [putD_self]; exact (takR_no hr).2
      · rw [putD_other _ _ _ _ hkj]
        by_cases hki : k = i
        · subst hki; rw [putD_self]; exact (takR_no hr).1
        · rw [putD_other _ _ _ _ hki]
    · have hkj : k ≠ j := hkj.resolve_left (fun h => h rfl)
      rw [putD_other _ _ _ _ hkj, putD_other _ _ _ _ hki]
    · rw [putD_self]
      have hd : decide (i = j) = false := decide_eq_false hij
      rw [hd] at hr ⊢
      exact takR_src hr
set_option maxHeartbeats 4000000 in
theorem refused.calls (W : World) (d : Nat → ArD) (h : Three W d allOn) (K Bk Sr A B C : Int) (V : Nat) (hV : V < 18446744073709551616) (bs : List Nat) (hbs : ∀ c ∈ bs, c < 256) (Ad : Option Addr) (cd : Nat) (hn : bs.length ≤ 9000000000000000)
    (hcell : ∀ (i x : Nat), bs[i]? = some x → ∃ ad, Ad = some ad ∧ (∀ k, k < 3 → ad.block ≠ (d k).gw) ∧ W.cell? (ad.add i) = some (.int .u8 (x : Int))) :
    Calls Try.prog 29 #[ptrs d, .agg #[.int .i64 K, .int .i64 Bk, .int .i64 Sr, .int .i64 A, .int .i64 B, .int .i64 C, .int .u64 (V : Int), .slice Ad bs.length cd]] W fun e w' => ∃ r d', e = .returned (.bool r) ∧ After W w' d d' r (mod3 Bk) (mod3 Sr) K A := by
  unfold ptrs
  have H := Aside0.mk h
  have HC := Aside0.mk (And.intro hbs hcell)
  have HV := Aside0.mk hV
  clear h hbs hcell hV
  go_enter Try.func29, Try.ntmps29
  go_wp2_with fail
  obtain ⟨bp, hbp⟩ : ∃ bp, bp = W.heap.size := ⟨_, rfl⟩
  obtain ⟨bo, hbo⟩ : ∃ bo, bo = W.heap.size + 1 := ⟨_, rfl⟩
  have hB1 : Below W.heap.size W ((W.alloc (.cells #[.pointer (some ⟨(d 0).g, 0, none⟩), .pointer (some ⟨(d 1).g, 0, none⟩), .pointer (some ⟨(d 2).g, 0, none⟩)] 78)).alloc (.cells #[.int .i64 K, .int .i64 Bk, .int .i64 Sr, .int .i64 A, .int .i64 B, .int .i64 C, .int .u64 (V : Int), .slice Ad bs.length cd] 80)) := below_alloc (below_alloc (Below.refl _ _) _) _
  have hbk1 : ((W.alloc (.cells #[.pointer (some ⟨(d 0).g, 0, none⟩), .pointer (some ⟨(d 1).g, 0, none⟩), .pointer (some ⟨(d 2).g, 0, none⟩)] 78)).alloc (.cells #[.int .i64 K, .int .i64 Bk, .int .i64 Sr, .int .i64 A, .int .i64 B, .int .i64 C, .int .u64 (V : Int), .slice Ad bs.length cd] 80)).heap[bp]? = some (.cells #[.pointer (some ⟨(d 0).g, 0, none⟩), .pointer (some ⟨(d 1).g, 0, none⟩), .pointer (some ⟨(d 2).g, 0, none⟩)] 78 (0, 0)) := by rw [hbp]; exact blk_below (blk_new W _) (below_alloc (Below.refl _ _) _)
  have hbk2 : ((W.alloc (.cells #[.pointer (some ⟨(d 0).g, 0, none⟩), .pointer (some ⟨(d 1).g, 0, none⟩), .pointer (some ⟨(d 2).g, 0, none⟩)] 78)).alloc (.cells #[.int .i64 K, .int .i64 Bk, .int .i64 Sr, .int .i64 A, .int .i64 B, .int .i64 C, .int .u64 (V : Int), .slice Ad bs.length cd] 80)).heap[bo]? = some (.cells #[.int .i64 K, .int .i64 Bk, .int .i64 Sr, .int .i64 A, .int .i64 B, .int .i64 C, .int .u64 (V : Int), .slice Ad bs.length cd] 80 (0, 0)) := by
    have := blk_new (W.alloc (.cells #[.pointer (some ⟨(d 0).g, 0, none⟩), .pointer (some ⟨(d 1).g, 0, none⟩), .pointer (some ⟨(d 2).g, 0, none⟩)] 78)) (.cells #[.int .i64 K, .int .i64 Bk, .int .i64 Sr, .int .i64 A, .int .i64 B, .int .i64 C, .int .u64 (V : Int), .slice Ad bs.length cd] 80)
    rw [hbo]
    simpa using this
  rw [← hbo, ← hbp]
  generalize ((W.alloc (.cells #[.pointer (some ⟨(d 0).g, 0, none⟩), .pointer (some ⟨(d 1).g, 0, none⟩), .pointer (some ⟨(d 2).g, 0, none⟩)] 78)).alloc (.cells #[.int .i64 K, .int .i64 Bk, .int .i64 Sr, .int .i64 A, .int .i64 B, .int .i64 C, .int .u64 (V : Int), .slice Ad bs.length cd] 80)) = w1 at *
  have HBx : Aside0 (∀ w', Below w1.heap.size w1 w' → (w'.cell? ⟨bo, 0, none⟩ = some (.int .i64 K) ∧ w'.cell? ⟨bo, 1, none⟩ = some (.int .i64 Bk) ∧ w'.cell? ⟨bo, 2, none⟩ = some (.int .i64 Sr) ∧ w'.cell? ⟨bo, 3, none⟩ = some (.int .i64 A) ∧ w'.cell? ⟨bo, 4, none⟩ = some (.int .i64 B) ∧ w'.cell? ⟨bo, 5, none⟩ = some (.int .i64 C) ∧ w'.cell? ⟨bo, 6, none⟩ = some (.int .u64 (V : Int)) ∧ w'.cell? ⟨bo, 7, none⟩ = some (.slice Ad bs.length cd)) ∧ ∀ k, k < 3 → w'.cell? ⟨bp, k, none⟩ = some (.pointer (some ⟨(d k).g, 0, none⟩))) := ⟨fun w' hb => by
    have h2 := blk_below hbk2 hb
    have h1 := blk_below hbk1 hb
    refine ⟨⟨(blk_cell h2 0).trans rfl, (blk_cell h2 1).trans rfl, (blk_cell h2 2).trans rfl, (blk_cell h2 3).trans rfl, (blk_cell h2 4).trans rfl, (blk_cell h2 5).trans rfl, (blk_cell h2 6).trans rfl, (blk_cell h2 7).trans rfl⟩, fun k hk => ?_⟩
    rcases k with _ | _ | _ | k
    · exact (blk_cell h1 0).trans rfl
    · exact (blk_cell h1 1).trans rfl
    · exact (blk_cell h1 2).trans rfl
    · omega⟩
  have H1 := Aside0.mk hB1
  have HS : Aside0 (∀ w', Below w1.heap.size w1 w' → w'.cell? ⟨bo, 1, none⟩ = some (.int .i64 Bk) ∧ w'.cell? ⟨bo, 2, none⟩ = some (.int .i64 Sr) ∧ w'.cell? ⟨bp, mod3 Bk, none⟩ = some (.pointer (some ⟨(d (mod3 Bk)).g, 0, none⟩)) ∧ w'.cell? ⟨bp, mod3 Sr, none⟩ = some (.pointer (some ⟨(d (mod3 Sr)).g, 0, none⟩))) := ⟨fun w' hb => ⟨(HBx.out w' hb).1.2.1, (HBx.out w' hb).1.2.2.1, (HBx.out w' hb).2 _ (mod3_lt _), (HBx.out w' hb).2 _ (mod3_lt _)⟩⟩
  have HK0 := Aside0.mk (HS.out w1 (Below.refl _ _))
  have hi3 := mod3_lt Bk
  have hj3 := mod3_lt Sr
  have hi3' : (mod3 Bk : Int) < 3 := by omega
  have hj3' : (mod3 Sr : Int) < 3 := by omega
  clear hB1 hbk1 hbk2 hbo hbp
  go_region_held3 (fun w' => w'.cell? ⟨bo, 1, none⟩ = some (.int .i64 Bk) ∧ w'.cell? ⟨bo, 2, none⟩ = some (.int .i64 Sr) ∧ w'.cell? ⟨bp, mod3 Bk, none⟩ = some (.pointer (some ⟨(d (mod3 Bk)).g, 0, none⟩)) ∧ w'.cell? ⟨bp, mod3 Sr, none⟩ = some (.pointer (some ⟨(d (mod3 Sr)).g, 0, none⟩))) (first | exact HK2.out | exact HK1.out | exact HK0.out) (first | (go_at_call 30; refine (three_all _ _).mono ?_; first | (have _t := H2; clear _t; rintro e w3 ⟨rfl, hb⟩; have H3 := Aside0.mk (below_next H2.out hb); have HK2 := Aside0.mk (HS.out w3 H3.out); clear hb) | (rintro e w2 ⟨rfl, hb⟩; have H2 := Aside0.mk (below_next (Below.refl w1.heap.size w1).drew hb); have HK1 := Aside0.mk (HS.out w2 H2.out); clear hb)))
  have HB3 := Aside0.mk (below_next H1.out H3.out)
  have HT := Aside0.mk (H.out.below HB3.out)
  clear HK0 HK1 HK2 H2 HS
  obtain ⟨⟨o0, o1, o2, o3, o4, o5, o6, o7⟩, hptr⟩ := HBx.out w3 H3.out
  clear hptr o1 o2
  by_cases k2 : K = 2
  · subst k2
    have HA := Aside0.mk (alloc_all (HT.out.at_ (mod3 Bk) hi3 rfl) A B C)
    have HR := Aside0.mk (fun h => allR_no (sz := (d (mod3 Bk)).sz) (l := (d (mod3 Bk)).l) (k := A) (r := B) (s := C) h)
    generalize allR (d (mod3 Bk)).sz (d (mod3 Bk)).l A B C = X at *
    go_wp2_with fail
    refine HA.out.mono ?_
    rintro e w4 ⟨rfl, gw', gf', hA, n1, n2, hu⟩
    have R := Aside0.mk (And.intro hA (And.intro n1 (And.intro n2 hu)))
    clear hA n1 n2 hu HA
    go_wp2_with fail
    refine (num.calls _ _).mono ?_
    rintro e w5 ⟨rfl, rfl⟩
    go_wp2_with fail
    go_ret
    exact ⟨_, _, rfl, (After.one HT.out hi3 R.out.1 R.out.2.1 R.out.2.2.1 R.out.2.2.2 _ (mod3 Sr) 2 A (by decide) HR.out).lift HB3.out⟩
  · have k2' : (K == 2) = false := beq_eq_false_iff_ne.2 k2
    by_cases k5 : K = 5
    · subst k5
      have HA := Aside0.mk (set_all (HT.out.at_ (mod3 Bk) hi3 rfl) A B V HV.out)
      have HR := Aside0.mk (fun h => setR_no (l := (d (mod3 Bk)).l) (p := A) (i := B) (v := V) h)
      generalize setR (d (mod3 Bk)).l A B V = X at *
      go_wp2_with fail
      refine HA.out.mono ?_
      rintro e w4 ⟨rfl, hA, hu⟩
      have R := Aside0.mk (And.intro hA hu)
      clear hA hu HA
      go_wp2_with fail
      refine (num.calls _ _).mono ?_
      rintro e w5 ⟨rfl, rfl⟩
      go_wp2_with fail
      go_ret
      exact ⟨_, _, rfl, (After.one HT.out hi3 R.out.1 (.inl rfl) (.inl rfl) (R.out.2.mono (fun b hb => .inr (.inl hb))) _ (mod3 Sr) 5 A (by decide) HR.out).lift HB3.out⟩
    · have k5' : (K == 5) = false := beq_eq_false_iff_ne.2 k5
      by_cases k7 : K = 7
      · subst k7
        have HA := Aside0.mk (setBytes_all (HT.out.at_ (mod3 Bk) hi3 rfl) A B bs HC.out.1 Ad cd (fun i x hx => by
          obtain ⟨ad, h1, h2, h3⟩ := HC.out.2 i x hx
          exact ⟨ad, h1, h2 _ hi3, (HB3.out.cell (World.block_lt_of_cell? _ _ h3)).trans h3⟩) hn)
        have HR := Aside0.mk (fun h => stbR_no (l := (d (mod3 Bk)).l) (p := A) (f := B) (bs := bs) h)
        generalize stbR (d (mod3 Bk)).l A B bs = X at *
        go_wp2_with fail
        refine HA.out.mono ?_
        rintro e w4 ⟨rfl, hA, hu⟩
        have R := Aside0.mk (And.intro hA hu)
        clear hA hu HA
        go_wp2_with fail
        refine (num.calls _ _).mono ?_
        rintro e w5 ⟨rfl, rfl⟩
        go_wp2_with fail
        go_ret
        exact ⟨_, _, rfl, (After.one HT.out hi3 R.out.1 (.inl rfl) (.inl rfl) (R.out.2.mono (fun b hb => .inr (.inl hb))) _ (mod3 Sr) 7 A (by decide) HR.out).lift HB3.out⟩
      · have k7' : (K == 7) = false := beq_eq_false_iff_ne.2 k7
        by_cases k8 : K = 8
        · subst k8
          have HA := Aside0.mk (take_all (HT.out.pair hi3 hj3 rfl rfl) A)
          have HTK := Aside0.mk (fun (W' : World) gwa' gfa' hP h1 h2 hu => After.took (W' := W') HT.out hi3 hj3 A (gwa' := gwa') (gfa' := gfa') hP h1 h2 hu)
          generalize takR (d (mod3 Bk)).sz (d (mod3 Bk)).l (d (mod3 Sr)).l A (decide (mod3 Bk = mod3 Sr)) = X at *
          go_wp2_with fail
          refine HA.out.mono ?_
          rintro e w4 ⟨rfl, gwa', gfa', hP, n1, n2, hu⟩
          have R := Aside0.mk (HTK.out w4 gwa' gfa' hP n1 n2 hu)
          clear hP n1 n2 hu HA HTK
          go_wp2_with fail
          refine (num.calls _ _).mono ?_
          rintro e w5 ⟨rfl, rfl⟩
          go_wp2_with fail
          go_ret
          obtain ⟨d', hd'⟩ := R.out
          exact ⟨_, d', rfl, hd'.lift HB3.out⟩
        · have k8' : (K == 8) = false := beq_eq_false_iff_ne.2 k8
          clear k2 k5 k7 k8
          have HO := Aside0.mk (fun W2 (hT : Three W2 d allOn) => object_all (hT.at_ (mod3 Bk) hi3 rfl) A)
          have HMv := Aside0.mk (fun W2 (hT : Three W2 d allOn) => moved_all (hT.at_ (mod3 Bk) hi3 rfl) A)
          have HGt := Aside0.mk (fun W2 (hT : Three W2 d allOn) => get_all (hT.at_ (mod3 Bk) hi3 rfl) A B)
          have HBt := Aside0.mk (fun W2 (hT : Three W2 d allOn) => bytes_all (hT.at_ (mod3 Bk) hi3 rfl) A B C)
          go_wp2_with fail
          refine (HO.out _ HT.out).mono ?_
          rintro e w4 ⟨rfl, hb⟩
          have HT4 := Aside0.mk (HT.out.below hb)
          have H4 := Aside0.mk (below_next H3.out hb)
          have HB4 := Aside0.mk (below_next HB3.out hb)
          clear hb HO o0 o3 o4 o5 o6 o7
          obtain ⟨⟨o0, o1, o2, o3, o4, o5, o6, o7⟩, hptr⟩ := HBx.out w4 H4.out
          clear hptr o0 o1 o2
          go_wp2_with fail
          refine (HMv.out _ HT4.out).mono ?_
          rintro e w5 ⟨rfl, hb⟩
          have HT5 := Aside0.mk (HT4.out.below hb)
          have H5 := Aside0.mk (below_next H4.out hb)
          have HB5 := Aside0.mk (below_next HB4.out hb)
          clear hb HMv o3 o4 o5 o6 o7
          obtain ⟨⟨o0, o1, o2, o3, o4, o5, o6, o7⟩, hptr⟩ := HBx.out w5 H5.out
          clear hptr o0 o1 o2
          go_wp2_with fail
          refine (HGt.out _ HT5.out).mono ?_
          rintro e w6 ⟨rfl, hb⟩
          have HT6 := Aside0.mk (HT5.out.below hb)
          have H6 := Aside0.mk (below_next H5.out hb)
          have HB6 := Aside0.mk (below_next HB5.out hb)
          clear hb HGt o3 o4 o5 o6 o7
          obtain ⟨⟨o0, o1, o2, o3, o4, o5, o6, o7⟩, hptr⟩ := HBx.out w6 H6.out
          clear hptr o0 o1 o2
          go_wp2_with fail
          refine (HBt.out _ HT6.out).mono ?_
          rintro e w7 (⟨er, h1, rfl, hb⟩ | ⟨h1, k', o', f', n', gb, _, _, _, _, _, _, rfl, ht⟩)
          · have HB7 := Aside0.mk (below_next HB6.out hb)
            clear hb h1
            go_wp2_with fail
            go_ret
            exact ⟨true, d, rfl, After.same H.out HB7.out _ _ _ _⟩
          · have HB7 := Aside0.mk (below_next HB6.out ht.below)
            clear ht h1
            go_wp2_with fail
            go_ret
            exact ⟨true, d, rfl, After.same H.out HB7.out _ _ _ _⟩
end Go.Proofs.Ytgjcffjicbmkhaa.RefW
