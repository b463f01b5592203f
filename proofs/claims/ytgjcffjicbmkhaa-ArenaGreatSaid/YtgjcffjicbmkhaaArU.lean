/- The arena's Take, where there is room. -/
import Derived.Test.YtgjcffjicbmkhaaArT
namespace Go.Proofs.Ytgjcffjicbmkhaa.ArU
open Go Go.RowKit Go.Proofs.YtgjcffjicbmkhaaW.PrintWords Go.Proofs.YtgjcffjicbmkhaaW.PrintLast Go.Proofs.YtgjcffjicbmkhaaW.PrintMore Go.Proofs.Ytgjcffjicbmkhaa.RowU Go.Proofs.Ytgjcffjicbmkhaa.ArS Go.Proofs.Ytgjcffjicbmkhaa.ArM Go.Proofs.Ytgjcffjicbmkhaa.ArW Go.Proofs.Ytgjcffjicbmkhaa.ArX Go.Proofs.Ytgjcffjicbmkhaa.ArY Go.Proofs.Ytgjcffjicbmkhaa.ArZ Go.Proofs.Ytgjcffjicbmkhaa.ArT
set_option linter.unusedVariables false
set_option maxRecDepth 100000

theorem extend.calls' {W : World} {g gw gf sz : Nat} {l : List Ob} (hA : ArAt W g gw gf sz l) (o : Ob) (ho : o.ok) (hg : o.gone = none) (hfit : used l + (1 + o.fields.length) ≤ sz) (x : Int) (hn : x = 1 + o.fields.length) :
    Calls Try.prog 51 #[.pointer (some ⟨g, 0, none⟩), .int .u64 (o.head : Int), .int .i64 x] W fun e w' => e = .returned (.int .i64 (used l : Int)) ∧
      ∃ gw' gf', ArAt w' g gw' gf' sz (l ++ [Ob.blank o]) ∧ (gw' = gw ∨ W.heap.size ≤ gw') ∧ (gf' = gf ∨ W.heap.size ≤ gf') ∧ Upd (three_ g gw gf) W w' := by
  obtain ⟨cw, cf, fs, hA⟩ := hA
  obtain rfl : x = ((1 + o.fields.length : Nat) : Int) := by omega
  have := extend.calls hA (Ob.blank o) (blank_ok ho) o.fields.length rfl hfit _ rfl
  rw [blank_head hg] at this
  exact this
/-- What Take leaves. -/
structure Took (W w' : World) (ga gwa gfa sza : Nat) (la : List Ob) (gs gws gfs szs : Nat) (ls : List Ob) (same : Bool) (k : Nat) (o : Ob) (gwa' gfa' : Nat) : Prop where
  P : Pair w' ga gwa' gfa' sza (if same then (la ++ [o]).set k (Ob.went o (used la)) else la ++ [o]) gs (if same then gwa' else gws) (if same then gfa' else gfs) szs ((if same then la ++ [o] else ls).set k (Ob.went o (used la))) same
  nw : gwa' = gwa ∨ W.heap.size ≤ gwa'
  nf : gfa' = gfa ∨ W.heap.size ≤ gfa'
  upd : Upd (fun b => three_ ga gwa gfa b ∨ three_ gs gws gfs b) W w'
theorem went_if (la ls : List Ob) (o : Ob) (same : Bool) (k t : Nat) : (if same then (if same then la ++ [o] else ls).set k (Ob.went o t) else la ++ [o]) = (if same then (la ++ [o]).set k (Ob.went o t) else la ++ [o]) := by cases same <;> rfl
theorem six_wraps {u p n D P E : Nat} (h : (u : Int) + 1 = (D : Int) ∧ (p : Int) + 1 = (P : Int) ∧ (p : Int) + (1 + (n : Int)) = (E : Int) ∧ (D : Int) < 9223372036854775808 ∧ (P : Int) < 9223372036854775808 ∧ (E : Int) < 9223372036854775808) :
    wrap64 ((u : Int) + 1) = (D : Int) ∧ wrap64 ((p : Int) + 1) = (P : Int) ∧ wrap64 ((p : Int) + (1 + (n : Int))) = (E : Int) ∧ IntKind.i64.wrap ((u : Int) + 1) = (D : Int) ∧ IntKind.i64.wrap ((p : Int) + 1) = (P : Int) ∧ IntKind.i64.wrap ((p : Int) + (1 + (n : Int))) = (E : Int) := by
  obtain ⟨h1, h2, h3, h4, h5, h6⟩ := h
  have w : ∀ x : Int, 0 ≤ x → x < 9223372036854775808 → IntKind.i64.wrap x = x := fun x _ _ => by rw [IntKind.wrap_i64]; omega
  rw [h1, h2, h3]
  exact ⟨w64_small _ (by omega) h4, w64_small _ (by omega) h5, w64_small _ (by omega) h6, w _ (by omega) h4, w _ (by omega) h5, w _ (by omega) h6⟩
theorem fit_up {D n U : Nat} {l : List Ob} (h1 : U - D = n) (h2 : D + n = U) (h3 : U = used l) : D + (U - D) ≤ (words l).length := by
  have : (words l).length = used l := rfl
  omega
set_option maxHeartbeats 4000000 in
theorem take.yes {W : World} {ga gwa gfa sza : Nat} {la : List Ob} {gs gws gfs szs : Nat} {ls : List Ob} {same : Bool} (hP : Pair W ga gwa gfa sza la gs gws gfs szs ls same) {k : Nat} {o : Ob} (h : ls[k]? = some o) (hg : o.gone = none) (hfit : used la + (1 + o.fields.length) ≤ sza) :
    Calls Try.prog 42 #[.pointer (some ⟨ga, 0, none⟩), .pointer (some ⟨gs, 0, none⟩), .int .i64 (place ls k : Int)] W fun e w' => e = .returned (.tuple #[.int .i64 (used la : Int), .int .i64 0]) ∧ ∃ gwa' gfa', Took W w' ga gwa gfa sza la gs gws gfs szs ls same k o gwa' gfa' := by
  have HB := Aside0.mk (moved.no hP.S h hg)
  have HF := Aside0.mk (fun (W2 : World) (h2 : ArAt W2 gs gws gfs szs ls) => fields.yes' h2 h hg)
  obtain ⟨hok, hszs, hszA⟩ : o.ok ∧ used ls ≤ 1048576 ∧ sza ≤ 1048576 := by
    obtain ⟨_, _, _, hS⟩ := hP.S
    obtain ⟨_, _, _, hA⟩ := hP.A
    exact ⟨hS.ok o (List.mem_of_getElem? h), Nat.le_trans hS.fit hS.sz1, hA.sz1⟩
  have hpl := used_split h
  have hn : o.fields.length ≤ 1048576 := by omega
  obtain ⟨n, hne⟩ : ∃ n, n = o.fields.length := ⟨_, rfl⟩
  obtain ⟨u, hue⟩ : ∃ u, u = used la := ⟨_, rfl⟩
  obtain ⟨q, hq⟩ : ∃ q, q = 1 + n := ⟨_, rfl⟩
  have HX := Aside0.mk (fun (W2 : World) (h2 : ArAt W2 ga gwa gfa sza la) => extend.calls' h2 o hok hg hfit (1 + (n : Int)) (by omega))
  rw [← hue] at HX hfit
  rw [← hue]
  rw [← hne] at hn HF hfit hpl
  obtain ⟨z, hz⟩ : ∃ z, z = sza - u := ⟨_, rfl⟩
  have e2 : IntKind.i64.wrap ((sza : Int) - u) = (z : Int) := by rw [hz, IntKind.wrap_i64]; omega
  have c1 : decide ((z : Int) < 1 + (n : Int)) = false := decide_eq_false (by omega)
  have c2 : 1 + (n : Int) ≤ (z : Int) := by omega
  have hub : u ≤ 1048576 := by omega
  obtain ⟨p, hp⟩ : ∃ p, p = place ls k := ⟨_, rfl⟩
  rw [← hp] at HB HF hpl
  rw [← hp]
  have HE := Aside0.mk (And.intro hne (And.intro hue (And.intro hp (And.intro h (And.intro hg hok)))))
  have HP := Aside0.mk hP
  have HHD := Aside0.mk (blank_head hg)
  obtain ⟨r, hr⟩ : ∃ r, r = o.refs := ⟨_, rfl⟩
  rw [← hr] at HF
  have HN := Aside0.mk (And.intro hq (And.intro hfit (And.intro hpl (And.intro hszs hszA))))
  clear hP h hg hne hue hq hz hfit hpl hp hok hszs hszA hr
  go_enter Try.func42, Try.ntmps42
  go_wp2_with fail
  refine HB.out.mono ?_
  rintro e w2 ⟨rfl, hb⟩
  have H2 := Aside0.mk hb
  have HP2 := Aside0.mk (HP.out.below hb)
  clear hb HB
  go_wp2_with fail
  refine (HF.out w2 HP2.out.S).mono ?_
  rintro e w3 ⟨⟨A, rfl⟩, hb⟩
  have H3 := Aside0.mk (below_next H2.out hb)
  have HP3 := Aside0.mk (HP2.out.below hb)
  clear hb HF H2 HP2
  obtain ⟨cwa, cfa, fsa, hA3⟩ := HP3.out.A
  have a0 := hA3.c0
  have a1 := hA3.c1
  rw [← HE.out.2.1] at a1
  clear hA3
  go_upto_region 8 with fail
  go_region_held3 (fun w' => w'.cell? ⟨ga, 0, none⟩ = some (Value.int IntKind.i64 sza) ∧ w'.cell? ⟨ga, 1, none⟩ = some (Value.slice (some { block := gwa, off := 0 }) u cwa)) (exact ⟨a0, a1⟩) (fail)
  have HP4 := Aside0.mk (HP3.out.below (Below.refl w3.heap.size w3).drew)
  have H4 := Aside0.mk H3.out.drew
  clear a0 a1 HP3 H3
  generalize w3.drew = w4 at *
  obtain ⟨cws, cfs, fss, hS4⟩ := HP4.out.S
  have b1 := hS4.c1
  have hpu : p < used ls := by have := HN.out.2.2.1; omega
  have b2 : w4.cell? ⟨gws, p, none⟩ = some (.int .u64 (o.head : Int)) := by
    have := hS4.ws.get _ _ (words_head HE.out.2.2.2.1)
    rw [← HE.out.2.2.1] at this
    exact this
  clear hS4
  go_upto_region 11 with (go_at_call 51; refine (HX.out w4 HP4.out.A).mono ?_; rintro e w5 ⟨rfl, gwa', gfa', r1, r2, r3, r4⟩; have R := Aside0.mk (And.intro r1 (And.intro r2 (And.intro r3 r4))); clear r1 r2 r3 r4 HX)
  clear b1 b2
  obtain ⟨P5, k5, pl5⟩ := Pair.grown HP4.out R.out.1 R.out.2.1 R.out.2.2.1 R.out.2.2.2 HE.out.2.2.2.1
  have HP5 := Aside0.mk P5
  have HK5 := Aside0.mk (And.intro k5 pl5)
  clear P5 k5 pl5
  obtain ⟨cw5, cf5, fs5, hA5⟩ := HP5.out.A
  obtain ⟨cs5, cg5, fg5, hS5⟩ := HP5.out.S
  obtain ⟨U, hU⟩ : ∃ U, U = used (la ++ [Ob.blank o]) := ⟨_, rfl⟩
  have hU1 : U = u + 1 + n := by rw [hU, used_snoc, blank_len, HE.out.2.1, HE.out.1]; omega
  obtain ⟨V, hV⟩ : ∃ V, V = used (if same then la ++ [Ob.blank o] else ls) := ⟨_, rfl⟩
  have hV1 : p + 1 + n ≤ V := by rw [hV, HE.out.2.2.1, HE.out.1, ← HK5.out.2]; exact used_split HK5.out.1
  have hVb : V ≤ 1048576 := by rw [hV]; exact Nat.le_trans hS5.fit hS5.sz1
  have hVc : V ≤ cs5 := by obtain ⟨cur, h1, h2, h3, _⟩ := hS5.ws; rw [hV]; exact h3
  have hUc : U ≤ cw5 := by obtain ⟨cur, h1, h2, h3, _⟩ := hA5.ws; rw [hU]; exact h3
  have hUb : U ≤ 1048576 := by rw [hU]; exact Nat.le_trans hA5.fit hA5.sz1
  have b1 := hA5.c1
  rw [← hU] at b1
  have b2 := hS5.c1
  rw [← hV] at b2
  generalize hgws5 : (if same then gwa' else gws) = gws5 at *
  generalize hgfs5 : (if same then gfa' else gfs) = gfs5 at *
  have HA5 := Aside0.mk hA5
  have HS5 := Aside0.mk hS5
  obtain ⟨P, hP⟩ : ∃ P, P = p + 1 := ⟨_, rfl⟩
  obtain ⟨D, hD⟩ : ∃ D, D = u + 1 := ⟨_, rfl⟩
  obtain ⟨E, hE⟩ : ∃ E, E = p + q := ⟨_, rfl⟩
  have hq1 := HN.out.1
  have k1 : D ≤ U := by omega
  have k2 : P ≤ E := by omega
  have k3 : E ≤ V := by omega
  have k4 : E ≤ cs5 := by omega
  have k5 : D ≤ cw5 := by omega
  have HQ : Aside0 ((0 < n → ¬ (cw5 = D) ∧ ¬ (cs5 = P) ∧ D < U ∧ P < E) ∧ (n = 0 → D = U ∧ P = E) ∧ U - D = n ∧ E - P = n ∧ D + n = U ∧ D = u + 1 ∧ P = p + 1 ∧ U = u + 1 + n) := ⟨by omega, by omega, by omega, by omega, by omega, by omega, by omega, by omega⟩
  have HEQ : Aside0 ((u : Int) + 1 = (D : Int) ∧ (p : Int) + 1 = (P : Int) ∧ (p : Int) + (1 + (n : Int)) = (E : Int) ∧ (D : Int) < 9223372036854775808 ∧ (P : Int) < 9223372036854775808 ∧ (E : Int) < 9223372036854775808) := ⟨by omega⟩
  have HUV := Aside0.mk (And.intro hU hV)
  have HG5 := Aside0.mk (And.intro hgws5 hgfs5)
  clear hU hV hU1 hV1 hP hD hE hq1 hVc hgws5 hgfs5 hA5 hS5
  obtain ⟨e3, e4, e5, e3', e4', e5'⟩ := six_wraps HEQ.out
  by_cases hn0 : 0 < n
  · obtain ⟨hDc, hPc, hDE, hPE⟩ := HQ.out.1 hn0
    go_still_tail 17, (by kernel_rfl)
    change wpList _ _ _ _ _ w5.drew
    have hb5 : Below w5.heap.size w5 w5.drew := (Below.refl w5.heap.size w5).drew
    have HWS := Aside0.mk (HA5.out.ws.below hb5)
    have HFS : Aside0 (∀ j y, o.fields[j]? = some y → w5.drew.cell? ((⟨gws5, P, none⟩ : Addr).add j) = some (u64 y)) := ⟨by
      intro j y hj
      have hjl : j < o.fields.length := (List.getElem?_eq_some_iff.1 hj).1
      have h1 := (HS5.out.ws.below hb5).get _ y ((words_field HK5.out.1 j hjl).trans hj)
      rw [HK5.out.2, ← HE.out.2.2.1] at h1
      rw [HQ.out.2.2.2.2.2.2.1, Addr.add_lit]
      exact h1⟩
    refine wpList_plain rfl fun K hK' => oper_copyW _ (.tmp 69) (.tmp 79) rfl gwa' D (U - D) (cw5 - D) rfl ⟨gws5, P, none⟩ (E - P) (cs5 - P) rfl cw5 (words (la ++ [Ob.blank o])) HWS.out o.fields ?hl2 ?hle ?hfi HFS.out ?_
    case hl2 => rw [HQ.out.2.2.2.1]; exact HE.out.1.symm
    case hle => rw [HQ.out.2.2.1, HQ.out.2.2.2.1]; exact Nat.le_refl _
    case hfi => exact fit_up HQ.out.2.2.1 HQ.out.2.2.2.2.1 HUV.out.1
    intro w7 hw7 hu7
    have HW7 : Aside0 (WordsAt w7 gwa' cw5 (words (la ++ [o]))) := ⟨by
      rw [HQ.out.2.2.2.1, HQ.out.2.2.2.2.2.1, HE.out.2.1, HE.out.1, splice_words la o HE.out.2.2.2.2.1] at hw7
      exact hw7⟩
    have HU7 : Aside0 (Upd (fun b => b = gwa') w5 w7) := ⟨(Upd.of_below hb5).trans hu7⟩
    refine hK' _ _ ?_
    clear hw7 hu7 hK' K b1 b2 e3 e4 e5 e3' e4' e5'

    have HP7 := Aside0.mk (Pair.filled (o' := o) HP5.out HE.out.2.2.2.2.2 (by rw [blank_len]) HW7.out (fun cw' cf fs hx => by have h1 := (hx.c1).symm.trans HA5.out.c1; simp at h1; exact h1) HU7.out)
    clear HW7
    obtain ⟨cs7, cg7, fg7, hS7⟩ := HP7.out.S
    have b1 := hS7.c1
    have hk7 : (if same then la ++ [o] else ls)[k]? = some o ∧ place (if same then la ++ [o] else ls) k = p := by
      cases same with
      | true =>
        obtain ⟨_, _, _, _, hl⟩ := HP.out.R
        have hk0 := HE.out.2.2.2.1
        have hkl := (List.getElem?_eq_some_iff.1 hk0).1
        simp only [if_true]
        rw [hl] at hk0 hkl
        exact ⟨by rw [List.getElem?_append_left hkl]; exact hk0, by rw [place_snoc la o k (Nat.le_of_lt hkl), ← hl]; exact HE.out.2.2.1.symm⟩
      | false => exact ⟨HE.out.2.2.2.1, HE.out.2.2.1.symm⟩
    have hpv : p < used (if same then la ++ [o] else ls) := by rw [← hk7.2]; exact place_lt hk7.1
    have hc7 : w7.cell? ⟨gws5, p, none⟩ = some (.int .u64 (o.head : Int)) := by
      have := hS7.ws.get _ _ (words_head hk7.1)
      rw [hk7.2] at this
      exact this
    have hf7 := hS7.ws.frozen p
    have hcv : IntKind.u64.wrap (u : Int) = (u : Int) := by rw [IntKind.wrap_u64]; omega
    have hor := NumB.gone_or u (by omega)
    have HK7 := Aside0.mk hk7
    have HV7 : ∃ v7, v7 = used (if same then la ++ [o] else ls) := ⟨_, rfl⟩
    obtain ⟨v7, hv7⟩ := HV7
    rw [← hv7] at b1 hpv
    obtain ⟨top, htop⟩ : ∃ t : Nat, t = 9223372036854775808 + u := ⟨_, rfl⟩
    rw [← htop] at hor
    have HTOP := Aside0.mk htop
    clear hk7 hS7 hv7 htop
    go_wp2_with fail
    go_ret2
    have hgw := Pair.went HP7.out HK7.out.1 u (by omega)
    rw [HK7.out.2, ← HTOP.out, ← HG5.out.1, ← HG5.out.2, went_if, HE.out.2.1] at hgw
    refine ⟨by first | rfl | (rw [HE.out.2.1]; rfl), gwa', gfa', ⟨?_, ?_, ?_, ?_⟩⟩
    · rw [← HG5.out.1]; rw [HE.out.2.1] at *; exact hgw
    · rcases R.out.2.1 with h | h
      · exact .inl h
      · exact .inr (Nat.le_trans H4.out.size h)
    · rcases R.out.2.2.1 with h | h
      · exact .inl h
      · exact .inr (Nat.le_trans H4.out.size h)
    · have u1 : Upd (fun b => three_ ga gwa gfa b ∨ three_ gs gws gfs b) W w5 := (Upd.of_below H4.out).trans (R.out.2.2.2.mono (fun i hi => .inl hi))
      have hin : ∀ i, i = gwa' → (three_ ga gwa gfa i ∨ three_ gs gws gfs i) ∨ W.heap.size ≤ i := by
        rintro i rfl
        rcases R.out.2.1 with h | h
        · exact .inl (.inl (.inr (.inl h)))
        · exact .inr (Nat.le_trans H4.out.size h)
      refine (u1.trans2 HU7.out hin).put ?_ _ _
      rw [← HG5.out.1]
      cases same with
      | true => exact hin _ rfl
      | false => exact .inl (.inr (.inr (.inl rfl)))
  · obtain ⟨hDU, hPE⟩ := HQ.out.2.1 (Nat.eq_zero_of_not_pos hn0)
    have hDU' : D ≤ U := Nat.le_of_eq hDU
    have hEP : Aside0 (E - P = 0 ∧ o.fields.length = 0) := ⟨by rw [hPE]; exact Nat.sub_self _, by rw [← HE.out.1]; exact Nat.eq_zero_of_not_pos hn0⟩
    clear hDU hPE
    go_still_tail 17, (by kernel_rfl)
    change wpList _ _ _ _ _ w5.drew
    have hb5 : Below w5.heap.size w5 w5.drew := (Below.refl w5.heap.size w5).drew
    obtain ⟨w7, hw7⟩ : ∃ w7, w7 = w5.drew := ⟨_, rfl⟩
    have HU7 : Aside0 (Upd (fun b => b = gwa') w5 w7) := ⟨hw7 ▸ Upd.of_below hb5⟩
    have HW7 : Aside0 (WordsAt w7 gwa' cw5 (words (la ++ [o]))) := ⟨by
      have := HA5.out.ws.below hb5
      rw [← splice_words la o HE.out.2.2.2.2.1, List.eq_nil_of_length_eq_zero hEP.out.2, List.append_nil, List.length_nil, Nat.add_zero, List.take_append_drop, hw7]
      exact this⟩
    generalize (if cw5 = D then some (⟨gwa', 0, none⟩ : Addr) else some ⟨gwa', D, none⟩) = dpx
    generalize (if cs5 = P then some (⟨gws5, 0, none⟩ : Addr) else some ⟨gws5, P, none⟩) = spx
    refine wpList_plain rfl fun K hK' => oper_copy0 _ (.tmp 69) (.tmp 79) rfl _ spx _ _ (cs5 - P) rfl ?hs ?_
    case hs => exact congrArg (fun x => Value.slice _ x _) hEP.out.1
    refine hK' _ _ ?_
    rw [← hw7]
    clear hw7 hK' K b1 b2 e3 e4 e5 e3' e4' e5' hDU'

    have HP7 := Aside0.mk (Pair.filled (o' := o) HP5.out HE.out.2.2.2.2.2 (by rw [blank_len]) HW7.out (fun cw' cf fs hx => by have h1 := (hx.c1).symm.trans HA5.out.c1; simp at h1; exact h1) HU7.out)
    clear HW7
    obtain ⟨cs7, cg7, fg7, hS7⟩ := HP7.out.S
    have b1 := hS7.c1
    have hk7 : (if same then la ++ [o] else ls)[k]? = some o ∧ place (if same then la ++ [o] else ls) k = p := by
      cases same with
      | true =>
        obtain ⟨_, _, _, _, hl⟩ := HP.out.R
        have hk0 := HE.out.2.2.2.1
        have hkl := (List.getElem?_eq_some_iff.1 hk0).1
        simp only [if_true]
        rw [hl] at hk0 hkl
        exact ⟨by rw [List.getElem?_append_left hkl]; exact hk0, by rw [place_snoc la o k (Nat.le_of_lt hkl), ← hl]; exact HE.out.2.2.1.symm⟩
      | false => exact ⟨HE.out.2.2.2.1, HE.out.2.2.1.symm⟩
    have hpv : p < used (if same then la ++ [o] else ls) := by rw [← hk7.2]; exact place_lt hk7.1
    have hc7 : w7.cell? ⟨gws5, p, none⟩ = some (.int .u64 (o.head : Int)) := by
      have := hS7.ws.get _ _ (words_head hk7.1)
      rw [hk7.2] at this
      exact this
    have hf7 := hS7.ws.frozen p
    have hcv : IntKind.u64.wrap (u : Int) = (u : Int) := by rw [IntKind.wrap_u64]; omega
    have hor := NumB.gone_or u (by omega)
    have HK7 := Aside0.mk hk7
    have HV7 : ∃ v7, v7 = used (if same then la ++ [o] else ls) := ⟨_, rfl⟩
    obtain ⟨v7, hv7⟩ := HV7
    rw [← hv7] at b1 hpv
    obtain ⟨top, htop⟩ : ∃ t : Nat, t = 9223372036854775808 + u := ⟨_, rfl⟩
    rw [← htop] at hor
    have HTOP := Aside0.mk htop
    clear hk7 hS7 hv7 htop
    go_wp2_with fail
    go_ret2
    have hgw := Pair.went HP7.out HK7.out.1 u (by omega)
    rw [HK7.out.2, ← HTOP.out, ← HG5.out.1, ← HG5.out.2, went_if, HE.out.2.1] at hgw
    refine ⟨by first | rfl | (rw [HE.out.2.1]; rfl), gwa', gfa', ⟨?_, ?_, ?_, ?_⟩⟩
    · rw [← HG5.out.1]; rw [HE.out.2.1] at *; exact hgw
    · rcases R.out.2.1 with h | h
      · exact .inl h
      · exact .inr (Nat.le_trans H4.out.size h)
    · rcases R.out.2.2.1 with h | h
      · exact .inl h
      · exact .inr (Nat.le_trans H4.out.size h)
    · have u1 : Upd (fun b => three_ ga gwa gfa b ∨ three_ gs gws gfs b) W w5 := (Upd.of_below H4.out).trans (R.out.2.2.2.mono (fun i hi => .inl hi))
      have hin : ∀ i, i = gwa' → (three_ ga gwa gfa i ∨ three_ gs gws gfs i) ∨ W.heap.size ≤ i := by
        rintro i rfl
        rcases R.out.2.1 with h | h
        · exact .inl (.inl (.inr (.inl h)))
        · exact .inr (Nat.le_trans H4.out.size h)
      refine (u1.trans2 HU7.out hin).put ?_ _ _
      rw [← HG5.out.1]
      cases same with
      | true => exact hin _ rfl
      | false => exact .inl (.inr (.inr (.inl rfl)))
end Go.Proofs.Ytgjcffjicbmkhaa.ArU
