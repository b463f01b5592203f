/- The arena's Take. -/
import Derived.Test.YtgjcffjicbmkhaaArZ
namespace Go.Proofs.Ytgjcffjicbmkhaa.ArT
open Go Go.RowKit Go.Proofs.YtgjcffjicbmkhaaW.PrintWords Go.Proofs.YtgjcffjicbmkhaaW.PrintLast Go.Proofs.YtgjcffjicbmkhaaW.PrintMore Go.Proofs.Ytgjcffjicbmkhaa.RowU Go.Proofs.Ytgjcffjicbmkhaa.ArS Go.Proofs.Ytgjcffjicbmkhaa.ArM Go.Proofs.Ytgjcffjicbmkhaa.ArW Go.Proofs.Ytgjcffjicbmkhaa.ArX Go.Proofs.Ytgjcffjicbmkhaa.ArY Go.Proofs.Ytgjcffjicbmkhaa.ArZ
set_option linter.unusedVariables false
set_option maxRecDepth 100000

set_option maxHeartbeats 1600000 in
theorem take.bad {W : World} {ga gs gws gfs szs : Nat} {ls : List Ob} (hS : ArAt W gs gws gfs szs ls) (p : Int) (h : ¬ ∃ q : Nat, p = q ∧ begins ls q) :
    Calls Try.prog 42 #[.pointer (some ⟨ga, 0, none⟩), .pointer (some ⟨gs, 0, none⟩), .int .i64 p] W fun e w' => e = .returned (.tuple #[.int .i64 0, .int .i64 23]) ∧ Below W.heap.size W w' := by
  have HB := Aside0.mk (moved.bad hS p h)
  clear hS h
  go_enter Try.func42, Try.ntmps42
  go_wp2_with fail
  refine HB.out.mono ?_
  rintro e w2 ⟨rfl, hb⟩
  have H2 := Aside0.mk hb
  clear hb HB
  go_wp2_with fail
  go_ret2
  exact ⟨rfl, H2.out⟩
set_option maxHeartbeats 1600000 in
theorem take.moved {W : World} {ga gs gws gfs szs : Nat} {ls : List Ob} (hS : ArAt W gs gws gfs szs ls) {k : Nat} {o : Ob} {t : Nat} (h : ls[k]? = some o) (hg : o.gone = some t) :
    Calls Try.prog 42 #[.pointer (some ⟨ga, 0, none⟩), .pointer (some ⟨gs, 0, none⟩), .int .i64 (place ls k : Int)] W fun e w' => e = .returned (.tuple #[.int .i64 (t : Int), .int .i64 0]) ∧ Below W.heap.size W w' := by
  have HB := Aside0.mk (moved.yes hS h hg)
  generalize place ls k = p at *
  clear hS h hg
  go_enter Try.func42, Try.ntmps42
  go_wp2_with fail
  refine HB.out.mono ?_
  rintro e w2 ⟨rfl, hb⟩
  have H2 := Aside0.mk hb
  clear hb HB
  go_wp2_with fail
  go_ret2
  exact ⟨rfl, H2.out⟩
theorem fields.yes' {W : World} {g gw gf sz : Nat} {l : List Ob} (hA : ArAt W g gw gf sz l) {k : Nat} {o : Ob} (h : l[k]? = some o) (hg : o.gone = none) :
    Calls Try.prog 37 #[.pointer (some ⟨g, 0, none⟩), .int .i64 (place l k : Int)] W fun e w' => (∃ A, e = .returned (.tuple #[.slice (some A) o.fields.length o.fields.length, .int .i64 o.refs, .int .i64 0])) ∧ Below W.heap.size W w' := by
  obtain ⟨cw, cf, fs, hA⟩ := hA
  exact (fields.yes hA h hg).mono (fun e w' ⟨⟨A, _, h⟩, hb⟩ => ⟨⟨A, h⟩, hb⟩)
set_option maxHeartbeats 1600000 in
theorem take.full {W : World} {ga gwa gfa sza gs gws gfs szs : Nat} {la ls : List Ob} (hA : ArAt W ga gwa gfa sza la) (hS : ArAt W gs gws gfs szs ls) {k : Nat} {o : Ob} (h : ls[k]? = some o) (hg : o.gone = none) (hfull : sza < used la + (1 + o.fields.length)) :
    Calls Try.prog 42 #[.pointer (some ⟨ga, 0, none⟩), .pointer (some ⟨gs, 0, none⟩), .int .i64 (place ls k : Int)] W fun e w' => e = .returned (.tuple #[.int .i64 0, .int .i64 22]) ∧ Below W.heap.size W w' := by
  have HB := Aside0.mk (moved.no hS h hg)
  have HF := Aside0.mk (fun (W2 : World) (h2 : ArAt W2 gs gws gfs szs ls) => fields.yes' h2 h hg)
  have HS := Aside0.mk hS
  obtain ⟨cw, cf, fs, hA⟩ := hA
  have hn : o.fields.length ≤ 4194304 := by have := used_split h; obtain ⟨_, _, _, hS⟩ := hS; have := hS.fit; have := hS.sz1; omega
  obtain ⟨n, hne⟩ : ∃ n, n = o.fields.length := ⟨_, rfl⟩
  obtain ⟨u, hue⟩ : ∃ u, u = used la := ⟨_, rfl⟩
  have hsz := hA.sz1
  have hfi := hA.fit
  rw [← hue] at hfull hfi
  rw [← hne] at hfull hn HF
  have HU := Aside0.mk hue
  have HA := Aside0.mk hA
  have e1 : wrap64 ((1 : Int) + n) = ((1 + n : Nat) : Int) := by rw [w64_small _ (by omega) (by omega)]; omega
  obtain ⟨z, hz⟩ : ∃ z, z = sza - u := ⟨_, rfl⟩
  obtain ⟨q, hq⟩ : ∃ q, q = 1 + n := ⟨_, rfl⟩
  rw [← hq] at e1
  have e2 : IntKind.i64.wrap ((sza : Int) - u) = (z : Int) := by rw [hz, IntKind.wrap_i64]; omega
  have c1 : decide ((z : Int) < (q : Int)) = true := decide_eq_true (by omega)
  have c2 : z < q := by omega
  generalize place ls k = p at *
  generalize o.refs = r at *
  clear hS h hg hA hne hue hz hq hfull hfi hn
  go_enter Try.func42, Try.ntmps42
  go_wp2_with fail
  refine HB.out.mono ?_
  rintro e w2 ⟨rfl, hb⟩
  have H2 := Aside0.mk hb
  have HS2 := Aside0.mk (HS.out.below hb)
  clear hb HB
  go_wp2_with fail
  refine (HF.out w2 HS2.out).mono ?_
  rintro e w3 ⟨⟨A, rfl⟩, hb⟩
  have H3 := Aside0.mk (below_next H2.out hb)
  have HA3 := Aside0.mk (HA.out.upd (S := none_) (Upd.of_below (below_next H2.out hb)) (fun h => h) (fun h => h) (fun h => h))
  clear hb HF
  have a0 := HA3.out.c0
  have a1 := HA3.out.c1
  rw [← HU.out] at a1
  go_upto_region 8 with fail
  go_region_held3 (fun w' => w'.cell? ⟨ga, 0, none⟩ = some (Value.int IntKind.i64 sza) ∧ w'.cell? ⟨ga, 1, none⟩ = some (Value.slice (some { block := gwa, off := 0 }) u cw)) (exact ⟨a0, a1⟩) (fail)
  go_wp2_with fail
  go_ret2
  exact ⟨rfl, H3.out.drew⟩
/-- copy of words onto a block of words. -/
theorem oper_copyW {o : Oper} {a : Act} {K : Act → World → Prop} {Q : Exit → Act → World → Prop} (w : World) (d s : Operand)
    (hop : o.op = Op.call { callee := Callee.builtin Builtin.copy, args := #[d, s], argTypes := #[34, 34] })
    (g off dLen dCap : Nat) (hd : a.eval d = .slice (some ⟨g, off, none⟩) dLen dCap) (ad : Addr) (sLen sCap : Nat) (hs : a.eval s = .slice (some ad) sLen sCap)
    (cap : Nat) (l : List Nat) (hw : WordsAt w g cap l) (l2 : List Nat) (hl2 : l2.length = sLen) (hle : sLen ≤ dLen) (hfit : off + dLen ≤ l.length) (hc : ∀ j y, l2[j]? = some y → w.cell? (ad.add j) = some (u64 y))
    (hK : ∀ w', WordsAt w' g cap (l.take off ++ l2 ++ l.drop (off + sLen)) → Upd (fun k => k = g) w w' → K (a.put o.dst (.int .i64 (sLen : Int))) w') :
    Oper.wp Try.prog o a w K Q := by
  obtain ⟨cur, h1, h2, h3, h4, h5⟩ := hw
  have hsz : (Try.prog.info? 36).map (·.size) = some 1 := by kernel_rfl
  have hrun := run_copy_row (P := Try.prog) w 34 34 o.type 36 g off dLen dCap ad sLen sCap cur.toArray 36 (l2.map u64) Try.underlying34 hsz h1 (by rw [List.length_map, hl2]; exact (Nat.min_eq_left hle).symm) (by
    intro j u hu
    rw [List.getElem?_map, Option.map_eq_some_iff] at hu
    obtain ⟨y, hy, rfl⟩ := hu
    exact hc j y hy) (by simp; omega) (by intro u hu; obtain ⟨y, _, rfl⟩ := List.mem_map.1 hu; rfl)
  unfold Oper.wp
  simp [execOp, hop, resolve, invoke, builtin, hd, hs, hrun, Result.andThen, goInt, hl2]
  refine hK (w.setRow g (cur.take off ++ (l2.map u64 ++ cur.drop (off + sLen))).toArray) ?wa ?up
  case wa =>
    refine ⟨cur.take off ++ (l2.map u64 ++ cur.drop (off + sLen)), ?_, ?_, ?_, h4, ?_⟩
    · exact setRow_heap w g _ _ _ _ h1
    · simp; omega
    · simp; omega
    · have e1 : (cur.take off) = (l.take off).map u64 := by
        rw [List.map_take, ← h5, List.take_take, Nat.min_eq_left (by omega)]
      have e2 : (cur.drop (off + sLen)).take (l.length - (off + sLen)) = (l.drop (off + sLen)).map u64 := by
        rw [List.map_drop, ← h5, List.drop_take]
      have ll : (l.take off ++ l2 ++ l.drop (off + sLen)).length = off + (sLen + (l.length - (off + sLen))) := by simp; omega
      rw [ll, List.map_append, List.map_append, List.append_assoc, ← e1, ← e2]
      rw [List.take_append, List.take_append]
      congr 1
      · exact List.take_of_length_le (by simp; omega)
      · congr 1
        · exact List.take_of_length_le (by simp; omega)
        · congr 1
          simp
          omega
  case up => exact ⟨rfl, rfl, rfl, by simp [World.setRow], fun k hk hn => setRow_other w g k _ hn⟩
/-- copy of nothing. -/
theorem oper_copy0 {o : Oper} {a : Act} {K : Act → World → Prop} {Q : Exit → Act → World → Prop} (w : World) (d s : Operand)
    (hop : o.op = Op.call { callee := Callee.builtin Builtin.copy, args := #[d, s], argTypes := #[34, 34] })
    (dp sp : Option Addr) (dLen dCap sCap : Nat) (hd : a.eval d = .slice dp dLen dCap) (hs : a.eval s = .slice sp 0 sCap)
    (hK : K (a.put o.dst (.int .i64 0)) w) : Oper.wp Try.prog o a w K Q := by
  have hsz : (Try.prog.info? 36).map (·.size) = some 1 := by kernel_rfl
  have hrun := run_copy_none (P := Try.prog) w 34 34 o.type 36 dp sp dLen dCap 0 sCap Try.underlying34 hsz (Nat.zero_min _)
  unfold Oper.wp
  simp [execOp, hop, resolve, invoke, builtin, hd, hs, hrun, Result.andThen]
  exact hK
/-- An object as Take makes room for it. -/
def Ob.blank (o : Ob) : Ob := ⟨o.kind, o.refs, List.replicate o.fields.length 0, none⟩
theorem blank_len (o : Ob) : (Ob.blank o).fields.length = o.fields.length := by simp [Ob.blank]
theorem blank_ok {o : Ob} (h : o.ok) : (Ob.blank o).ok := by
  refine ⟨h.k1, h.k2, h.r1, by rw [blank_len]; exact h.r2, ?_, ?_, fun t ht => by simp [Ob.blank] at ht⟩
  · show (Ob.blank o).fields.length - o.refs ≤ 1048576
    rw [blank_len]; exact h.s1
  · intro x hx
    rw [List.eq_of_mem_replicate hx]; decide
theorem blank_head {o : Ob} (hg : o.gone = none) : (Ob.blank o).head = o.head := by
  rw [Ob.head_whole hg, Ob.head_whole (by rfl : (Ob.blank o).gone = none)]
  simp [Ob.blank, Ob.raws]
theorem used_same (l : List Ob) (o o' : Ob) (h : o'.fields.length = o.fields.length) : used (l ++ [o']) = used (l ++ [o]) := by rw [used_snoc, used_snoc, h]
theorem begins_same (l : List Ob) (o o' : Ob) (p : Nat) : begins (l ++ [o']) p ↔ begins (l ++ [o]) p := by rw [begins_snoc, begins_snoc]
theorem ArRaw_fill {W W' : World} {g gw gf cw cf sz : Nat} {fs : List Nat} {l : List Ob} {o o' : Ob} (hA : ArRaw W g gw gf cw cf sz fs (l ++ [o])) (ho : o'.ok) (hl : o'.fields.length = o.fields.length)
    (hw : WordsAt W' gw cw (words (l ++ [o']))) (hu : Upd (fun k => k = gw) W W') : ArRaw W' g gw gf cw cf sz fs (l ++ [o']) := by
  have hus := used_same l o o' hl
  refine ⟨?_, hw, hA.fb.upd hu (fun h => hA.ne3 h.symm), hA.bits.same hus (begins_same l o o'), ?_, by rw [hus]; exact hA.fit, hA.sz1, by rw [hus]; exact hA.flen, hA.ne1, hA.ne2, hA.ne3⟩
  · rw [hus]; exact blk_upd hA.hd hu hA.ne1
  · intro x hx
    rcases List.mem_append.1 hx with h | h
    · exact hA.ok x (List.mem_append_left _ h)
    · rw [List.mem_singleton.1 h]; exact ho
/-- The object is marked as moved. -/
def Ob.went (o : Ob) (t : Nat) : Ob := { o with gone := some t }
theorem went_ok {o : Ob} (h : o.ok) (t : Nat) (ht : t ≤ 1048576) : (Ob.went o t).ok := ⟨h.k1, h.k2, h.r1, h.r2, h.s1, h.f1, fun t' h' => by obtain rfl := Option.some.inj h'; exact ht⟩
theorem ArRaw_went {W : World} {g gw gf cw cf sz : Nat} {fs : List Nat} {l : List Ob} (hA : ArRaw W g gw gf cw cf sz fs l) {k : Nat} {o : Ob} (h : l[k]? = some o) (t : Nat) (ht : t ≤ 1048576) :
    ArRaw (W.setCell ⟨gw, place l k, none⟩ (.int .u64 ((9223372036854775808 + t : Nat) : Int))) g gw gf cw cf sz fs (l.set k (Ob.went o t)) := by
  have hu : used (l.set k (Ob.went o t)) = used l := used_set h rfl
  have hpl := place_lt h
  refine ⟨?_, ?_, hA.fb.other (fun h => hA.ne3 h.symm) _ _, hA.bits.same hu (begins_set h rfl), ?_, by rw [hu]; exact hA.fit, hA.sz1, by rw [hu]; exact hA.flen, hA.ne1, hA.ne2, hA.ne3⟩
  · rw [hu]; exact (hA.hdAt).other hA.ne1 _ _
  · have := hA.ws.set (place l k) hpl (9223372036854775808 + t)
    rw [← words_gone h t] at this
    exact this
  · intro o' ho'
    rcases List.mem_or_eq_of_mem_set ho' with h1 | h1
    · exact hA.ok o' h1
    · rw [h1]; exact went_ok (hA.ok o (List.mem_of_getElem? h)) t ht
/-- Two arenas have no block in common. -/
def Sep (a b c x y z : Nat) : Prop := ∀ i, three_ a b c i → ¬ three_ x y z i
/-- The arena that takes, and the one that it takes from: one and the same, or apart. -/
structure Pair (W : World) (ga gwa gfa sza : Nat) (la : List Ob) (gs gws gfs szs : Nat) (ls : List Ob) (same : Bool) : Prop where
  A : ArAt W ga gwa gfa sza la
  S : ArAt W gs gws gfs szs ls
  R : if same then gs = ga ∧ gws = gwa ∧ gfs = gfa ∧ szs = sza ∧ ls = la else Sep ga gwa gfa gs gws gfs
theorem ArAt.lt3 {W : World} {g gw gf sz : Nat} {l : List Ob} (h : ArAt W g gw gf sz l) : g < W.heap.size ∧ gw < W.heap.size ∧ gf < W.heap.size := by
  obtain ⟨cw, cf, fs, h⟩ := h
  exact ⟨h.hdAt.lt, h.ws.lt, h.fb.lt⟩
theorem Pair.below {W W' : World} {ga gwa gfa sza : Nat} {la : List Ob} {gs gws gfs szs : Nat} {ls : List Ob} {same : Bool} (h : Pair W ga gwa gfa sza la gs gws gfs szs ls same) (hb : Below W.heap.size W W') : Pair W' ga gwa gfa sza la gs gws gfs szs ls same :=
  ⟨h.A.below hb, h.S.below hb, h.R⟩
/-- The arena that takes has grown. -/
theorem Pair.grown {W W' : World} {ga gwa gfa sza : Nat} {la : List Ob} {gs gws gfs szs : Nat} {ls : List Ob} {same : Bool} (h : Pair W ga gwa gfa sza la gs gws gfs szs ls same) {gwa' gfa' : Nat} {o0 : Ob}
    (hA : ArAt W' ga gwa' gfa' sza (la ++ [o0])) (h1 : gwa' = gwa ∨ W.heap.size ≤ gwa') (h2 : gfa' = gfa ∨ W.heap.size ≤ gfa') (hu : Upd (three_ ga gwa gfa) W W') {k : Nat} {o : Ob} (hk : ls[k]? = some o) :
    Pair W' ga gwa' gfa' sza (la ++ [o0]) gs (if same then gwa' else gws) (if same then gfa' else gfs) szs (if same then la ++ [o0] else ls) same ∧ (if same then la ++ [o0] else ls)[k]? = some o ∧ place (if same then la ++ [o0] else ls) k = place ls k := by
  cases same with
  | true =>
    obtain ⟨rfl, rfl, rfl, rfl, rfl⟩ := h.R
    have hkl := (List.getElem?_eq_some_iff.1 hk).1
    simp only [if_true]
    exact ⟨⟨hA, hA, rfl, rfl, rfl, rfl, rfl⟩, by rw [List.getElem?_append_left hkl]; exact hk, place_snoc ls o0 k (Nat.le_of_lt hkl)⟩
  | false =>
    have hs : Sep ga gwa gfa gs gws gfs := h.R
    simp only [Bool.false_eq_true, if_false]
    refine ⟨⟨hA, h.S.upd hu (fun hh => hs gs hh (.inl rfl)) (fun hh => hs gws hh (.inr (.inl rfl))) (fun hh => hs gfs hh (.inr (.inr rfl))), ?_⟩, hk, trivial⟩
    show Sep ga gwa' gfa' gs gws gfs
    obtain ⟨l1, l2, l3⟩ := ArAt.lt3 h.S
    have hlt : ∀ i, three_ gs gws gfs i → i < W.heap.size := by
      rintro i (rfl | rfl | rfl)
      · exact l1
      · exact l2
      · exact l3
    rintro i (rfl | rfl | rfl) hi
    · exact hs _ (.inl rfl) hi
    · rcases h1 with rfl | h1
      · exact hs _ (.inr (.inl rfl)) hi
      · have := hlt _ hi; omega
    · rcases h2 with rfl | h2
      · exact hs _ (.inr (.inr rfl)) hi
      · have := hlt _ hi; omega
/-- What Take leaves behind. -/
theorem Pair.went {W : World} {ga gwa gfa sza : Nat} {la : List Ob} {gs gws gfs szs : Nat} {ls : List Ob} {same : Bool} (h : Pair W ga gwa gfa sza la gs gws gfs szs ls same) {k : Nat} {o : Ob} (hk : ls[k]? = some o) (t : Nat) (ht : t ≤ 1048576) :
    Pair (W.setCell ⟨gws, place ls k, none⟩ (.int .u64 ((9223372036854775808 + t : Nat) : Int))) ga gwa gfa sza (if same then ls.set k (Ob.went o t) else la) gs gws gfs szs (ls.set k (Ob.went o t)) same := by
  obtain ⟨cw, cf, fs, hS⟩ := h.S
  have hS2 := ArRaw_went hS hk t ht
  cases same with
  | true =>
    obtain ⟨rfl, rfl, rfl, rfl, rfl⟩ := h.R
    exact ⟨⟨cw, cf, fs, hS2⟩, ⟨cw, cf, fs, hS2⟩, rfl, rfl, rfl, rfl, rfl⟩
  | false =>
    have hs : Sep ga gwa gfa gs gws gfs := h.R
    have hu : Upd (fun b => b = gws) W (W.setCell ⟨gws, place ls k, none⟩ (.int .u64 ((9223372036854775808 + t : Nat) : Int))) := (Upd.refl (fun b => b = gws) W).put (.inl rfl) _ _
    refine ⟨?_, ⟨cw, cf, fs, hS2⟩, hs⟩
    simp only [Bool.false_eq_true, if_false]
    exact h.A.upd hu (fun hh => hs ga (.inl rfl) (.inr (.inl hh))) (fun hh => hs gwa (.inr (.inl rfl)) (.inr (.inl hh))) (fun hh => hs gfa (.inr (.inr rfl)) (.inr (.inl hh)))
/-- The fields have been copied. -/
theorem Pair.filled {W W' : World} {ga gwa gfa sza : Nat} {la : List Ob} {gs gws gfs szs : Nat} {ls : List Ob} {same : Bool} {o0 o' : Ob}
    (h : Pair W ga gwa gfa sza (la ++ [o0]) gs gws gfs szs (if same then la ++ [o0] else ls) same) (ho : o'.ok) (hl : o'.fields.length = o0.fields.length) {cw : Nat}
    (hw : WordsAt W' gwa cw (words (la ++ [o']))) (hcw : ∀ cw' cf fs, ArRaw W ga gwa gfa cw' cf sza fs (la ++ [o0]) → cw' = cw) (hu : Upd (fun k => k = gwa) W W') :
    Pair W' ga gwa gfa sza (la ++ [o']) gs gws gfs szs (if same then la ++ [o'] else ls) same := by
  obtain ⟨cw', cf, fs, hA⟩ := h.A
  obtain rfl := hcw _ _ _ hA
  have hA2 := ArRaw_fill hA ho hl hw hu
  cases same with
  | true =>
    obtain ⟨rfl, rfl, rfl, rfl, _⟩ := h.R
    exact ⟨⟨_, cf, fs, hA2⟩, ⟨_, cf, fs, hA2⟩, rfl, rfl, rfl, rfl, rfl⟩
  | false =>
    have hs : Sep ga gwa gfa gs gws gfs := h.R
    simp only [Bool.false_eq_true, if_false] at *
    exact ⟨⟨_, cf, fs, hA2⟩, h.S.upd hu (fun hh => hs gwa (.inr (.inl rfl)) (.inl hh.symm)) (fun hh => hs gwa (.inr (.inl rfl)) (.inr (.inl hh.symm))) (fun hh => hs gwa (.inr (.inl rfl)) (.inr (.inr hh.symm))), hs⟩
theorem splice_words (l : List Ob) (o : Ob) (hg : o.gone = none) : (words (l ++ [Ob.blank o])).take (used l + 1) ++ o.fields ++ (words (l ++ [Ob.blank o])).drop (used l + 1 + o.fields.length) = words (l ++ [o]) := by
  rw [words_snoc, words_snoc, blank_head hg]
  have h1 : (words l ++ o.head :: (Ob.blank o).fields).length = used l + 1 + o.fields.length := by simp [used, Ob.blank]; omega
  rw [List.drop_eq_nil_of_le (Nat.le_of_eq h1), List.append_nil]
  have h2 : (words l ++ o.head :: (Ob.blank o).fields).take (used l + 1) = words l ++ [o.head] := by
    unfold used
    rw [List.take_append, List.take_of_length_le (by omega), Nat.add_sub_cancel_left]
    simp
  rw [h2, List.append_assoc]; rfl
