/- The arena's methods, each with one contract for all arguments: what it answers as a function of the objects. -/
import Derived.Test.YtgjcffjicbmkhaaArC
namespace Go.Proofs.Ytgjcffjicbmkhaa.ArP
open Go Go.RowKit Go.Proofs.YtgjcffjicbmkhaaW.PrintWords Go.Proofs.YtgjcffjicbmkhaaW.PrintLast Go.Proofs.YtgjcffjicbmkhaaW.PrintMore Go.Proofs.Ytgjcffjicbmkhaa.RowU Go.Proofs.Ytgjcffjicbmkhaa.ArS Go.Proofs.Ytgjcffjicbmkhaa.ArM Go.Proofs.Ytgjcffjicbmkhaa.ArW Go.Proofs.Ytgjcffjicbmkhaa.ArX Go.Proofs.Ytgjcffjicbmkhaa.ArY Go.Proofs.Ytgjcffjicbmkhaa.ArZ Go.Proofs.Ytgjcffjicbmkhaa.ArT Go.Proofs.Ytgjcffjicbmkhaa.ArU Go.Proofs.Ytgjcffjicbmkhaa.GenM Go.Proofs.Ytgjcffjicbmkhaa.ArV Go.Proofs.Ytgjcffjicbmkhaa.ArB Go.Proofs.Ytgjcffjicbmkhaa.ArC
set_option linter.unusedVariables false
set_option maxRecDepth 100000

/-- The object that begins there. -/
def whereIs (l : List Ob) (p : Int) : Option Nat := (List.range l.length).find? fun k => decide (p = (place l k : Int))
def obAt (l : List Ob) (p : Int) : Option (Nat × Ob) := (whereIs l p).bind fun k => l[k]?.map fun o => (k, o)
theorem obAt_some {l : List Ob} {p : Int} {k : Nat} {o : Ob} (h : obAt l p = some (k, o)) : l[k]? = some o ∧ p = place l k := by
  unfold obAt at h
  obtain ⟨k', h1, h2⟩ := Option.bind_eq_some_iff.1 h
  obtain ⟨o', h3, h4⟩ := Option.map_eq_some_iff.1 h2
  simp only [Prod.mk.injEq] at h4
  obtain ⟨rfl, rfl⟩ := h4
  exact ⟨h3, of_decide_eq_true (List.find?_some (p := fun k => decide (p = (place l k : Int))) h1)⟩
theorem obAt_none {l : List Ob} {p : Int} (h : obAt l p = none) : ¬ ∃ q : Nat, p = q ∧ begins l q := by
  rintro ⟨q, rfl, k, hk, rfl⟩
  unfold obAt at h
  cases hw : whereIs l (place l k : Int) with
  | none =>
    unfold whereIs at hw
    have := List.find?_eq_none.1 hw k (List.mem_range.2 hk)
    simp at this
  | some j =>
    rw [hw] at h
    unfold whereIs at hw
    have hj := List.mem_range.1 (List.mem_of_find?_eq_some hw)
    simp [List.getElem?_eq_getElem hj] at h
theorem obAt_of {l : List Ob} {k : Nat} {o : Ob} (h : l[k]? = some o) : obAt l (place l k : Int) = some (k, o) := by
  cases hx : obAt l (place l k : Int) with
  | none => exact absurd ⟨place l k, rfl, begins_of h⟩ (obAt_none hx)
  | some x =>
    obtain ⟨j, o'⟩ := x
    obtain ⟨h1, h2⟩ := obAt_some hx
    have hkl := (List.getElem?_eq_some_iff.1 h).1
    have hjl := (List.getElem?_eq_some_iff.1 h1).1
    obtain rfl : j = k := place_inj (Nat.le_of_lt hjl) (Nat.le_of_lt hkl) (by omega)
    rw [h] at h1
    rw [Option.some.inj h1]
/-- The error of an object that cannot be asked. -/
def badOf (l : List Ob) (p : Int) : Option Int := match obAt l p with
  | none => some 23
  | some (_, o) => if o.gone.isSome then some 26 else none
theorem badOf_some {l : List Ob} {p e : Int} (h : badOf l p = some e) : Bad l p e := by
  unfold badOf at h
  cases hx : obAt l p with
  | none => rw [hx] at h; obtain rfl := Option.some.inj h; exact .inl ⟨rfl, obAt_none hx⟩
  | some x =>
    obtain ⟨k, o⟩ := x
    rw [hx] at h
    obtain ⟨h1, h2⟩ := obAt_some hx
    cases hg : o.gone with
    | none => simp [hg] at h
    | some t =>
      simp [hg] at h
      exact .inr ⟨h.symm, k, o, t, h1, hg, h2⟩
theorem badOf_none {l : List Ob} {p : Int} (h : badOf l p = none) : ∃ k o, obAt l p = some (k, o) ∧ l[k]? = some o ∧ o.gone = none ∧ p = place l k := by
  unfold badOf at h
  cases hx : obAt l p with
  | none => rw [hx] at h; cases h
  | some x =>
    obtain ⟨k, o⟩ := x
    rw [hx] at h
    obtain ⟨h1, h2⟩ := obAt_some hx
    cases hg : o.gone with
    | none => exact ⟨k, o, rfl, h1, hg, h2⟩
    | some t => simp [hg] at h
/-- Object's answer. -/
def objR (l : List Ob) (p : Int) : Int × Int × Int × Int := match badOf l p, obAt l p with
  | some e, _ => (0, 0, 0, e)
  | none, some (_, o) => (o.kind, o.refs, o.raws, 0)
  | none, none => (0, 0, 0, 0)
theorem object_all {W : World} {g gw gf sz : Nat} {l : List Ob} (hA : ArAt W g gw gf sz l) (p : Int) :
    Calls Try.prog 15 #[.pointer (some ⟨g, 0, none⟩), .int .i64 p] W fun e w' => e = .returned (.tuple #[.int .i64 (objR l p).1, .int .i64 (objR l p).2.1, .int .i64 (objR l p).2.2.1, .int .i64 (objR l p).2.2.2]) ∧ Below W.heap.size W w' := by
  unfold objR
  cases hb : badOf l p with
  | some e => exact object_bad hA (badOf_some hb)
  | none =>
    obtain ⟨k, o, h1, h2, h3, rfl⟩ := badOf_none hb
    rw [h1]
    obtain ⟨_, hl, _, _⟩ := raws_lt hA h2
    exact object_yes hA h2 h3 _ rfl o.kind o.refs o.raws rfl rfl hl
/-- Get's answer. -/
def getR (l : List Ob) (p i : Int) : Int × Int := match badOf l p, obAt l p with
  | some e, _ => (0, e)
  | none, some (_, o) => if 0 ≤ i ∧ i < o.fields.length then (o.fields.getD i.toNat 0, 0) else (0, 24)
  | none, none => (0, 0)
theorem get_all {W : World} {g gw gf sz : Nat} {l : List Ob} (hA : ArAt W g gw gf sz l) (p i : Int) :
    Calls Try.prog 16 #[.pointer (some ⟨g, 0, none⟩), .int .i64 p, .int .i64 i] W fun e w' => e = .returned (.tuple #[.int .u64 (getR l p i).1, .int .i64 (getR l p i).2]) ∧ Below W.heap.size W w' := by
  unfold getR
  cases hb : badOf l p with
  | some e =>
    obtain ⟨cw, cf, fs, hA⟩ := hA
    exact get.bad hA (badOf_some hb) i
  | none =>
    obtain ⟨k, o, h1, h2, h3, rfl⟩ := badOf_none hb
    rw [h1]
    simp only
    by_cases hi : 0 ≤ i ∧ i < o.fields.length
    · rw [if_pos hi]
      obtain ⟨n, rfl⟩ := Int.eq_ofNat_of_zero_le hi.1
      exact get_yes hA h2 h3 n _ (by rw [Int.toNat_natCast, List.getD_eq_getElem?_getD, List.getElem?_eq_getElem (by omega)]; rfl) _ rfl
    · rw [if_neg hi]
      obtain ⟨cw, cf, fs, hA⟩ := hA
      exact get.far hA h2 h3 i (by omega)
/-- Set's answer, and what it leaves. -/
def setR (l : List Ob) (p i : Int) (v : Nat) : Int × List Ob := match badOf l p, obAt l p with
  | some e, _ => (e, l)
  | none, some (k, o) => if 0 ≤ i ∧ i < o.fields.length then (0, l.set k (Ob.put o i.toNat v)) else (24, l)
  | none, none => (0, l)
theorem set_all {W : World} {g gw gf sz : Nat} {l : List Ob} (hA : ArAt W g gw gf sz l) (p i : Int) (v : Nat) (hv : v < 18446744073709551616) :
    Calls Try.prog 13 #[.pointer (some ⟨g, 0, none⟩), .int .i64 p, .int .i64 i, .int .u64 (v : Int)] W fun e w' => e = .returned (.int .i64 (setR l p i v).1) ∧ ArAt w' g gw gf sz (setR l p i v).2 ∧ Upd (fun b => b = gw) W w' := by
  unfold setR
  cases hb : badOf l p with
  | some e =>
    obtain ⟨cw, cf, fs, hA'⟩ := hA
    exact (set.bad hA' (badOf_some hb) i v).mono fun e' w' ⟨he, hb⟩ => ⟨he, ArAt.below ⟨cw, cf, fs, hA'⟩ hb, Upd.of_below hb⟩
  | none =>
    obtain ⟨k, o, h1, h2, h3, rfl⟩ := badOf_none hb
    rw [h1]
    simp only
    by_cases hi : 0 ≤ i ∧ i < o.fields.length
    · rw [if_pos hi]
      obtain ⟨n, rfl⟩ := Int.eq_ofNat_of_zero_le hi.1
      exact set_yes hA h2 h3 n v (by omega) hv _ rfl
    · rw [if_neg hi]
      exact (set_far hA h2 h3 i v (by omega) _ rfl).mono fun e' w' ⟨he, hb⟩ => ⟨he, hA.below hb, Upd.of_below hb⟩
/-- Moved's answer. -/
def movR (l : List Ob) (p : Int) : Int × Bool × Int := match obAt l p with
  | none => (0, false, 23)
  | some (_, o) => match o.gone with | none => (0, false, 0) | some t => (t, true, 0)
theorem moved_all {W : World} {g gw gf sz : Nat} {l : List Ob} (hA : ArAt W g gw gf sz l) (p : Int) :
    Calls Try.prog 25 #[.pointer (some ⟨g, 0, none⟩), .int .i64 p] W fun e w' => e = .returned (.tuple #[.int .i64 (movR l p).1, .bool (movR l p).2.1, .int .i64 (movR l p).2.2]) ∧ Below W.heap.size W w' := by
  unfold movR
  cases hx : obAt l p with
  | none => exact moved.bad hA p (obAt_none hx)
  | some x =>
    obtain ⟨k, o⟩ := x
    obtain ⟨h1, rfl⟩ := obAt_some hx
    simp only
    cases hg : o.gone with
    | none => exact moved.no hA h1 hg
    | some t => exact moved.yes hA h1 hg
/-- Alloc's answer, and what it leaves. -/
def allR (sz : Nat) (l : List Ob) (k r s : Int) : Int × Int × List Ob :=
  if PA.headOk k r s then (if (sz : Int) < used l + (1 + (r + s)) then (0, 22, l) else (used l, 0, l ++ [newOb k.toNat r.toNat s.toNat])) else (0, 21, l)
theorem alloc_all {W : World} {g gw gf sz : Nat} {l : List Ob} (hA : ArAt W g gw gf sz l) (k r s : Int) :
    Calls Try.prog 35 #[.pointer (some ⟨g, 0, none⟩), .int .i64 k, .int .i64 r, .int .i64 s] W fun e w' => e = .returned (.tuple #[.int .i64 (allR sz l k r s).1, .int .i64 (allR sz l k r s).2.1]) ∧
      ∃ gw' gf', ArAt w' g gw' gf' sz (allR sz l k r s).2.2 ∧ (gw' = gw ∨ W.heap.size ≤ gw') ∧ (gf' = gf ∨ W.heap.size ≤ gf') ∧ Upd (three_ g gw gf) W w' := by
  unfold allR
  by_cases hk : PA.headOk k r s
  · rw [if_pos hk]
    obtain ⟨k1, k2, r1, r2, s1, s2⟩ := hk
    obtain ⟨k, rfl⟩ := Int.eq_ofNat_of_zero_le (show 0 ≤ k by omega)
    obtain ⟨r, rfl⟩ := Int.eq_ofNat_of_zero_le r1
    obtain ⟨s, rfl⟩ := Int.eq_ofNat_of_zero_le s1
    by_cases hf : (sz : Int) < used l + (1 + ((r : Int) + s))
    · rw [if_pos hf]
      exact (alloc.full hA k r s ⟨by omega, by omega⟩ (by omega) (by omega) (by omega)).mono fun e w' ⟨he, hb⟩ => ⟨he, gw, gf, hA.below hb, .inl rfl, .inl rfl, Upd.of_below hb⟩
    · rw [if_neg hf]
      exact alloc.yes hA k r s ⟨by omega, by omega⟩ (by omega) (by omega) (by omega)
  · rw [if_neg hk]
    exact (alloc.shape W g k r s hk).mono fun e w' ⟨he, hb⟩ => ⟨he, gw, gf, hA.below hb, .inl rfl, .inl rfl, Upd.of_below hb⟩
instance (s : Nat) (f n : Int) : Decidable (InSpan s f n) := by unfold InSpan; infer_instance
/-- Why Bytes (or SetBytes) refuses; none: it does not. -/
def bytErr (l : List Ob) (p f n : Int) : Option Int := match badOf l p, obAt l p with
  | some e, _ => some e
  | none, some (_, o) => if InSpan o.raws f n then none else some 25
  | none, none => none
theorem bytes_all {W : World} {g gw gf sz : Nat} {l : List Ob} (hA : ArAt W g gw gf sz l) (p f n : Int) :
    Calls Try.prog 44 #[.pointer (some ⟨g, 0, none⟩), .int .i64 p, .int .i64 f, .int .i64 n] W fun e w' =>
      (∃ er, bytErr l p f n = some er ∧ e = .returned (.tuple #[.slice none 0 0, .int .i64 er]) ∧ Below W.heap.size W w') ∨
      (bytErr l p f n = none ∧ ∃ (k : Nat) (o : Ob) (f' n' gb : Nat), obAt l p = some (k, o) ∧ l[k]? = some o ∧ o.gone = none ∧ f = f' ∧ n = n' ∧ f' + n' ≤ 8 * o.raws ∧ e = .returned (.tuple #[.slice (some ⟨gb, 0, none⟩) n' n', .int .i64 0]) ∧ ArC.Told W w' o f' n' gb) := by
  unfold bytErr
  cases hb : badOf l p with
  | some e => exact (bytes.bad hA (badOf_some hb) f n).mono fun e' w' ⟨he, h⟩ => .inl ⟨e, rfl, he, h⟩
  | none =>
    obtain ⟨k, o, h1, h2, h3, rfl⟩ := badOf_none hb
    rw [h1]
    simp only
    obtain ⟨_, hl, _, _⟩ := raws_lt hA h2
    by_cases hs : InSpan o.raws f n
    · obtain ⟨a, b, c⟩ := hs
      have hs : InSpan o.raws f n := ⟨a, b, c⟩
      simp only [if_pos hs]
      obtain ⟨f, rfl⟩ := Int.eq_ofNat_of_zero_le a
      obtain ⟨n, rfl⟩ := Int.eq_ofNat_of_zero_le b
      refine (bytes.yes hA h2 h3 _ rfl o.refs o.raws rfl hl f n (by omega)).mono fun e' w' ⟨gb, he, ht⟩ => .inr ⟨by first | rfl | trivial, k, o, f, n, gb, rfl, h2, h3, rfl, rfl, by omega, he, ht⟩
    · simp only [if_neg hs]
      exact (bytes.no hA h2 h3 _ rfl o.refs o.raws rfl hl f n hs).mono fun e' w' ⟨he, h⟩ => .inl ⟨25, rfl, he, h⟩
/-- SetBytes' answer, and what it leaves. -/
def stbR (l : List Ob) (p f : Int) (bs : List Nat) : Int × List Ob := match bytErr l p f bs.length, obAt l p with
  | some e, _ => (e, l)
  | none, some (k, o) => (0, l.set k (putBs o f.toNat bs))
  | none, none => (0, l)
theorem setBytes_all {W : World} {g gw gf sz : Nat} {l : List Ob} (hA : ArAt W g gw gf sz l) (p f : Int) (bs : List Nat) (hbs : ∀ c ∈ bs, c < 256) (A : Option Addr) (c : Nat) (hcell : ∀ (i x : Nat), bs[i]? = some x → ∃ ad, A = some ad ∧ ad.block ≠ gw ∧ W.cell? (ad.add i) = some (.int .u8 (x : Int))) (hn : bs.length ≤ 9000000000000000) :
    Calls Try.prog 26 #[.pointer (some ⟨g, 0, none⟩), .int .i64 p, .int .i64 f, .slice A bs.length c] W fun e w' => e = .returned (.int .i64 (stbR l p f bs).1) ∧ ArAt w' g gw gf sz (stbR l p f bs).2 ∧ Upd (fun b => b = gw) W w' := by
  unfold stbR bytErr
  cases hb : badOf l p with
  | some e => exact (setBytes.bad hA (badOf_some hb) f A bs.length c hn).mono fun e' w' ⟨he, h⟩ => ⟨he, hA.below h, Upd.of_below h⟩
  | none =>
    obtain ⟨k, o, h1, h2, h3, rfl⟩ := badOf_none hb
    rw [h1]
    simp only
    obtain ⟨_, hl, _, _⟩ := raws_lt hA h2
    by_cases hs : InSpan o.raws f bs.length
    · obtain ⟨a, b, c'⟩ := hs
      have hs : InSpan o.raws f bs.length := ⟨a, b, c'⟩
      simp only [if_pos hs]
      obtain ⟨f, rfl⟩ := Int.eq_ofNat_of_zero_le a
      exact setBytes.yes hA h2 h3 _ rfl o.refs o.raws rfl hl f bs hbs A c hcell (by omega)
    · simp only [if_neg hs]
      exact (setBytes.no hA h2 h3 _ rfl o.refs o.raws rfl hl f A bs.length c hs).mono fun e' w' ⟨he, h⟩ => ⟨he, hA.below h, Upd.of_below h⟩
/-- Take's answer, and what it leaves in the arena that takes and in the other. -/
def takR (sza : Nat) (la ls : List Ob) (p : Int) (same : Bool) : Int × Int × List Ob × List Ob := match obAt ls p with
  | none => (0, 23, la, ls)
  | some (k, o) => match o.gone with
    | some t => (t, 0, la, ls)
    | none => if sza < used la + (1 + o.fields.length) then (0, 22, la, ls) else
      (used la, 0, if same then (la ++ [o]).set k (Ob.went o (used la)) else la ++ [o], (if same then la ++ [o] else ls).set k (Ob.went o (used la)))
theorem take_all {W : World} {ga gwa gfa sza : Nat} {la : List Ob} {gs gws gfs szs : Nat} {ls : List Ob} {same : Bool} (hP : Pair W ga gwa gfa sza la gs gws gfs szs ls same) (p : Int) :
    Calls Try.prog 42 #[.pointer (some ⟨ga, 0, none⟩), .pointer (some ⟨gs, 0, none⟩), .int .i64 p] W fun e w' => e = .returned (.tuple #[.int .i64 (takR sza la ls p same).1, .int .i64 (takR sza la ls p same).2.1]) ∧
      ∃ gwa' gfa', Pair w' ga gwa' gfa' sza (takR sza la ls p same).2.2.1 gs (if same then gwa' else gws) (if same then gfa' else gfs) szs (takR sza la ls p same).2.2.2 same ∧ (gwa' = gwa ∨ W.heap.size ≤ gwa') ∧ (gfa' = gfa ∨ W.heap.size ≤ gfa') ∧ Upd (fun b => three_ ga gwa gfa b ∨ three_ gs gws gfs b) W w' := by
  have keep : ∀ w', Below W.heap.size W w' → ∃ gwa' gfa', Pair w' ga gwa' gfa' sza la gs (if same then gwa' else gws) (if same then gfa' else gfs) szs ls same ∧ (gwa' = gwa ∨ W.heap.size ≤ gwa') ∧ (gfa' = gfa ∨ W.heap.size ≤ gfa') ∧ Upd (fun b => three_ ga gwa gfa b ∨ three_ gs gws gfs b) W w' := by
    intro w' hb
    refine ⟨gwa, gfa, ?_, .inl rfl, .inl rfl, Upd.of_below hb⟩
    have h2 := hP.below hb
    cases same with
    | true =>
      obtain ⟨e1, e2, e3, e4, e5⟩ := h2.R
      simp only [if_true]
      rw [e2, e3] at h2
      exact h2
    | false => exact h2
  unfold takR
  cases hx : obAt ls p with
  | none => exact (take.bad hP.S p (obAt_none hx)).mono fun e w' ⟨he, hb⟩ => ⟨he, keep w' hb⟩
  | some x =>
    obtain ⟨k, o⟩ := x
    obtain ⟨h1, rfl⟩ := obAt_some hx
    simp only
    cases hg : o.gone with
    | some t => exact (take.moved hP.S h1 hg).mono fun e w' ⟨he, hb⟩ => ⟨he, keep w' hb⟩
    | none =>
      simp only
      by_cases hf : sza < used la + (1 + o.fields.length)
      · simp only [if_pos hf]
        exact (take.full hP.A hP.S h1 hg hf).mono fun e w' ⟨he, hb⟩ => ⟨he, keep w' hb⟩
      · simp only [if_neg hf]
        exact (take.yes hP h1 hg (by omega)).mono fun e w' ⟨he, gwa', gfa', ht⟩ => ⟨he, gwa', gfa', ht.P, ht.nw, ht.nf, ht.upd⟩
end Go.Proofs.Ytgjcffjicbmkhaa.ArP
