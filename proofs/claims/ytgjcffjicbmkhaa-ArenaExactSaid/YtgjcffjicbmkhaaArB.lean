/- The arena's span, Bytes, SetBytes. -/
import Derived.Test.YtgjcffjicbmkhaaArV
import Derived.Test.YtgjcffjicbmkhaaSumI
import Derived.StillTailTactics
namespace Go.Proofs.Ytgjcffjicbmkhaa.ArB
open Go Go.RowKit Go.Proofs.YtgjcffjicbmkhaaW.PrintWords Go.Proofs.YtgjcffjicbmkhaaW.PrintLast Go.Proofs.YtgjcffjicbmkhaaW.PrintMore Go.Proofs.Ytgjcffjicbmkhaa.RowU Go.Proofs.Ytgjcffjicbmkhaa.ArS Go.Proofs.Ytgjcffjicbmkhaa.ArM Go.Proofs.Ytgjcffjicbmkhaa.ArW Go.Proofs.Ytgjcffjicbmkhaa.ArX Go.Proofs.Ytgjcffjicbmkhaa.ArY Go.Proofs.Ytgjcffjicbmkhaa.ArZ Go.Proofs.Ytgjcffjicbmkhaa.GenM Go.Proofs.Ytgjcffjicbmkhaa.ArV
set_option linter.unusedVariables false
set_option maxRecDepth 100000

set_option maxHeartbeats 1600000 in
theorem span.bad {W : World} {g gw gf sz : Nat} {l : List Ob} (hA : ArAt W g gw gf sz l) {p e : Int} (h : Bad l p e) (from_ n : Int) :
    Calls Try.prog 43 #[.pointer (some ⟨g, 0, none⟩), .int .i64 p, .int .i64 from_, .int .i64 n] W fun e' w' => e' = .returned (.tuple #[.slice none 0 0, .int .i64 e]) ∧ Below W.heap.size W w' := by
  obtain ⟨cw, cf, fs, hA⟩ := hA
  have HB := Aside0.mk (fields.bad hA h)
  have he := h.ne
  clear hA h
  go_enter Try.func43, Try.ntmps43
  go_wp2_with fail
  refine HB.out.mono ?_
  rintro e' w2 ⟨rfl, hb⟩
  have H2 := Aside0.mk hb
  clear hb HB
  go_wp2_with fail
  go_ret2
  exact ⟨rfl, H2.out⟩
theorem raws_lt {l : List Ob} {W : World} {g gw gf sz : Nat} (hA : ArAt W g gw gf sz l) {k : Nat} {o : Ob} (h : l[k]? = some o) : o.ok ∧ o.fields.length = o.refs + o.raws ∧ o.raws ≤ 1048576 ∧ o.refs ≤ 1048576 := by
  obtain ⟨cw, cf, fs, hA⟩ := hA
  have hok := hA.ok o (List.mem_of_getElem? h)
  exact ⟨hok, Ob.len hok, hok.s1, hok.r1⟩
/-- The bytes that are asked for lie in the raws. -/
def InSpan (s : Nat) (from_ n : Int) : Prop := 0 ≤ from_ ∧ 0 ≤ n ∧ from_ + n ≤ 8 * s
theorem fields_span {W : World} {g gw gf sz : Nat} {l : List Ob} (hA : ArAt W g gw gf sz l) {k : Nat} {o : Ob} (h : l[k]? = some o) (hg : o.gone = none) (p : Nat) (hp : p = place l k) (r s : Nat) (h1 : o.refs = r) (h2 : o.fields.length = r + s) :
    Calls Try.prog 37 #[.pointer (some ⟨g, 0, none⟩), .int .i64 (p : Int)] W fun e w' => (∃ A, (0 < r + s → A = ⟨gw, p + 1, none⟩) ∧ e = .returned (.tuple #[.slice (some A) (r + s) (r + s), .int .i64 (r : Int), .int .i64 0])) ∧ Below W.heap.size W w' := by
  subst hp
  obtain ⟨cw, cf, fs, hA⟩ := hA
  have := fields.yes hA h hg
  rw [h1, h2] at this
  exact this
set_option maxHeartbeats 1600000 in
theorem span.no {W : World} {g gw gf sz : Nat} {l : List Ob} (hA : ArAt W g gw gf sz l) {k : Nat} {o : Ob} (h : l[k]? = some o) (hg : o.gone = none) (p : Nat) (hp : p = place l k) (r s : Nat) (h1 : o.refs = r) (h2 : o.fields.length = r + s) (from_ n : Int) (hn : ¬ InSpan s from_ n) :
    Calls Try.prog 43 #[.pointer (some ⟨g, 0, none⟩), .int .i64 (p : Int), .int .i64 from_, .int .i64 n] W fun e' w' => e' = .returned (.tuple #[.slice none 0 0, .int .i64 25]) ∧ Below W.heap.size W w' := by
  have HB := Aside0.mk (fields_span hA h hg p hp r s h1 h2)
  obtain ⟨_, hl, hs, hr⟩ := raws_lt hA h
  have hs : s ≤ 1048576 := by omega
  have hr : r ≤ 1048576 := by omega
  clear hA h hg hp h1 h2 hl
  obtain ⟨m, hm⟩ : ∃ m, m = r + s := ⟨_, rfl⟩
  have hrm : r ≤ m := by omega
  have hms : m - r = s := by omega
  rw [← hm] at HB
  clear hm
  by_cases c1 : from_ < 0
  · have d1 : decide (from_ < 0) = true := decide_eq_true c1
    clear hn
    go_enter Try.func43, Try.ntmps43
    go_wp2_with fail
    refine HB.out.mono ?_
    rintro e' w2 ⟨⟨A, hA, rfl⟩, hb⟩
    have H2 := Aside0.mk hb
    clear hb HB hA
    go_wp2_with fail
    all_goals (go_ret2; exact ⟨rfl, H2.out⟩)
  · have d1 : decide (from_ < 0) = false := decide_eq_false c1
    by_cases c2 : n < 0
    · have d2 : decide (n < 0) = true := decide_eq_true c2
      clear hn
      go_enter Try.func43, Try.ntmps43
      go_wp2_with fail
      refine HB.out.mono ?_
      rintro e' w2 ⟨⟨A, hA, rfl⟩, hb⟩
      have H2 := Aside0.mk hb
      clear hb HB hA
      go_wp2_with fail
      all_goals (go_ret2; exact ⟨rfl, H2.out⟩)
    · have d2 : decide (n < 0) = false := decide_eq_false c2
      have hn' : 8 * (s : Int) < from_ + n := by unfold InSpan at hn; omega
      clear hn
      obtain ⟨z, hz⟩ : ∃ z : Nat, z = 8 * s := ⟨_, rfl⟩
      by_cases c3 : (z : Int) < from_
      · have d3 : decide ((z : Int) < from_) = true := decide_eq_true c3
        have HE := Aside0.mk (NumB.mul_i 8 (s : Int) z (by omega) (by omega))
        clear hn' hz
        obtain ⟨e1, f1⟩ := HE.out
        go_enter Try.func43, Try.ntmps43
        go_wp2_with fail
        refine HB.out.mono ?_
        rintro e' w2 ⟨⟨A, hA, rfl⟩, hb⟩
        have H2 := Aside0.mk hb
        clear hb HB hA
        go_wp2_with fail
        all_goals (go_ret2; exact ⟨rfl, H2.out⟩)
      · have d3 : decide ((z : Int) < from_) = false := decide_eq_false c3
        obtain ⟨y, hy⟩ : ∃ y : Nat, (y : Int) = z - from_ := ⟨((z : Int) - from_).toNat, by omega⟩
        have d4 : decide ((y : Int) < n) = true := decide_eq_true (by omega)
        have HE := Aside0.mk (And.intro (NumB.mul_i 8 (s : Int) z (by omega) (by omega)) (NumB.dif_i (z : Int) from_ y (by omega) (by omega)))
        clear hn' hz hy
        obtain ⟨⟨e1, f1⟩, e2, f2⟩ := HE.out
        go_enter Try.func43, Try.ntmps43
        go_wp2_with fail
        refine HB.out.mono ?_
        rintro e' w2 ⟨⟨A, hA, rfl⟩, hb⟩
        have H2 := Aside0.mk hb
        clear hb HB hA
        go_wp2_with fail
        all_goals (go_ret2; exact ⟨rfl, H2.out⟩)
set_option maxHeartbeats 1600000 in
theorem span.yes {W : World} {g gw gf sz : Nat} {l : List Ob} (hA : ArAt W g gw gf sz l) {k : Nat} {o : Ob} (h : l[k]? = some o) (hg : o.gone = none) (p : Nat) (hp : p = place l k) (r s : Nat) (h1 : o.refs = r) (h2 : o.fields.length = r + s) (from_ n : Nat) (hn : from_ + n ≤ 8 * s) :
    Calls Try.prog 43 #[.pointer (some ⟨g, 0, none⟩), .int .i64 (p : Int), .int .i64 (from_ : Int), .int .i64 (n : Int)] W fun e' w' => (∃ A, (0 < s → A = ⟨gw, p + 1 + r, none⟩) ∧ e' = .returned (.tuple #[.slice (some A) s s, .int .i64 0])) ∧ Below W.heap.size W w' := by
  have HB := Aside0.mk (fields_span hA h hg p hp r s h1 h2)
  obtain ⟨_, hl, hs, hr⟩ := raws_lt hA h
  have hs : s ≤ 1048576 := by omega
  have hr : r ≤ 1048576 := by omega
  clear hA h hg hp h1 h2 hl
  obtain ⟨m, hm⟩ : ∃ m, m = r + s := ⟨_, rfl⟩
  have hrm : r ≤ m := by omega
  have hms : m - r = s := by omega
  have HM : Aside0 (0 < s → 0 < r + s ∧ ¬ m = r) := ⟨fun _ => ⟨by omega, by omega⟩⟩
  have HM0 : Aside0 (s = 0 → m = r) := ⟨fun _ => by omega⟩
  rw [← hm] at HB
  have HMM := Aside0.mk hm
  clear hm
  obtain ⟨z, hz⟩ : ∃ z : Nat, z = 8 * s := ⟨_, rfl⟩
  obtain ⟨y, hy⟩ : ∃ y : Nat, (y : Int) = (z : Int) - from_ := ⟨z - from_, by omega⟩
  have d1 : decide ((from_ : Int) < 0) = false := decide_eq_false (by omega)
  have d2 : decide ((n : Int) < 0) = false := decide_eq_false (by omega)
  have d3 : decide ((z : Int) < (from_ : Int)) = false := decide_eq_false (by omega)
  have d4 : decide ((y : Int) < (n : Int)) = false := decide_eq_false (by omega)
  have d3' : decide (z < from_) = false := decide_eq_false (by omega)
  have d4' : decide (y < n) = false := decide_eq_false (by omega)
  have HE := Aside0.mk (And.intro (NumB.mul_i 8 (s : Int) z (by omega) (by omega)) (NumB.dif_i (z : Int) (from_ : Int) y (by omega) (by omega)))
  clear hn hz hy
  obtain ⟨⟨e1, f1⟩, e2, f2⟩ := HE.out
  go_enter Try.func43, Try.ntmps43
  go_wp2_with fail
  refine HB.out.mono ?_
  rintro e' w2 ⟨⟨A, hA, rfl⟩, hb⟩
  have H2 := Aside0.mk hb
  have HAd := Aside0.mk hA
  clear hb HB hA
  go_wp2_with fail
  all_goals
    go_ret2
    refine ⟨⟨_, fun h0 => ?_, rfl⟩, H2.out⟩
    first
      | exact absurd ‹m = r› (HM.out h0).2
      | (have e := HAd.out (by rw [HMM.out]; exact (HM.out h0).1); rw [e]; exact Addr.add_lit _ _ _)
/-- The byte j of an object's raws. -/
def Ob.byte (o : Ob) (j : Nat) : Nat := NumB.byteAt (o.fields.getD (o.refs + j / 8) 0) (8 * (j % 8))
/-- One byte of the raws is changed. -/
def Ob.putB (o : Ob) (j c : Nat) : Ob := Ob.put o (o.refs + j / 8) (NumB.putAt (o.fields.getD (o.refs + j / 8) 0) (8 * (j % 8)) c)
/-- Bytes of the raws are changed, from one on. -/
def putBs (o : Ob) (from_ : Nat) : List Nat → Ob
  | [] => o
  | c :: l => putBs (Ob.putB o from_ c) (from_ + 1) l
theorem putBs_snoc (l : List Nat) : ∀ (o : Ob) (from_ c : Nat), putBs o from_ (l ++ [c]) = Ob.putB (putBs o from_ l) (from_ + l.length) c := by
  induction l with
  | nil => intro o from_ c; rfl
  | cons x l ih =>
    intro o from_ c
    show putBs (Ob.putB o from_ x) (from_ + 1) (l ++ [c]) = _
    rw [ih]
    simp only [putBs, List.length_cons]
    rw [show from_ + 1 + l.length = from_ + (l.length + 1) by omega]
theorem putB_same (o : Ob) (j c : Nat) : (Ob.putB o j c).kind = o.kind ∧ (Ob.putB o j c).refs = o.refs ∧ (Ob.putB o j c).fields.length = o.fields.length ∧ (Ob.putB o j c).gone = o.gone := ⟨rfl, rfl, Ob.put_len _ _ _, rfl⟩
theorem putBs_same (l : List Nat) : ∀ (o : Ob) (from_ : Nat), (putBs o from_ l).kind = o.kind ∧ (putBs o from_ l).refs = o.refs ∧ (putBs o from_ l).fields.length = o.fields.length ∧ (putBs o from_ l).gone = o.gone := by
  induction l with
  | nil => intro o from_; exact ⟨rfl, rfl, rfl, rfl⟩
  | cons c l ih =>
    intro o from_
    obtain ⟨h1, h2, h3, h4⟩ := ih (Ob.putB o from_ c) (from_ + 1)
    obtain ⟨k1, k2, k3, k4⟩ := putB_same o from_ c
    exact ⟨h1.trans k1, h2.trans k2, h3.trans k3, h4.trans k4⟩
theorem getD_lt {o : Ob} (h : o.ok) (i : Nat) : o.fields.getD i 0 < 18446744073709551616 := by
  rw [List.getD_eq_getElem?_getD]
  cases hx : o.fields[i]? with
  | none => decide
  | some x => exact h.f1 x (List.mem_of_getElem? hx)
theorem putB_ok {o : Ob} (h : o.ok) (j c : Nat) (hc : c < 256) : (Ob.putB o j c).ok := Ob.put_ok h _ _ (NumB.put_lt _ _ _ (by omega) (getD_lt h _) hc)
theorem putBs_ok (l : List Nat) (hl : ∀ c ∈ l, c < 256) : ∀ {o : Ob} (from_ : Nat), o.ok → (putBs o from_ l).ok := by
  induction l with
  | nil => intro o from_ h; exact h
  | cons c l ih =>
    intro o from_ h
    exact ih (fun x hx => hl x (List.mem_cons_of_mem _ hx)) (from_ + 1) (putB_ok h from_ c (hl c (List.mem_cons_self ..)))
/-- What a byte is behind a change. -/
theorem byte_putB {o : Ob} (h : o.ok) (j c i : Nat) (hj : o.refs + j / 8 < o.fields.length) (hc : c < 256) : Ob.byte (Ob.putB o j c) i = if i = j then c else Ob.byte o i := by
  unfold Ob.byte Ob.putB
  have hr : (Ob.put o (o.refs + j / 8) (NumB.putAt (o.fields.getD (o.refs + j / 8) 0) (8 * (j % 8)) c)).refs = o.refs := rfl
  rw [hr]
  have hf : (Ob.put o (o.refs + j / 8) (NumB.putAt (o.fields.getD (o.refs + j / 8) 0) (8 * (j % 8)) c)).fields = o.fields.set (o.refs + j / 8) (NumB.putAt (o.fields.getD (o.refs + j / 8) 0) (8 * (j % 8)) c) := rfl
  rw [hf]
  by_cases hw : i / 8 = j / 8
  · rw [hw]
    have e1 : (o.fields.set (o.refs + j / 8) (NumB.putAt (o.fields.getD (o.refs + j / 8) 0) (8 * (j % 8)) c)).getD (o.refs + j / 8) 0 = NumB.putAt (o.fields.getD (o.refs + j / 8) 0) (8 * (j % 8)) c := by
      rw [List.getD_eq_getElem?_getD, List.getElem?_set_self hj]; rfl
    rw [e1]
    by_cases hij : i = j
    · subst hij
      rw [if_pos rfl, NumB.byte_put_same _ _ _ (by omega) (getD_lt h _) hc]
    · rw [if_neg hij, NumB.byte_put_other _ _ _ _ (by omega) (getD_lt h _) hc (by omega)]
  · have e1 : (o.fields.set (o.refs + j / 8) (NumB.putAt (o.fields.getD (o.refs + j / 8) 0) (8 * (j % 8)) c)).getD (o.refs + i / 8) 0 = o.fields.getD (o.refs + i / 8) 0 := by
      simp only [List.getD_eq_getElem?_getD]
      rw [List.getElem?_set_ne (by omega)]
    rw [e1, if_neg (fun h => hw (by rw [h]))]
theorem _root_.Go.Proofs.Ytgjcffjicbmkhaa.GenM.GenAt.set {T : TypeId} {W : World} {g cap : Nat} {l : List Value} (h : GenAt T W g cap l) (j : Nat) (hj : j < l.length) (y : Value) : GenAt T (W.setCell ⟨g, j, none⟩ y) g cap (l.set j y) := by
  obtain ⟨cur, h1, h2, h3, h5, h4⟩ := h
  refine ⟨cur.set j y, ?_, by simpa using h2, by simpa using h3, h5, ?_⟩
  · have := blk_set h1 j y
    rw [List.setIfInBounds_toArray] at this
    exact this
  · rw [List.length_set, List.take_set, h4]
theorem _root_.Go.Proofs.Ytgjcffjicbmkhaa.GenM.GenAt.frozen {T : TypeId} {W : World} {g cap : Nat} {l : List Value} (h : GenAt T W g cap l) (j : Nat) : W.frozen? ⟨g, j, none⟩ = false := by
  obtain ⟨cur, h1, h2⟩ := h
  exact blk_frozen h1 j
/-- n bytes of which the first i are laid. -/
def bytesV (f : Nat → Nat) (i n : Nat) : List Value := (List.range n).map fun j => .int .u8 ((if j < i then f j else 0 : Nat) : Int)
theorem bytesV_len (f : Nat → Nat) (i n : Nat) : (bytesV f i n).length = n := by simp [bytesV]
theorem bytesV_get (f : Nat → Nat) (i n j : Nat) (hj : j < n) : (bytesV f i n)[j]? = some (.int .u8 ((if j < i then f j else 0 : Nat) : Int)) := by
  unfold bytesV
  rw [List.getElem?_map, List.getElem?_range hj]; rfl
theorem bytesV_zero (f : Nat → Nat) (n : Nat) : bytesV f 0 n = List.replicate n (.int .u8 0) := by
  apply List.ext_getElem?
  intro j
  by_cases hj : j < n
  · rw [bytesV_get f 0 n j hj, List.getElem?_replicate, if_pos hj]; rfl
  · rw [List.getElem?_eq_none (by rw [bytesV_len]; omega), List.getElem?_eq_none (by simp; omega)]
theorem bytesV_set (f : Nat → Nat) (i n : Nat) (hi : i < n) : (bytesV f i n).set i (.int .u8 (f i : Int)) = bytesV f (i + 1) n := by
  apply List.ext_getElem?
  intro j
  by_cases hj : j < n
  · rw [bytesV_get f (i + 1) n j hj]
    by_cases hij : i = j
    · subst hij
      rw [List.getElem?_set_self (by rw [bytesV_len]; exact hi), if_pos (by omega)]
    · rw [List.getElem?_set_ne hij, bytesV_get f i n j hj]
      by_cases h : j < i
      · rw [if_pos h, if_pos (by omega)]
      · rw [if_neg h, if_neg (by omega)]
  · rw [List.getElem?_eq_none (by rw [List.length_set, bytesV_len]; omega), List.getElem?_eq_none (by rw [bytesV_len]; omega)]
theorem infoB : ∃ i, Try.prog.info? 5 = some i ∧ i.zero = some (.int .u8 0) ∧ i.size = 1 ∧ i.bytes = 1 := by
  have h : (Try.prog.info? 5).map (fun i => (i.zero, i.size, i.bytes)) = some (some (.int .u8 0), 1, 1) := by kernel_rfl
  obtain ⟨i, hi, hz⟩ := Option.map_eq_some_iff.1 h
  simp only [Prod.mk.injEq] at hz
  exact ⟨i, hi, hz.1, hz.2.1, hz.2.2⟩
theorem make_u8 (n : Nat) (hn : n ≤ 10000000000000) (u : World) : (Instr.makeSlice 67 (.int .i64 (n : Int)) (.int .i64 (n : Int))).run Try.prog u =
    .ok (.slice (some ⟨u.heap.size, 0, none⟩) n n) (u.alloc (.cells (madeCells #[.int .u8 0] n) 5)) := by
  obtain ⟨i0, hi, hz0, hz1, hz2⟩ := infoB
  have h := run_make (P := Try.prog) u 67 5 i0 (.int .u8 0) Try.underlying67 hi hz0 .i64 .i64 (n : Int) (n : Int) (by omega) (Int.le_refl _) (by rw [hz2]; omega) (by omega)
  simpa [hz1, Value.cells] using h
theorem bytes_made (w : World) (n : Nat) (hn : n ≤ maxLen) (f : Nat → Nat) : GenAt 5 (w.alloc (.cells (madeCells #[.int .u8 0] n) 5)) w.heap.size n (bytesV f 0 n) := by
  rw [bytesV_zero]
  refine ⟨List.replicate n (.int .u8 0), ?_, by simp, by simp, hn, by simp⟩
  have := blk_new w (.cells (madeCells #[.int .u8 0] n) 5)
  rw [this]
  congr 2
  apply Array.toList_inj.1
  rw [toList_madeCells_one]
/-- The numbers of a byte's place: the word, and the bit. -/
theorem num8 (u : Nat) (h : u ≤ 100000000) : ∃ d r s : Nat, d = u / 8 ∧ r = u % 8 ∧ s = 8 * r ∧ wrap64 ((u : Int) / 8) = (d : Int) ∧ wrap64 ((u : Int) % 8) = (r : Int) ∧ IntKind.i64.wrap ((u : Int) / 8) = (d : Int) ∧ IntKind.i64.wrap ((u : Int) % 8) = (r : Int) ∧ wrap64 ((r : Int) * 8) = (s : Int) ∧ IntKind.i64.wrap ((r : Int) * 8) = (s : Int) ∧ (u : Int).tmod 8 = (r : Int) ∧ (u : Int).tdiv 8 = (d : Int) ∧ wrap64 (d : Int) = (d : Int) ∧ wrap64 (r : Int) = (r : Int) ∧ IntKind.i64.wrap (d : Int) = (d : Int) ∧ IntKind.i64.wrap (r : Int) = (r : Int) := by
  have w1 : ∀ x : Int, 0 ≤ x → x < 9223372036854775808 → IntKind.i64.wrap x = x := fun x _ _ => by rw [IntKind.wrap_i64]; omega
  refine ⟨u / 8, u % 8, 8 * (u % 8), rfl, rfl, rfl, ?_, ?_, ?_, ?_, ?_, ?_, ?_, ?_, ?_, ?_, ?_, ?_⟩
  · rw [w64_small _ (by omega) (by omega)]; omega
  · rw [w64_small _ (by omega) (by omega)]; omega
  · rw [w1 _ (by omega) (by omega)]; omega
  · rw [w1 _ (by omega) (by omega)]; omega
  · rw [w64_small _ (by omega) (by omega)]; omega
  · rw [w1 _ (by omega) (by omega)]; omega
  · rw [Int.tmod_eq_emod_of_nonneg (by omega)]; omega
  · rw [Int.tdiv_eq_ediv_of_nonneg (by omega)]; omega
  · exact w64_small _ (by omega) (by omega)
  · exact w64_small _ (by omega) (by omega)
  · exact w1 _ (by omega) (by omega)
  · exact w1 _ (by omega) (by omega)
theorem byte_of (x s : Nat) : IntKind.u8.wrap ((x : Int) / 2 ^ s) = ((NumB.byteAt x s : Nat) : Int) := by
  have e1 : (x : Int) / 2 ^ s = ((x / 2 ^ s : Nat) : Int) := by rw [Int.natCast_ediv, Int.natCast_pow]; rfl
  rw [e1, IntKind.wrap_u8]
  unfold NumB.byteAt
  omega
end Go.Proofs.Ytgjcffjicbmkhaa.ArB
