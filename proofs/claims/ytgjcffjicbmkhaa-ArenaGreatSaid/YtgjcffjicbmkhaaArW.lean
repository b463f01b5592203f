/- The arena's methods that only look: begins, Object, fields, Get; word.Split. -/
import Derived.Test.YtgjcffjicbmkhaaArM
import Derived.Test.YtgjcffjicbmkhaaHeadW
namespace Go.Proofs.Ytgjcffjicbmkhaa.ArW
open Go Go.RowKit Go.Proofs.YtgjcffjicbmkhaaW.PrintWords Go.Proofs.YtgjcffjicbmkhaaW.PrintLast Go.Proofs.YtgjcffjicbmkhaaW.PrintMore Go.Proofs.Ytgjcffjicbmkhaa.RowU Go.Proofs.Ytgjcffjicbmkhaa.ArS Go.Proofs.Ytgjcffjicbmkhaa.ArM
set_option linter.unusedVariables false
set_option maxRecDepth 100000

theorem w64_small (x : Int) (h0 : 0 ≤ x) (h1 : x < 9223372036854775808) : wrap64 x = x := by unfold wrap64; omega
theorem results_tmp4 {fn : Func} {t u v z : Tmp} (h : fn.results = #[.tmp t, .tmp u, .tmp v, .tmp z]) (tmps : Array Value) (P : Program) (w : World) :
    (results fn tmps).run P w = .ok (.tuple #[tmps.getD t undef, tmps.getD u undef, tmps.getD v undef, tmps.getD z undef]) w := by
  simp [results, h]

set_option maxHeartbeats 1600000 in
theorem split.calls (k r s : Nat) (w : World) (h1 : 1 ≤ k ∧ k ≤ 255) (h2 : r ≤ 1048576) (h3 : s ≤ 1048576) (x : Int) (hx : x = k + 256 * r + 4294967296 * s) :
    Calls Try.prog 39 #[.int .u64 x] w fun e w' => e = .returned (.tuple #[.int .i64 k, .int .i64 r, .int .i64 s, .int .i64 0]) ∧ Below w.heap.size w w' := by
  have e1 : bits .and .u64 x 255 = k := by
    rw [show (255 : Int) = 2 ^ 8 - 1 from rfl, NumA.and_u64 8 (by decide) x (by omega) (by omega)]; omega
  have e2 : bits .and .u64 (x / 256) 16777215 = r := by
    rw [show (16777215 : Int) = 2 ^ 24 - 1 from rfl, NumA.and_u64 24 (by decide) _ (by omega) (by omega)]; omega
  have e3 : bits .and .u64 (x / 4294967296) 16777215 = s := by
    rw [show (16777215 : Int) = 2 ^ 24 - 1 from rfl, NumA.and_u64 24 (by decide) _ (by omega) (by omega)]; omega
  have e4 : x / 72057594037927936 = 0 := by omega
  have c1 : ((k : Int) == 0) = false := by simp; omega
  have c2 : decide ((1048576 : Int) < (r : Int)) = false := decide_eq_false (by omega)
  have c3 : decide ((1048576 : Int) < (s : Int)) = false := decide_eq_false (by omega)
  clear hx
  go_enter Try.func39, Try.ntmps39
  go_wp2_with fail
  ((try simp only [Exit.inBlock, Exit.then]); refine bodyPost_ret (results_tmp4 rfl _ _ _) rfl ?_)
  exact ⟨rfl, Below.refl _ _⟩

set_option maxHeartbeats 1600000 in
theorem begins.calls {W : World} {g gw gf cw cf sz : Nat} {fs : List Nat} {l : List Ob} (hA : ArRaw W g gw gf cw cf sz fs l) (p : Int) (b : Bool) (hb : b = true ↔ ∃ q : Nat, p = q ∧ begins l q) :
    Calls Try.prog 38 #[.pointer (some ⟨g, 0, none⟩), .int .i64 p] W fun e w' => e = .returned (.bool b) ∧ Below W.heap.size W w' := by
  have a1 := hA.c1
  have a2 := hA.c2
  by_cases h0 : 0 < p
  · have f0 : decide (0 < p) = true := decide_eq_true h0
    by_cases h1 : p < used l
    · have f1 : decide (p < (used l : Int)) = true := decide_eq_true h1
      obtain ⟨q, rfl⟩ := Int.eq_ofNat_of_zero_le (Int.le_of_lt h0)
      obtain ⟨x, hx, hxl, hbit⟩ := hA.bits.get q (by omega)
      have hc := hA.fb.get (q / 64) x hx
      have hl : q / 64 < fs.length := (List.getElem?_eq_some_iff.1 hx).1
      obtain ⟨j, hj⟩ : ∃ j, j = q / 64 := ⟨_, rfl⟩
      obtain ⟨r, hr⟩ : ∃ r, r = q % 64 := ⟨_, rfl⟩
      have hq2 : q < 18446744073709551616 := by have := hA.fit; have := hA.sz1; omega
      have qi : wrap64 ((q : Int) / 64) = (j : Int) := by rw [hj]; unfold wrap64; omega
      have qr : wrap64 ((q : Int) % 64) = (r : Int) := by rw [hr]; unfold wrap64; omega
      rw [← hj] at hc hl
      rw [← hr] at hbit
      have hr64 : r < 64 := by omega
      have hbo := Aside0.mk (bit_of x r hxl)
      have HR := Aside0.mk hr
      clear hj hr hq2
      have hB := Aside0.mk hb
      have HBIT := Aside0.mk hbit
      have HA := Aside0.mk hA
      clear hA hb hbit hx
      go_enter Try.func38, Try.ntmps38
      go_wp2_with fail
      go_ret
      refine ⟨?_, Below.refl _ _⟩
      have e : b = x.testBit r := by
        rw [Bool.eq_iff_iff, hB.out, HBIT.out]
        constructor
        · rintro ⟨q', h, hq'⟩
          obtain rfl : q = q' := by omega
          exact hq'
        · exact fun h => ⟨q, rfl, h⟩
      rw [e, ← hbo.out]
      simp
      rw [HR.out]
    · have f1 : decide (p < (used l : Int)) = false := decide_eq_false h1
      obtain rfl : b = false := by
        cases b
        · rfl
        · obtain ⟨q, rfl, hq⟩ := hb.1 rfl
          have := begins_lt hq; omega
      have HA := Aside0.mk hA
      clear hA hb
      go_enter Try.func38, Try.ntmps38
      go_wp2_with fail
      go_ret
      exact ⟨rfl, Below.refl _ _⟩
  · have f0 : decide (0 < p) = false := decide_eq_false h0
    obtain rfl : b = false := by
      cases b
      · rfl
      · obtain ⟨q, rfl, hq⟩ := hb.1 rfl
        have := begins_pos hq; omega
    have HA := Aside0.mk hA
    clear hA hb
    go_enter Try.func38, Try.ntmps38
    go_wp2_with fail
    go_ret
    exact ⟨rfl, Below.refl _ _⟩

/-- An object begins there and was not moved. -/
theorem begins.yes {W : World} {g gw gf cw cf sz : Nat} {fs : List Nat} {l : List Ob} (hA : ArRaw W g gw gf cw cf sz fs l) {k : Nat} {o : Ob} (h : l[k]? = some o) :
    Calls Try.prog 38 #[.pointer (some ⟨g, 0, none⟩), .int .i64 (place l k : Int)] W fun e w' => e = .returned (.bool true) ∧ Below W.heap.size W w' :=
  begins.calls hA _ true ⟨fun _ => ⟨_, rfl, begins_of h⟩, fun _ => rfl⟩
theorem begins.no {W : World} {g gw gf cw cf sz : Nat} {fs : List Nat} {l : List Ob} (hA : ArRaw W g gw gf cw cf sz fs l) (p : Int) (h : ¬ ∃ q : Nat, p = q ∧ begins l q) :
    Calls Try.prog 38 #[.pointer (some ⟨g, 0, none⟩), .int .i64 p] W fun e w' => e = .returned (.bool false) ∧ Below W.heap.size W w' :=
  begins.calls hA _ false ⟨fun h' => (by cases h'), fun h' => absurd h' h⟩
theorem and_top (x : Nat) (hx : x < 2 ^ 64) : x &&& 2 ^ 63 = if x < 2 ^ 63 then 0 else 2 ^ 63 := by
  apply Nat.eq_of_testBit_eq
  intro i
  rw [Nat.testBit_and, Nat.testBit_two_pow]
  by_cases hl : x < 2 ^ 63
  · rw [if_pos hl]
    by_cases hi : 63 = i
    · subst hi; simp [Nat.testBit_lt_two_pow hl]
    · simp [hi]
  · rw [if_neg hl, Nat.testBit_two_pow]
    by_cases hi : 63 = i
    · subst hi
      rw [Nat.testBit_eq_decide_div_mod_eq, show x / 2 ^ 63 = 1 by omega]; rfl
    · simp [hi]
theorem and_gone (x : Nat) (hx : x < 18446744073709551616) : bits .and .u64 (x : Int) 9223372036854775808 = if x < 9223372036854775808 then 0 else 9223372036854775808 := by
  have h := bits_and_u64_nat x 9223372036854775808 hx (by decide)
  rw [show ((9223372036854775808 : Nat) : Int) = 9223372036854775808 from rfl] at h
  have h2 := and_top x hx
  rw [show (2 : Nat) ^ 63 = 9223372036854775808 from rfl] at h2
  rw [h, h2]
  split <;> rfl
/-- No object that one may look at begins there; e: the error. -/
def Bad (l : List Ob) (p : Int) (e : Int) : Prop := (e = 23 ∧ ¬ ∃ q : Nat, p = q ∧ begins l q) ∨ (e = 26 ∧ ∃ k o t, l[k]? = some o ∧ o.gone = some t ∧ p = place l k)
theorem Bad.ne {l : List Ob} {p e : Int} (h : Bad l p e) : (e != 0) = true := by rcases h with ⟨rfl, _⟩ | ⟨rfl, _⟩ <;> rfl
set_option maxHeartbeats 1600000 in
theorem object.yes {W : World} {g gw gf cw cf sz : Nat} {fs : List Nat} {l : List Ob} (hA : ArRaw W g gw gf cw cf sz fs l) {k : Nat} {o : Ob} (h : l[k]? = some o) (hg : o.gone = none) :
    Calls Try.prog 15 #[.pointer (some ⟨g, 0, none⟩), .int .i64 (place l k : Int)] W fun e w' => e = .returned (.tuple #[.int .i64 o.kind, .int .i64 o.refs, .int .i64 o.raws, .int .i64 0]) ∧ Below W.heap.size W w' := by
  have HB := Aside0.mk (begins.yes hA h)
  have hok := hA.ok o (List.mem_of_getElem? h)
  have hx := words_head h
  have hlt := Ob.head_lt hok
  have hag := and_gone o.head hlt
  have hh := Ob.head_whole hg
  have hlo : o.head < 9223372036854775808 := by have := hok.k2; have := hok.r1; have := hok.s1; omega
  rw [if_pos hlo] at hag
  have HS := Aside0.mk (fun w => split.calls o.kind o.refs o.raws w ⟨hok.k1, hok.k2⟩ hok.r1 hok.s1 (o.head : Int) (by omega))
  have hpl := place_lt h
  have HH := Aside0.mk hh
  have HOK := Aside0.mk hok
  have HA := Aside0.mk hA
  have HX := Aside0.mk hx
  obtain ⟨p, hp⟩ : ∃ p, p = place l k := ⟨_, rfl⟩
  rw [← hp] at HX HB hpl
  rw [← hp]
  generalize o.head = x at *
  clear h hA hp hx hh hok hlo hg
  go_enter Try.func15, Try.ntmps15
  go_wp2_with fail
  refine HB.out.mono ?_
  rintro e w2 ⟨rfl, hb⟩
  have H2 := Aside0.mk hb
  have HA2 := Aside0.mk (HA.out.upd (S := none_) (Upd.of_below hb) (fun h => h) (fun h => h) (fun h => h))
  have a1 := HA2.out.c1
  have hc := HA2.out.ws.get _ _ HX.out
  clear hb HB
  go_wp2_with fail
  refine (HS.out w2).mono ?_
  rintro e w3 ⟨rfl, hb⟩
  have H3 := Aside0.mk hb
  clear hb HS
  go_wp2_with fail
  ((try simp only [Exit.inBlock, Exit.then]); refine bodyPost_ret (results_tmp4 rfl _ _ _) rfl ?_)
  exact ⟨rfl, below_next H2.out H3.out⟩
set_option maxHeartbeats 1600000 in
theorem object.bad {W : World} {g gw gf cw cf sz : Nat} {fs : List Nat} {l : List Ob} (hA : ArRaw W g gw gf cw cf sz fs l) {p e : Int} (h : Bad l p e) :
    Calls Try.prog 15 #[.pointer (some ⟨g, 0, none⟩), .int .i64 p] W fun e' w' => e' = .returned (.tuple #[.int .i64 0, .int .i64 0, .int .i64 0, .int .i64 e]) ∧ Below W.heap.size W w' := by
  rcases h with ⟨rfl, h⟩ | ⟨rfl, k, o, t, h, hg, rfl⟩
  · have HB := Aside0.mk (begins.no hA p h)
    clear hA h
    go_enter Try.func15, Try.ntmps15
    go_wp2_with fail
    refine HB.out.mono ?_
    rintro e w2 ⟨rfl, hb⟩
    have H2 := Aside0.mk hb
    clear hb HB
    go_wp2_with fail
    ((try simp only [Exit.inBlock, Exit.then]); refine bodyPost_ret (results_tmp4 rfl _ _ _) rfl ?_)
    exact ⟨rfl, H2.out⟩
  · have HB := Aside0.mk (begins.yes hA h)
    have hok := hA.ok o (List.mem_of_getElem? h)
    have hx := words_head h
    have hlt := Ob.head_lt hok
    have hag := and_gone o.head hlt
    have hh := Ob.head_gone hg
    have hlo : ¬ o.head < 9223372036854775808 := by omega
    rw [if_neg hlo] at hag
    have hpl := place_lt h
    have HA := Aside0.mk hA
    have HX := Aside0.mk hx
    obtain ⟨p, hp⟩ : ∃ p, p = place l k := ⟨_, rfl⟩
    rw [← hp] at HX HB hpl
    rw [← hp]
    generalize o.head = x at *
    clear h hA hp hx hh hok hlo hg
    go_enter Try.func15, Try.ntmps15
    go_wp2_with fail
    refine HB.out.mono ?_
    rintro e w2 ⟨rfl, hb⟩
    have H2 := Aside0.mk hb
    have HA2 := Aside0.mk (HA.out.upd (S := none_) (Upd.of_below hb) (fun h => h) (fun h => h) (fun h => h))
    have a1 := HA2.out.c1
    have hc := HA2.out.ws.get _ _ HX.out
    clear hb HB
    go_wp2_with fail
    ((try simp only [Exit.inBlock, Exit.then]); refine bodyPost_ret (results_tmp4 rfl _ _ _) rfl ?_)
    exact ⟨rfl, H2.out⟩
set_option maxHeartbeats 1600000 in
theorem fields.bad {W : World} {g gw gf cw cf sz : Nat} {fs : List Nat} {l : List Ob} (hA : ArRaw W g gw gf cw cf sz fs l) {p e : Int} (h : Bad l p e) :
    Calls Try.prog 37 #[.pointer (some ⟨g, 0, none⟩), .int .i64 p] W fun e' w' => e' = .returned (.tuple #[.slice none 0 0, .int .i64 0, .int .i64 e]) ∧ Below W.heap.size W w' := by
  have HB := Aside0.mk (object.bad hA h)
  have he := h.ne
  clear hA h
  go_enter Try.func37, Try.ntmps37
  go_wp2_with fail
  refine HB.out.mono ?_
  rintro e' w2 ⟨rfl, hb⟩
  have H2 := Aside0.mk hb
  clear hb HB
  go_wp2_with fail
  go_ret3
  exact ⟨rfl, H2.out⟩
set_option maxHeartbeats 1600000 in
theorem fields.yes {W : World} {g gw gf cw cf sz : Nat} {fs : List Nat} {l : List Ob} (hA : ArRaw W g gw gf cw cf sz fs l) {k : Nat} {o : Ob} (h : l[k]? = some o) (hg : o.gone = none) :
    Calls Try.prog 37 #[.pointer (some ⟨g, 0, none⟩), .int .i64 (place l k : Int)] W fun e w' => (∃ A, (0 < o.fields.length → A = ⟨gw, place l k + 1, none⟩) ∧ e = .returned (.tuple #[.slice (some A) o.fields.length o.fields.length, .int .i64 o.refs, .int .i64 0])) ∧ Below W.heap.size W w' := by
  have HB := Aside0.mk (object.yes hA h hg)
  have hok := hA.ok o (List.mem_of_getElem? h)
  have hfl := Ob.len hok
  have hsp := used_split h
  have hcw : used l ≤ cw := by obtain ⟨cur, h1, h2, h3, h4, h5⟩ := hA.ws; exact h3
  have hu : used l ≤ 1048576 := Nat.le_trans hA.fit hA.sz1
  have HA := Aside0.mk hA
  obtain ⟨p, hp⟩ : ∃ p, p = place l k := ⟨_, rfl⟩
  obtain ⟨n, hn⟩ : ∃ n, n = o.fields.length := ⟨_, rfl⟩
  rw [← hp] at HB hsp
  rw [← hn] at hsp hfl
  rw [← hp, ← hn]
  generalize o.kind = ok at *
  generalize o.refs = r at *
  generalize o.raws = s at *
  obtain ⟨q, hq⟩ : ∃ q, q = p + 1 + n := ⟨_, rfl⟩
  have e1 : wrap64 (wrap64 ((p : Int) + 1 + r) + s) = (q : Int) := by rw [hq, w64_small ((p : Int) + 1 + r) (by omega) (by omega), w64_small _ (by omega) (by omega)]; omega
  have q1 : p + 1 ≤ q := by omega
  have q2 : q ≤ cw := by omega
  have q3 : q ≤ 1048576 := by omega
  have HQ : Aside0 (q - (p + 1) = n ∧ (q = p + 1 ↔ n = 0)) := ⟨by omega⟩
  have HN := Aside0.mk hfl
  clear h hA hp hn hok hg hfl hq hsp hu
  go_enter Try.func37, Try.ntmps37
  go_wp2_with fail
  refine HB.out.mono ?_
  rintro e w2 ⟨rfl, hb⟩
  have H2 := Aside0.mk hb
  have HA2 := Aside0.mk (HA.out.upd (S := none_) (Upd.of_below hb) (fun h => h) (fun h => h) (fun h => h))
  have a1 := HA2.out.c1
  clear hb HB
  go_wp2_with fail
  · go_ret3
    refine ⟨⟨⟨gw, 0, none⟩, fun h0 => ?_, ?_⟩, H2.out⟩
    · have := HQ.out.2.1 h; omega
    · rw [← HQ.out.1]
      simp
      omega
  · go_ret3
    refine ⟨⟨⟨gw, p + 1, none⟩, fun h0 => rfl, ?_⟩, H2.out⟩
    rw [← HQ.out.1]
    rfl
set_option maxHeartbeats 1600000 in
theorem get.bad {W : World} {g gw gf cw cf sz : Nat} {fs : List Nat} {l : List Ob} (hA : ArRaw W g gw gf cw cf sz fs l) {p e : Int} (h : Bad l p e) (i : Int) :
    Calls Try.prog 16 #[.pointer (some ⟨g, 0, none⟩), .int .i64 p, .int .i64 i] W fun e' w' => e' = .returned (.tuple #[.int .u64 0, .int .i64 e]) ∧ Below W.heap.size W w' := by
  have HB := Aside0.mk (fields.bad hA h)
  have he := h.ne
  clear hA h
  go_enter Try.func16, Try.ntmps16
  go_wp2_with fail
  refine HB.out.mono ?_
  rintro e' w2 ⟨rfl, hb⟩
  have H2 := Aside0.mk hb
  clear hb HB
  go_wp2_with fail
  go_ret2
  exact ⟨rfl, H2.out⟩
set_option maxHeartbeats 1600000 in
theorem get.yes {W : World} {g gw gf cw cf sz : Nat} {fs : List Nat} {l : List Ob} (hA : ArRaw W g gw gf cw cf sz fs l) {k : Nat} {o : Ob} (h : l[k]? = some o) (hg : o.gone = none) (i : Nat) (x : Nat) (hi : o.fields[i]? = some x) :
    Calls Try.prog 16 #[.pointer (some ⟨g, 0, none⟩), .int .i64 (place l k : Int), .int .i64 (i : Int)] W fun e' w' => e' = .returned (.tuple #[.int .u64 (x : Int), .int .i64 0]) ∧ Below W.heap.size W w' := by
  have HB := Aside0.mk (fields.yes hA h hg)
  have hil : i < o.fields.length := (List.getElem?_eq_some_iff.1 hi).1
  have hx := (words_field h i hil).trans hi
  have HX := Aside0.mk hx
  have HA := Aside0.mk hA
  have hil' : (i : Int) < o.fields.length := by omega
  obtain ⟨n, hn⟩ : ∃ n, n = o.fields.length := ⟨_, rfl⟩
  rw [← hn] at HB hil hil'
  have c1 : decide ((i : Int) < 0) = false := decide_eq_false (by omega)
  have c2 : decide ((n : Int) ≤ (i : Int)) = false := decide_eq_false (by omega)
  clear hA h hg hi hx hn
  generalize o.refs = r at *
  generalize place l k = p at *
  go_enter Try.func16, Try.ntmps16
  go_wp2_with fail
  refine HB.out.mono ?_
  rintro e' w2 ⟨⟨A, hAd, rfl⟩, hb⟩
  obtain rfl := hAd (by omega)
  have H2 := Aside0.mk hb
  have HA2 := Aside0.mk (HA.out.upd (S := none_) (Upd.of_below hb) (fun h => h) (fun h => h) (fun h => h))
  have hc : w2.cell? ⟨gw, p + 1 + i, none⟩ = some (.int .u64 (x : Int)) := HA2.out.ws.get _ _ HX.out
  clear hb HB
  go_wp2_with fail
  go_ret2
  exact ⟨rfl, H2.out⟩
set_option maxHeartbeats 1600000 in
theorem get.far {W : World} {g gw gf cw cf sz : Nat} {fs : List Nat} {l : List Ob} (hA : ArRaw W g gw gf cw cf sz fs l) {k : Nat} {o : Ob} (h : l[k]? = some o) (hg : o.gone = none) (i : Int) (hi : i < 0 ∨ o.fields.length ≤ i) :
    Calls Try.prog 16 #[.pointer (some ⟨g, 0, none⟩), .int .i64 (place l k : Int), .int .i64 i] W fun e' w' => e' = .returned (.tuple #[.int .u64 0, .int .i64 24]) ∧ Below W.heap.size W w' := by
  have HB := Aside0.mk (fields.yes hA h hg)
  obtain ⟨n, hn⟩ : ∃ n, n = o.fields.length := ⟨_, rfl⟩
  rw [← hn] at HB hi
  clear hA h hg hn
  generalize o.refs = r at *
  generalize place l k = p at *
  by_cases h0 : i < 0
  · have c1 : decide (i < 0) = true := decide_eq_true h0
    clear hi
    go_enter Try.func16, Try.ntmps16
    go_wp2_with fail
    refine HB.out.mono ?_
    rintro e' w2 ⟨⟨A, hAd, rfl⟩, hb⟩
    have H2 := Aside0.mk hb
    clear hb HB hAd
    go_wp2_with fail
    go_ret2
    exact ⟨rfl, H2.out⟩
  · have c1 : decide (i < 0) = false := decide_eq_false h0
    have c2 : decide ((n : Int) ≤ i) = true := decide_eq_true (by omega)
    clear hi
    go_enter Try.func16, Try.ntmps16
    go_wp2_with fail
    refine HB.out.mono ?_
    rintro e' w2 ⟨⟨A, hAd, rfl⟩, hb⟩
    have H2 := Aside0.mk hb
    clear hb HB hAd
    go_wp2_with fail
    go_ret2
    exact ⟨rfl, H2.out⟩
end Go.Proofs.Ytgjcffjicbmkhaa.ArW
