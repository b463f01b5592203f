/- The arena's Bytes, SetBytes walked. -/
import Derived.Test.YtgjcffjicbmkhaaArB
namespace Go.Proofs.Ytgjcffjicbmkhaa.ArC
open Go Go.RowKit Go.Proofs.YtgjcffjicbmkhaaW.PrintWords Go.Proofs.YtgjcffjicbmkhaaW.PrintLast Go.Proofs.YtgjcffjicbmkhaaW.PrintMore Go.Proofs.Ytgjcffjicbmkhaa.RowU Go.Proofs.Ytgjcffjicbmkhaa.ArS Go.Proofs.Ytgjcffjicbmkhaa.ArM Go.Proofs.Ytgjcffjicbmkhaa.ArW Go.Proofs.Ytgjcffjicbmkhaa.ArX Go.Proofs.Ytgjcffjicbmkhaa.ArY Go.Proofs.Ytgjcffjicbmkhaa.ArZ Go.Proofs.Ytgjcffjicbmkhaa.GenM Go.Proofs.Ytgjcffjicbmkhaa.ArV Go.Proofs.Ytgjcffjicbmkhaa.ArB
set_option linter.unusedVariables false
set_option maxRecDepth 100000

theorem addr_block (a : Addr) (i : Nat) : (a.add i).block = a.block := by unfold Addr.add; split <;> rfl
theorem byte_min (x s : Nat) (h : s ≤ 56) : (x : Int) / 2 ^ min s 64 % 256 = ((NumB.byteAt x s : Nat) : Int) := by
  have e1 : (x : Int) / 2 ^ s = ((x / 2 ^ s : Nat) : Int) := by rw [Int.natCast_ediv, Int.natCast_pow]; rfl
  rw [Nat.min_eq_left (by omega), e1]
  unfold NumB.byteAt
  omega
set_option maxHeartbeats 1600000 in
theorem bytes.bad {W : World} {g gw gf sz : Nat} {l : List Ob} (hA : ArAt W g gw gf sz l) {p e : Int} (h : Bad l p e) (from_ n : Int) :
    Calls Try.prog 44 #[.pointer (some ⟨g, 0, none⟩), .int .i64 p, .int .i64 from_, .int .i64 n] W fun e' w' => e' = .returned (.tuple #[.slice none 0 0, .int .i64 e]) ∧ Below W.heap.size W w' := by
  have HB := Aside0.mk (span.bad hA h from_ n)
  have he := h.ne
  clear hA h
  go_enter Try.func44, Try.ntmps44
  go_wp2_with fail
  refine HB.out.mono ?_
  rintro e' w2 ⟨rfl, hb⟩
  have H2 := Aside0.mk hb
  clear hb HB
  go_wp2_with fail
  go_ret2
  exact ⟨rfl, H2.out⟩
set_option maxHeartbeats 1600000 in
theorem bytes.no {W : World} {g gw gf sz : Nat} {l : List Ob} (hA : ArAt W g gw gf sz l) {k : Nat} {o : Ob} (h : l[k]? = some o) (hg : o.gone = none) (p : Nat) (hp : p = place l k) (r s : Nat) (h1 : o.refs = r) (h2 : o.fields.length = r + s) (from_ n : Int) (hn : ¬ InSpan s from_ n) :
    Calls Try.prog 44 #[.pointer (some ⟨g, 0, none⟩), .int .i64 (p : Int), .int .i64 from_, .int .i64 n] W fun e' w' => e' = .returned (.tuple #[.slice none 0 0, .int .i64 25]) ∧ Below W.heap.size W w' := by
  have HB := Aside0.mk (span.no hA h hg p hp r s h1 h2 from_ n hn)
  clear hA h hg hp h1 h2 hn
  go_enter Try.func44, Try.ntmps44
  go_wp2_with fail
  refine HB.out.mono ?_
  rintro e' w2 ⟨rfl, hb⟩
  have H2 := Aside0.mk hb
  clear hb HB
  go_wp2_with fail
  go_ret2
  exact ⟨rfl, H2.out⟩
theorem word_cell {W : World} {g gw gf sz : Nat} {l : List Ob} (hA : ArAt W g gw gf sz l) {k : Nat} {o : Ob} (h : l[k]? = some o) (i : Nat) (hi : i < o.fields.length) : W.cell? ⟨gw, place l k + 1 + i, none⟩ = some (.int .u64 (o.fields.getD i 0 : Int)) := by
  obtain ⟨cw, cf, fs, hA⟩ := hA
  have hx : o.fields[i]? = some (o.fields.getD i 0) := by rw [List.getD_eq_getElem?_getD, List.getElem?_eq_getElem hi]; rfl
  exact hA.ws.get _ _ ((words_field h i hi).trans hx)
theorem word_frozen {W : World} {g gw gf sz : Nat} {l : List Ob} (hA : ArAt W g gw gf sz l) (j : Nat) : W.frozen? ⟨gw, j, none⟩ = false := by
  obtain ⟨cw, cf, fs, hA⟩ := hA
  exact hA.ws.frozen j
/-- What Bytes answers. -/
structure Told (W w' : World) (o : Ob) (from_ n gb : Nat) : Prop where
  at_ : GenAt 5 w' gb n (bytesV (fun i => Ob.byte o (from_ + i)) n n)
  new : W.heap.size ≤ gb
  below : Below W.heap.size W w'
set_option maxHeartbeats 4000000 in
theorem bytes.yes {W : World} {g gw gf sz : Nat} {l : List Ob} (hA : ArAt W g gw gf sz l) {k : Nat} {o : Ob} (h : l[k]? = some o) (hg : o.gone = none) (p : Nat) (hp : p = place l k) (r s : Nat) (h1 : o.refs = r) (h2 : o.fields.length = r + s) (from_ n : Nat) (hn : from_ + n ≤ 8 * s) :
    Calls Try.prog 44 #[.pointer (some ⟨g, 0, none⟩), .int .i64 (p : Int), .int .i64 (from_ : Int), .int .i64 (n : Int)] W fun e' w' => ∃ gb, e' = .returned (.tuple #[.slice (some ⟨gb, 0, none⟩) n n, .int .i64 0]) ∧ Told W w' o from_ n gb := by
  have HB := Aside0.mk (span.yes hA h hg p hp r s h1 h2 from_ n hn)
  obtain ⟨_, hl, hs, hr⟩ := raws_lt hA h
  have hs : s ≤ 1048576 := by omega
  have HA := Aside0.mk hA
  have HW : Aside0 (∀ W2 d, Below W.heap.size W W2 → d < s → W2.cell? ⟨gw, p + 1 + r + d, none⟩ = some (.int .u64 (o.fields.getD (r + d) 0 : Int))) := ⟨fun W2 d hb hd => by
    have := word_cell (hA.below hb) h (r + d) (by omega)
    rw [← hp, ← Nat.add_assoc] at this
    exact this⟩
  have hmk := make_u8 n (by omega)
  have hnb : n ≤ 8388608 := by omega
  have hfb : from_ + n ≤ 8388608 := by omega
  have HN := Aside0.mk hn
  have HR := Aside0.mk h1
  clear hA h hg hp h1 h2 hl hn hr
  go_enter Try.func44, Try.ntmps44
  go_wp2_with fail
  refine HB.out.mono ?_
  rintro e' w2 ⟨⟨A, hA, rfl⟩, hb⟩
  have H2 := Aside0.mk hb
  have HAd := Aside0.mk hA
  clear hb HB hA
  go_wp2_with fail
  go_loopw [30] (fun i wr => ∃ j : Nat, j ≤ n ∧ i = .int .i64 j ∧ Aside0 (GenAt 5 wr w2.heap.size n (bytesV (fun i => Ob.byte o (from_ + i)) j n) ∧ Below W.heap.size W wr)) (fun i _ => n - (intOf i).toNat)
  case atStart => exact ⟨0, Nat.zero_le _, rfl, ⟨bytes_made w2 n (by unfold maxLen; omega) _, below_alloc H2.out _⟩⟩
  case round =>
    obtain ⟨j, hj, rfl, HI⟩ := hrel
    rename World => wr
    by_cases hlt : j < n
    · obtain ⟨u, hu⟩ : ∃ u, u = from_ + j := ⟨_, rfl⟩
      obtain ⟨d, q, sh, hd, hq, hsh, E1, E2, E3, E4, E5, E6, E7, E8, E9, E10, E11, E12⟩ := num8 u (by omega)
      have HD := Aside0.mk (And.intro hu (And.intro hd (And.intro hq hsh)))
      have hds : d < s := by have := HN.out; clear E1 E2 E3 E4 E5 E6 E7 E8 E9 E10 E11 E12; omega
      have hjn : (j : Int) < n := by clear E1 E2 E3 E4 E5 E6 E7 E8 E9 E10 E11 E12; omega
      have hds' : (d : Int) < s := by clear E1 E2 E3 E4 E5 E6 E7 E8 E9 E10 E11 E12; omega
      have hs0 : 0 < s := by clear E1 E2 E3 E4 E5 E6 E7 E8 E9 E10 E11 E12; omega
      have hsi := NumB.sum_i (from_ : Int) j u (by clear E1 E2 E3 E4 E5 E6 E7 E8 E9 E10 E11 E12; omega) (by clear E1 E2 E3 E4 E5 E6 E7 E8 E9 E10 E11 E12; omega)
      obtain ⟨e1, f1⟩ := hsi
      have hAe := HAd.out hs0
      subst hAe
      have hc := HW.out wr d HI.out.2 hds
      obtain ⟨x, hx⟩ : ∃ x, x = o.fields.getD (r + d) 0 := ⟨_, rfl⟩
      rw [← hx] at hc
      have hcb := HI.out.1.get j _ (bytesV_get _ j n j hlt)
      have hfb2 := HI.out.1.frozen j
      have hsh7 : sh ≤ 56 := by clear E1 E2 E3 E4 E5 E6 E7 E8 E9 E10 E11 E12 e1 f1; omega
      have hby := byte_min x sh hsh7
      have HX := Aside0.mk hx
      clear hu hd hq hsh hx
      go_wp2_with fail
      have hval : NumB.byteAt x sh = Ob.byte o (from_ + j) := by
        unfold Ob.byte
        rw [HX.out, HD.out.2.2.2, HD.out.2.2.1, HD.out.2.1, HD.out.1, HR.out]
      clear E1 E2 E3 E4 E5 E6 E7 E8 E9 E10 E11 E12 e1 f1 hby
      have HNEW : Aside0 (GenAt 5 (wr.setCell ⟨w2.heap.size, j, none⟩ (.int .u8 ((NumB.byteAt x sh : Nat) : Int))) w2.heap.size n (bytesV (fun i => Ob.byte o (from_ + i)) (j + 1) n)) := ⟨by
        have := HI.out.1.set j (by rw [bytesV_len]; exact hlt) (.int .u8 ((NumB.byteAt x sh : Nat) : Int))
        rw [hval, bytesV_set (fun i => Ob.byte o (from_ + i)) j n hlt] at this
        rw [hval]
        exact this⟩
      go_roundw
      case rel => exact ⟨j + 1, by omega, by go_num, ⟨HNEW.out, below_put HI.out.2 H2.out.size _ _⟩⟩
      case measure => simp [intOf]; omega
    · obtain rfl : j = n := by omega
      go_wp2_with fail
      go_ret2
      exact ⟨_, rfl, ⟨HI.out.1, H2.out.size, HI.out.2⟩⟩
set_option maxHeartbeats 1600000 in
theorem setBytes.bad {W : World} {g gw gf sz : Nat} {l : List Ob} (hA : ArAt W g gw gf sz l) {p e : Int} (h : Bad l p e) (from_ : Int) (A : Option Addr) (n c : Nat) (hn : n ≤ 9000000000000000) :
    Calls Try.prog 26 #[.pointer (some ⟨g, 0, none⟩), .int .i64 p, .int .i64 from_, .slice A n c] W fun e' w' => e' = .returned (.int .i64 e) ∧ Below W.heap.size W w' := by
  have HB := Aside0.mk (span.bad hA h from_ n)
  have he := h.ne
  clear hA h
  go_enter Try.func26, Try.ntmps26
  go_wp2_with fail
  refine HB.out.mono ?_
  rintro e' w2 ⟨rfl, hb⟩
  have H2 := Aside0.mk hb
  clear hb HB
  go_wp2_with fail
  go_ret
  exact ⟨rfl, H2.out⟩
set_option maxHeartbeats 1600000 in
theorem setBytes.no {W : World} {g gw gf sz : Nat} {l : List Ob} (hA : ArAt W g gw gf sz l) {k : Nat} {o : Ob} (h : l[k]? = some o) (hg : o.gone = none) (p : Nat) (hp : p = place l k) (r s : Nat) (h1 : o.refs = r) (h2 : o.fields.length = r + s) (from_ : Int) (A : Option Addr) (n c : Nat) (hn : ¬ InSpan s from_ n) :
    Calls Try.prog 26 #[.pointer (some ⟨g, 0, none⟩), .int .i64 (p : Int), .int .i64 from_, .slice A n c] W fun e' w' => e' = .returned (.int .i64 25) ∧ Below W.heap.size W w' := by
  have HB := Aside0.mk (span.no hA h hg p hp r s h1 h2 from_ n hn)
  clear hA h hg hp h1 h2 hn
  go_enter Try.func26, Try.ntmps26
  go_wp2_with fail
  refine HB.out.mono ?_
  rintro e' w2 ⟨rfl, hb⟩
  have H2 := Aside0.mk hb
  clear hb HB
  go_wp2_with fail
  go_ret
  exact ⟨rfl, H2.out⟩
theorem arAt_put {W : World} {g gw gf sz : Nat} {l : List Ob} (hA : ArAt W g gw gf sz l) {k : Nat} {o : Ob} (h : l[k]? = some o) (hg : o.gone = none) (i v : Nat) (hi : i < o.fields.length) (hv : v < 18446744073709551616) :
    ArAt (W.setCell ⟨gw, place l k + 1 + i, none⟩ (.int .u64 (v : Int))) g gw gf sz (l.set k (Ob.put o i v)) := by
  obtain ⟨cw, cf, fs, hA⟩ := hA
  exact ⟨cw, cf, fs, ArRaw_put hA h hg i v hi hv⟩
theorem cell_upd {S : Nat → Prop} {W W' : World} {a : Addr} {v : Value} (hu : Upd S W W') (hs : ¬ S a.block) (h : W.cell? a = some v) : W'.cell? a = some v := by
  have hb := hu.block a.block (World.block_lt_of_cell? _ _ h) hs
  unfold World.cell? at *
  rw [hb]
  exact h
set_option maxHeartbeats 8000000 in
theorem setBytes.yes {W : World} {g gw gf sz : Nat} {l : List Ob} (hA : ArAt W g gw gf sz l) {k : Nat} {o : Ob} (h : l[k]? = some o) (hg : o.gone = none) (p : Nat) (hp : p = place l k) (r s : Nat) (h1 : o.refs = r) (h2 : o.fields.length = r + s) (from_ : Nat) (bs : List Nat) (hbs : ∀ c ∈ bs, c < 256)
    (A : Option Addr) (c : Nat) (hcell : ∀ (i x : Nat), bs[i]? = some x → ∃ ad, A = some ad ∧ ad.block ≠ gw ∧ W.cell? (ad.add i) = some (.int .u8 (x : Int))) (hn : from_ + bs.length ≤ 8 * s) :
    Calls Try.prog 26 #[.pointer (some ⟨g, 0, none⟩), .int .i64 (p : Int), .int .i64 (from_ : Int), .slice A bs.length c] W fun e' w' => e' = .returned (.int .i64 0) ∧ ArAt w' g gw gf sz (l.set k (putBs o from_ bs)) ∧ Upd (fun b => b = gw) W w' := by
  have HB := Aside0.mk (span.yes hA h hg p hp r s h1 h2 from_ bs.length hn)
  obtain ⟨hok, hl, hs, hr⟩ := raws_lt hA h
  have hs : s ≤ 1048576 := by omega
  obtain ⟨n, hne⟩ : ∃ n, n = bs.length := ⟨_, rfl⟩
  have HNE := Aside0.mk hne
  rw [← hne] at HB hn
  rw [← hne]
  have hkl := (List.getElem?_eq_some_iff.1 h).1
  have HSelf : Aside0 (∀ o', (l.set k o')[k]? = some o') := ⟨fun o' => List.getElem?_set_self hkl⟩
  have HPl : Aside0 (∀ j, place (l.set k (putBs o from_ (bs.take j))) k = p) := ⟨fun j => by rw [place_set h (putBs_same _ _ _).2.2.1]; exact hp.symm⟩
  have HC := Aside0.mk hcell
  have HBS := Aside0.mk hbs
  have HOK := Aside0.mk hok
  have HG := Aside0.mk hg
  have HA := Aside0.mk hA
  have HL : Aside0 (l.set k o = l) := ⟨by obtain ⟨_, hh⟩ := List.getElem?_eq_some_iff.1 h; subst hh; exact List.set_getElem_self _⟩
  have HR := Aside0.mk (And.intro h1 h2)
  have hnb : n ≤ 8388608 := by omega
  have hfb : from_ + n ≤ 8388608 := by omega
  have HN := Aside0.mk hn
  clear hA h hg hp h1 h2 hl hn hr hcell hbs hok hne hkl
  go_enter Try.func26, Try.ntmps26
  go_wp2_with fail
  refine HB.out.mono ?_
  rintro e' w2 ⟨⟨Ad, hAd, rfl⟩, hb⟩
  have H2 := Aside0.mk hb
  have HAd := Aside0.mk hAd
  clear hb HB hAd
  go_wp2_with fail
  go_loopw [29] (fun i wr => ∃ j : Nat, j ≤ n ∧ i = .int .i64 j ∧ Aside0 (ArAt wr g gw gf sz (l.set k (putBs o from_ (bs.take j))) ∧ Upd (fun b => b = gw) W wr)) (fun i _ => n - (intOf i).toNat)
  case atStart => exact ⟨0, Nat.zero_le _, rfl, ⟨by rw [List.take_zero]; show ArAt w2 g gw gf sz (l.set k o); rw [HL.out]; exact HA.out.below H2.out, Upd.of_below H2.out⟩⟩
  case round =>
    obtain ⟨j, hj, rfl, HI⟩ := hrel
    rename World => wr
    by_cases hlt : j < n
    · obtain ⟨u, hu⟩ : ∃ u, u = from_ + j := ⟨_, rfl⟩
      obtain ⟨x, hx⟩ : ∃ x, bs[j]? = some x := ⟨_, List.getElem?_eq_getElem (by rw [← HNE.out]; exact hlt)⟩
      obtain ⟨ad, hadA, hadb, hadc⟩ := HC.out j x hx
      subst hadA
      have hx256 := HBS.out x (List.mem_of_getElem? hx)
      have hcx := cell_upd HI.out.2 (a := ad.add j) (fun hh => hadb ((addr_block ad j).symm.trans hh)) hadc
      obtain ⟨oj, hoj⟩ : ∃ oj, oj = putBs o from_ (bs.take j) := ⟨_, rfl⟩
      obtain ⟨s1, s2, s3, s4⟩ := putBs_same (bs.take j) o from_
      rw [← hoj] at s1 s2 s3 s4
      have hHI := HI.out
      rw [← hoj] at hHI
      have HIj := Aside0.mk hHI
      have hojok : oj.ok := by rw [hoj]; exact putBs_ok _ (fun c hc => HBS.out c (List.mem_of_mem_take hc)) _ HOK.out
      have hpj : place (l.set k oj) k = p := by rw [hoj]; exact HPl.out j
      obtain ⟨d, q, sh, hd, hq, hsh, E1, E2, E3, E4, E5, E6, E7, E8, E9, E10, E11, E12⟩ := num8 u (by omega)
      have HE := Aside0.mk (And.intro E1 (And.intro E2 (And.intro E3 (And.intro E4 (And.intro E5 (And.intro E6 (And.intro E7 (And.intro E8 (And.intro E9 (And.intro E10 (And.intro E11 E12)))))))))))
      clear E1 E2 E3 E4 E5 E6 E7 E8 E9 E10 E11 E12
      have hds : d < s := by have := HN.out; omega
      have hjn : (j : Int) < n := by omega
      have hds' : (d : Int) < s := by omega
      have hs0 : 0 < s := by omega
      have hsh7 : sh ≤ 56 := by omega
      have HSU := Aside0.mk (NumB.sum_i (from_ : Int) j u (by omega) (by omega))
      have hrd : r + d < oj.fields.length := by rw [s3, HR.out.2]; omega
      obtain ⟨y, hy⟩ : ∃ y, y = oj.fields.getD (r + d) 0 := ⟨_, rfl⟩
      have hylt : y < 18446744073709551616 := by rw [hy]; exact getD_lt hojok _
      have hc : wr.cell? ⟨gw, p + 1 + r + d, none⟩ = some (.int .u64 (y : Int)) := by
        have := word_cell hHI.1 (HSelf.out oj) (r + d) hrd
        rw [hpj, ← hy, ← Nat.add_assoc] at this
        exact this
      have hf := word_frozen hHI.1 (p + 1 + r + d)
      have hput : bits BinOp.or IntKind.u64 (bits BinOp.andNot IntKind.u64 (y : Int) (IntKind.u64.wrap (255 * 2 ^ min sh 64))) (IntKind.u64.wrap (IntKind.u64.wrap (x : Int) * 2 ^ min sh 64)) = ((NumB.putAt y sh x : Nat) : Int) := by
        rw [Nat.min_eq_left (by omega), show IntKind.u64.wrap (x : Int) = (x : Int) by rw [IntKind.wrap_u64]; omega]
        exact NumB.put_bits y sh x hsh7 hylt hx256
      have HPut := Aside0.mk (fun (W2 : World) (hA2 : ArAt W2 g gw gf sz (l.set k oj)) => arAt_put hA2 (HSelf.out oj) (s4.trans HG.out) (r + d) (NumB.putAt y sh x) hrd (NumB.put_lt _ _ _ hsh7 hylt hx256))
      have HNext : Aside0 ((l.set k oj).set k (Ob.put oj (r + d) (NumB.putAt y sh x)) = l.set k (putBs o from_ (bs.take (j + 1)))) := ⟨by
        have hjb : j < bs.length := by rw [← HNE.out]; exact hlt
        have ht : bs.take (j + 1) = bs.take j ++ [x] := by rw [List.take_add_one, hx]; rfl
        rw [List.set_set, ht, putBs_snoc, ← hoj, List.length_take, Nat.min_eq_left (Nat.le_of_lt hjb), ← hu]
        congr 1
        unfold Ob.putB
        rw [s2, HR.out.1, ← hd, ← hq, ← hsh, ← hy]⟩
      have HHI := Aside0.mk (And.intro hpj hHI.2)
      have HAd2 := HAd.out hs0
      subst HAd2
      clear hu hx hadb hadc hoj s1 s2 s3 s4 hHI hojok hpj hd hq hsh hrd hy hylt hsh7 hx256 hds
      obtain ⟨E1, E2, E3, E4, E5, E6, E7, E8, E9, E10, E11, E12⟩ := HE.out
      obtain ⟨e1, f1⟩ := HSU.out
      go_wp2_with fail
      go_still_tail 17, (by kernel_rfl)
      change wpList _ _ _ _ _ wr.drew
      go_wp2_with fail
      clear E1 E2 E3 E4 E5 E6 E7 E8 E9 E10 E11 E12 e1 f1 hput
      have HFin : Aside0 (ArAt (wr.drew.setCell ⟨gw, p + 1 + r + d, none⟩ (.int .u64 ((NumB.putAt y sh x : Nat) : Int))) g gw gf sz (l.set k (putBs o from_ (bs.take (j + 1)))) ∧ Upd (fun b => b = gw) W (wr.drew.setCell ⟨gw, p + 1 + r + d, none⟩ (.int .u64 ((NumB.putAt y sh x : Nat) : Int)))) := ⟨by
        have h1 := HPut.out wr.drew (HIj.out.1.below (Below.refl wr.heap.size wr).drew)
        rw [HHI.out.1, HNext.out, ← Nat.add_assoc] at h1
        exact ⟨h1, (HHI.out.2.drew).put (.inl rfl) _ _⟩⟩
      go_roundw
      case rel => exact ⟨j + 1, by omega, by go_num, HFin⟩
      case measure => simp [intOf]; omega
    · obtain rfl : j = n := by omega
      go_wp2_with fail
      go_ret
      have := HI.out.1
      rw [HNE.out, List.take_length] at this
      exact ⟨rfl, this, HI.out.2⟩
end Go.Proofs.Ytgjcffjicbmkhaa.ArC
