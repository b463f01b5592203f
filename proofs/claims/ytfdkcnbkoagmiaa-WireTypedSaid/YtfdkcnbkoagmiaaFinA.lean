/- Layer 8: argument walked. -/
import Derived.Test.YtfdkcnbkoagmiaaFinV
namespace Go.Proofs.Ytfdkcnbkoagmiaa.FinA
open Go Go.RowKit Go.Proofs.YtfdkcnbkoagmiaaW.PrintWords Go.Proofs.YtfdkcnbkoagmiaaW.PrintLast Go.Proofs.YtfdkcnbkoagmiaaW.PrintMore Go.Proofs.Ytfdkcnbkoagmiaa.PA Go.Proofs.Ytfdkcnbkoagmiaa.RowU Go.Proofs.Ytfdkcnbkoagmiaa.CopL Go.Proofs.Ytfdkcnbkoagmiaa.ApnG Go.Proofs.Ytfdkcnbkoagmiaa.LivS Go.Proofs.Ytfdkcnbkoagmiaa.LivT Go.Proofs.Ytfdkcnbkoagmiaa.LivF Go.Proofs.Ytfdkcnbkoagmiaa.FinV
set_option linter.unusedVariables false
set_option maxRecDepth 100000

/-- A part of a list that is read. -/
theorem C_mid {w : World} {ad : Addr} {t m : List Int} {j : Nat} (h : (Kd.int .u8).C w (some ad) t.length t) (hm : ∀ i x, m[i]? = some x → t[j + i]? = some x) (hl : m.length ≤ t.length) : (Kd.int .u8).C w (some (ad.add j)) m.length m := by
  obtain ⟨h1, h2, h3⟩ := h
  refine ⟨rfl, by omega, fun h0 => ⟨_, rfl, fun i x hx => ?_⟩⟩
  obtain ⟨ad', e, hc⟩ := h3 (by omega)
  obtain rfl := Option.some.inj e
  obtain ⟨cs, c1, c2, c3⟩ := hc (j + i) x (hm i x hx)
  refine ⟨cs, c1, c2, fun p u hu => ?_⟩
  have := c3 p u hu
  rw [show (Kd.int .u8).sz = 1 from rfl] at this ⊢
  rw [Addr.add_add]
  rw [show j + (i * 1 + p) = (j + i) * 1 + p by omega]
  exact this
theorem zeros_len (n : Nat) : (zeros n).length = n := by simp [zeros]
theorem zeros_C (w : World) (n : Nat) (hn : n ≤ 1000000) : (Kd.int .u8).C (w.alloc (.cells (madeCells #[.int .u8 0] n) 5)) (some ⟨w.heap.size, 0, none⟩) (zeros n).length (zeros n) := by
  refine C_of _ _ _ (by rw [zeros_len]; omega) (fun j x hx => ?_)
  have hj : j < n := by have := (List.getElem?_eq_some_iff.1 hx).1; rw [zeros_len] at this; exact this
  obtain ⟨_, hx'⟩ := List.getElem?_eq_some_iff.1 hx
  have h0 : x = 0 := by rw [← hx']; simp [zeros]
  subst h0
  obtain ⟨cur, h1, h2, h3, h4, h5⟩ := row_made w n (by unfold maxLen; omega)
  rw [cell_of_row _ _ j _ _ _ h1]
  have h6 := congrArg (fun r => r[j]?) h5
  simp only [List.length_replicate, List.getElem?_take, if_pos hj, List.getElem?_map, List.getElem?_replicate, Option.map_some] at h6
  simpa using h6
theorem tail_str (n : Nat) : (⟨#[13, 10]⟩ : ByteArray) ++ strOfNums (zeros n) ++ ⟨#[13, 10]⟩ = strOfNums (tail1 n) := by
  rw [show (⟨#[13, 10]⟩ : ByteArray) = strOfNums [13, 10] from rfl, StrR.str_append, StrR.str_append]
  rfl
set_option maxHeartbeats 4000000 in
theorem argument_none (A : Option Addr) (c : Nat) (t : List Int) (w : World) (ht : t.length ≤ 100000000) :
    Calls Try.prog 40 #[.slice A t.length c, .int .i64 t.length] w fun e w' => e = .returned (.tuple #[.string (strOfNums one), .int .i64 0]) ∧ Below w.heap.size w w' := by
  have h1 : (t.length : Int) ≤ (t.length : Int) := Int.le_refl _
  go_enter Try.func40, Try.ntmps40
  go_wp2_with fail
  go_ret2
  exact ⟨rfl, Below.refl _ _⟩
/-- Where the digits end. -/
structure At (t : List Int) (i : Nat) (dn : List Int) (k : Nat) : Prop where
  lt : i < t.length
  hk : k = i + 1 + dn.length
  le : k ≤ t.length
  dg : ∀ j x, dn[j]? = some x → t[i + 1 + j]? = some x
  no : (13 : Int) ∉ dn
  stop : k = t.length ∨ t[k]? = some 13
theorem meas (L : Nat) (a b : Int) (h1 : 0 ≤ a) (h : a < L) (h2 : b = a + 1) : L - (intOf (.int .i64 b)).toNat < L - (intOf (.int .i64 a)).toNat := by simp only [intOf]; omega
set_option maxHeartbeats 8000000 in
theorem argument_sign (A : Option Addr) (c : Nat) (t : List Int) (w : World) (hr : (Kd.int .u8).C w A t.length t) (hc : t.length ≤ c) (ht : t.length ≤ 100000000) (i : Nat) (hi : t.length = i + 1) :
    Calls Try.prog 40 #[.slice A t.length c, .int .i64 i] w fun e w' => e = .returned (.tuple #[.string (strOfNums [48, 13, 10, 13, 10]), .int .i64 0]) ∧ Below w.heap.size w w' := by
  have hw : wrap64 ((i : Int) + 1) = (t.length : Int) := by unfold wrap64; omega
  have h1 : ¬ (t.length : Int) ≤ (i : Int) := by omega
  have h2 : ¬ (t.length : Int) < (t.length : Int) := by omega
  have HW := Aside0.mk hw
  clear hr hi ht
  go_enter Try.func40, Try.ntmps40
  go_wp2_with fail
  go_loopw [6] (fun k wr => k = .int .i64 t.length ∧ wr = w) (fun _ _ => 0)
  case atStart => exact ⟨rfl, rfl⟩
  case round =>
    obtain ⟨rfl, rfl⟩ := hrel
    go_wp2_with fail
    go_ret2
    exact ⟨rfl, Below.refl _ _⟩
theorem w64a (a b : Int) (h : a + 1 = b) (h0 : 0 ≤ b) (h1 : b ≤ 1000000000000) : wrap64 (a + 1) = b := by unfold wrap64; omega
theorem w64s (a b c : Int) (h : a - b = c) (h0 : 0 ≤ c) (h1 : c ≤ 1000000000000) : wrap64 (a - b) = c := by unfold wrap64; omega
theorem w64p (a b c : Int) (h : a + b = c) (h0 : 0 ≤ c) (h1 : c ≤ 1000000000000) : wrap64 (a + b) = c := by unfold wrap64; omega
set_option maxHeartbeats 8000000 in
theorem argument_some (g o c : Nat) (t : List Int) (w : World) (hr : (Kd.int .u8).C w (some ⟨g, o, none⟩) t.length t) (hc : t.length ≤ c) (ht : t.length ≤ 100000000) (i : Nat) (dn : List Int) (k : Nat) (n : Nat) (hA : At t i dn k) (hn : Nm dn n) (hne : dn ≠ []) :
    Calls Try.prog 40 #[.slice (some ⟨g, o, none⟩) t.length c, .int .i64 i] w fun e w' => e = .returned (if t.length - k < n + 4 then .tuple #[.string (strOfNums ((tail1 n).drop (t.length - k))), .int .i64 0] else .tuple #[.string ⟨#[]⟩, .int .i64 ((k + (n + 4) : Nat) : Int)]) ∧ Below w.heap.size w w' := by
  obtain ⟨RV, hRV⟩ : ∃ RV, RV = (if t.length - k < n + 4 then Value.tuple #[.string (strOfNums ((tail1 n).drop (t.length - k))), .int .i64 0] else .tuple #[.string ⟨#[]⟩, .int .i64 ((k + (n + 4) : Nat) : Int)]) := ⟨_, rfl⟩
  rw [← hRV]
  have HRV := Aside0.mk hRV
  clear hRV
  have hi := hA.lt
  have hk := hA.hk
  have hle := hA.le
  have HA := Aside0.mk hA
  have HR := Aside0.mk hr
  have HN := Aside0.mk hn
  have hdl : 1 ≤ dn.length := by
    cases dn with
    | nil => exact absurd rfl hne
    | cons x r => simp
  have hd4 := hn.len
  have hn9 : n ≤ 9999 := by
    have := (val_le4 hn.d hd4 dn.length).2
    rw [List.take_length, hn.v] at this
    omega
  have HB := Aside0.mk (And.intro hdl (And.intro hd4 (And.intro hn9 (And.intro hk (And.intro hle (And.intro ht hc))))))
  have hwi : wrap64 ((i : Int) + 1) = ((i + 1 : Nat) : Int) := w64a _ _ (by omega) (by omega) (by omega)
  have hi1 : ¬ (t.length : Int) ≤ (i : Int) := by omega
  clear hr hA hn hne hi hk hle hdl hd4 hn9 ht
  go_enter Try.func40, Try.ntmps40
  go_wp2_with fail
  go_loopw [6] (fun kk wr => ∃ j : Nat, kk = .int .i64 ((i + 1 + j : Nat) : Int) ∧ Aside0 (j ≤ dn.length) ∧ w = wr) (fun kk _ => t.length - (intOf kk).toNat)
  case atStart => exact ⟨0, rfl, ⟨Nat.zero_le _⟩, rfl⟩
  case round =>
    obtain ⟨j, rfl, HJ, rfl⟩ := hrel
    have hjl := HJ.out
    have hb := HB.out
    obtain ⟨K, hK⟩ : ∃ K, K = i + 1 + j := ⟨_, rfl⟩
    by_cases hj : j < dn.length
    · obtain ⟨x, hx⟩ : ∃ x, dn[j]? = some x := ⟨_, List.getElem?_eq_getElem hj⟩
      have hx2 := HA.out.dg j x hx
      rw [← hK] at hx2
      obtain ⟨ad2, e2, hcell⟩ := byteAt HR.out hx2
      obtain rfl := Option.some.inj e2
      rw [Addr.add_lit] at hcell
      have hne : x ≠ 13 := fun e => HA.out.no (by rw [← e]; exact List.mem_of_getElem? hx)
      have hlt : (K : Int) < (t.length : Int) := by omega
      have h0 : (0 : Int) ≤ (K : Int) := by omega
      have hw2 : wrap64 ((K : Int) + 1) = ((K + 1 : Nat) : Int) := w64a _ _ (by omega) (by omega) (by omega)
      have HM : Aside0 (K < t.length ∧ j + 1 ≤ dn.length) := ⟨by omega⟩
      have HKE := Aside0.mk hK
      rw [← hK]
      clear hjl hb hK hx hx2 hj hwi hi1
      go_wp2_with fail
      refine ⟨⟨j + 1, ?_, ⟨HM.out.2⟩, by trivial⟩, meas _ _ _ h0 (by have := HM.out.1; omega) (by first | rfl | omega)⟩
      have := HKE.out
      first
        | (congr 1; omega)
        | (rw [hw2]; congr 1; omega)
    · have hje : j = dn.length := by omega
      have hKk : K = k := by omega
      have HKE := Aside0.mk (And.intro hK hKk)
      rw [← hK]
      have HV := Aside0.mk (value.calls (some ⟨g, o + (i + 1), none⟩) (c - (i + 1)) dn n w (by have := C_mid HR.out (fun p x hx => HA.out.dg p x hx) (by omega); rw [Addr.add_lit] at this; exact this) (by omega) (.inr ⟨HN.out, by rintro rfl; simp at hb⟩))
      have h0 : (0 : Int) ≤ (K : Int) := by omega
      obtain ⟨m, hm⟩ : ∃ m, m = t.length - K := ⟨_, rfl⟩
      have hKle : (K : Int) ≤ (t.length : Int) := by omega
      have hKc : (K : Int) ≤ (c : Int) := by omega
      have hiK : ((i + 1 : Nat) : Int) ≤ (K : Int) := by omega
      have hi0 : (0 : Int) ≤ ((i + 1 : Nat) : Int) := by omega
      have hne1 : ¬ (K : Int) = ((i + 1 : Nat) : Int) := by omega
      have hsub : K - (i + 1) = dn.length := by omega
      have hw1 : wrap64 ((t.length : Int) - (K : Int)) = (m : Int) := w64s _ _ _ (by omega) (by omega) (by omega)
      have hn9 : n ≤ 9999 := hb.2.2.1
      have HW1 := Aside0.mk hw1
      have HM := Aside0.mk (And.intro hm (And.intro hKk hn9))
      have hstop : (K : Int) = (t.length : Int) ∨ (K : Int) < (t.length : Int) ∧ w.cell? ⟨g, o + K, none⟩ = some (.int .u8 13) := by
        rcases HA.out.stop with h | h
        · exact .inl (by omega)
        · rw [← hKk] at h
          obtain ⟨ad2, e2, hcell⟩ := byteAt HR.out h
          obtain rfl := Option.some.inj e2
          rw [Addr.add_lit] at hcell
          have := (List.getElem?_eq_some_iff.1 h).1
          exact .inr ⟨by omega, hcell⟩
      clear hjl hb hK hje hKk hj hi1 hm hw1 hn9 HJ
      rcases hstop with hs | ⟨hs, hcell⟩
      · have hs' : ¬ (K : Int) < (t.length : Int) := by omega
        clear hs
        go_upto_region 9 with (go_at_call 38; refine HV.out.mono ?_; rintro e w2 ⟨rfl, hb2⟩; have HB2 := Aside0.mk hb2; clear hb2)
        have hn9 := HM.out.2.2
        have hmk := make_u8 n (by omega) w2
        have hcv : (convert 26 9 (.slice (some ⟨w2.heap.size, 0, none⟩) n n)).run Try.prog (w2.alloc (.cells (madeCells #[.int .u8 0] n) 5)) = .ok (.string (strOfNums (zeros n))) (w2.alloc (.cells (madeCells #[.int .u8 0] n) 5)) := by
          have := StrR.str_run (c := n) (zeros_C w2 n (by omega))
          rw [zeros_len] at this
          exact this
        have hzs : (strOfNums (zeros n)).size = n := by rw [strOfNums_size, zeros_len]
        have HTS := Aside0.mk (tail_str n)
        obtain ⟨Z, hZ⟩ : ∃ Z, Z = strOfNums (zeros n) := ⟨_, rfl⟩
        rw [← hZ] at hcv hzs HTS
        have hw1 := HW1.out
        have hn0 : ¬ (n : Int) < 0 := by omega
        clear hZ
        by_cases hmn : m < n + 4
        · have hm1 : (t.length : Int) - (K : Int) < 2 + (n : Int) + 2 := by have := HM.out.1; omega
          have hm2 : (t.length : Int) - (K : Int) ≤ 2 + (n : Int) + 2 := by omega
          have hm3 : (0 : Int) ≤ (t.length : Int) - (K : Int) := by omega
          have HMN := Aside0.mk hmn
          clear hmn hw1
          go_wp2_with fail
          go_ret2
          have h9 := HM.out
          refine ⟨?_, (below_next HB2.out (below_alloc (Below.refl _ _) _))⟩
          rw [HRV.out, if_pos (by have := HMN.out; omega), ← h9.2.1, ← h9.1, ← StrR.str_drop, ← HTS.out]
          have e9 : ((t.length : Int) - (K : Int)).toNat = m := by omega
          have e10 : (({ data := #[13, 10] } : ByteArray) ++ Z ++ { data := #[13, 10] }).size = 2 + n + 2 := by rw [ByteArray.size_append', ByteArray.size_append', hzs]; rfl
          try rw [e9]
          rw [e10]
          rfl
        · have hm1 : ¬ (t.length : Int) - (K : Int) < 2 + (n : Int) + 2 := by have := HM.out.1; omega
          have hq1 : ¬ (2 + n > 9223372036854775807) := by omega
          have hub : (t.length : Int) ≤ 100000000 := by have := HB.out; omega
          have hm3 : (0 : Int) ≤ (t.length : Int) - (K : Int) := by omega
          have hq2 : ¬ (2 + n + 2 > 9223372036854775807) := by omega
          have HMN := Aside0.mk hmn
          clear hmn hw1
          go_wp2_with fail
          go_ret2
          have h9 := HM.out
          refine ⟨?_, (below_next HB2.out (below_alloc (Below.refl _ _) _))⟩
          rw [HRV.out, if_neg (by have := HMN.out; omega), ← h9.2.1]
          exact congrArg (fun z => Ending.returned (Value.tuple #[.string ⟨#[]⟩, .int .i64 z])) (show (K : Int) + (2 + (n : Int) + 2) = ((K + (n + 4) : Nat) : Int) by omega)
      · go_upto_region 9 with (go_at_call 38; refine HV.out.mono ?_; rintro e w2 ⟨rfl, hb2⟩; have HB2 := Aside0.mk hb2; clear hb2)
        have hn9 := HM.out.2.2
        have hmk := make_u8 n (by omega) w2
        have hcv : (convert 26 9 (.slice (some ⟨w2.heap.size, 0, none⟩) n n)).run Try.prog (w2.alloc (.cells (madeCells #[.int .u8 0] n) 5)) = .ok (.string (strOfNums (zeros n))) (w2.alloc (.cells (madeCells #[.int .u8 0] n) 5)) := by
          have := StrR.str_run (c := n) (zeros_C w2 n (by omega))
          rw [zeros_len] at this
          exact this
        have hzs : (strOfNums (zeros n)).size = n := by rw [strOfNums_size, zeros_len]
        have HTS := Aside0.mk (tail_str n)
        obtain ⟨Z, hZ⟩ : ∃ Z, Z = strOfNums (zeros n) := ⟨_, rfl⟩
        rw [← hZ] at hcv hzs HTS
        have hw1 := HW1.out
        have hn0 : ¬ (n : Int) < 0 := by omega
        clear hZ
        by_cases hmn : m < n + 4
        · have hm1 : (t.length : Int) - (K : Int) < 2 + (n : Int) + 2 := by have := HM.out.1; omega
          have hm2 : (t.length : Int) - (K : Int) ≤ 2 + (n : Int) + 2 := by omega
          have hm3 : (0 : Int) ≤ (t.length : Int) - (K : Int) := by omega
          have HMN := Aside0.mk hmn
          clear hmn hw1
          go_wp2_with fail
          go_ret2
          have h9 := HM.out
          refine ⟨?_, (below_next HB2.out (below_alloc (Below.refl _ _) _))⟩
          rw [HRV.out, if_pos (by have := HMN.out; omega), ← h9.2.1, ← h9.1, ← StrR.str_drop, ← HTS.out]
          have e9 : ((t.length : Int) - (K : Int)).toNat = m := by omega
          have e10 : (({ data := #[13, 10] } : ByteArray) ++ Z ++ { data := #[13, 10] }).size = 2 + n + 2 := by rw [ByteArray.size_append', ByteArray.size_append', hzs]; rfl
          try rw [e9]
          rw [e10]
          rfl
        · have hm1 : ¬ (t.length : Int) - (K : Int) < 2 + (n : Int) + 2 := by have := HM.out.1; omega
          have hq1 : ¬ (2 + n > 9223372036854775807) := by omega
          have hub : (t.length : Int) ≤ 100000000 := by have := HB.out; omega
          have hm3 : (0 : Int) ≤ (t.length : Int) - (K : Int) := by omega
          have hq2 : ¬ (2 + n + 2 > 9223372036854775807) := by omega
          have HMN := Aside0.mk hmn
          clear hmn hw1
          go_wp2_with fail
          go_ret2
          have h9 := HM.out
          refine ⟨?_, (below_next HB2.out (below_alloc (Below.refl _ _) _))⟩
          rw [HRV.out, if_neg (by have := HMN.out; omega), ← h9.2.1]
          exact congrArg (fun z => Ending.returned (Value.tuple #[.string ⟨#[]⟩, .int .i64 z])) (show (K : Int) + (2 + (n : Int) + 2) = ((K + (n + 4) : Nat) : Int) by omega)
end Go.Proofs.Ytfdkcnbkoagmiaa.FinA
