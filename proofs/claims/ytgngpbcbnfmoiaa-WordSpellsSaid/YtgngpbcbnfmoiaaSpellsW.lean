/- larderlaw1.WordSpells: the machine's call answers true. -/
import Derived.Test.YtgngpbcbnfmoiaaSpellF
import Derived.Test.YtgngpbcbnfmoiaaLendW
import Derived.Test.YtgngpbcbnfmoiaaPackW
import Derived.Test.YtgngpbcbnfmoiaaArgsW
namespace Go.Proofs.Ytgngpbcbnfmoiaa.SpellsW
open Go Go.RowKit Go.Proofs.YtgngpbcbnfmoiaaW.PrintWords Go.Proofs.YtgngpbcbnfmoiaaW.PrintLast Go.Proofs.YtgngpbcbnfmoiaaW.PrintMore Go.Proofs.Ytgngpbcbnfmoiaa.PA Go.Proofs.Ytgngpbcbnfmoiaa.PL Go.Proofs.Ytgngpbcbnfmoiaa.WordS Go.Proofs.Ytgngpbcbnfmoiaa.NumS Go.Proofs.Ytgngpbcbnfmoiaa.NumT
set_option linter.unusedVariables false
set_option linter.unusedSimpArgs false

theorem sk_step {w0 w1 w2 : World} {a : Addr} {v : Value} (h : w1.cell? a = some v ∧ Aside0 (Below w0.heap.size w0 w1)) (hb : Below w1.heap.size w1 w2) : w2.cell? a = some v ∧ Aside0 (Below w0.heap.size w0 w2) :=
  ⟨pw_cell_below hb h.1, ⟨below_step h.2.out hb⟩⟩
theorem sk_out {w0 w1 : World} {a : Addr} {v : Value} (h : w1.cell? a = some v ∧ Aside0 (Below w0.heap.size w0 w1)) : Below w0.heap.size w0 w1 := h.2.out
set_option maxHeartbeats 8000000 in
set_option maxRecDepth 100000 in
theorem spells (n m x : Int) (A : Option Addr) (c : Nat) (l : List Int) (w : World) (hn : -9223372036854775808 ≤ n ∧ n < 9223372036854775808) (hm : -9223372036854775808 ≤ m ∧ m < 9223372036854775808) (hx : 0 ≤ x ∧ x < 18446744073709551616)
    (hr : Kd.C (Kd.int .u8) w A l.length l) (hc : l.length ≤ c) (hi : inB l) :
    Calls Try.prog 7 #[.agg #[.int .i64 n, .int .i64 m, .int .u64 x, .slice A l.length c]] w fun e w' => e = .returned (.bool true) ∧ Below w.heap.size w w' := by
  have KT := Aside0.mk (SpellF.text_some n hn)
  have KN : Aside0 (PB.word_Int.f (textL n) = some (n, 0)) := ⟨(SpellF.int_some _).trans (congrArg some (int_text n hn))⟩
  have KD := Aside0.mk (SpellF.dig_some x hx)
  have KU : Aside0 (PB.word_Uint.f (digitsL x.toNat) = some (x, 0)) := ⟨by
    have hu := uint_digits x.toNat (by omega)
    rw [show ((x.toNat : Nat) : Int) = x from by omega] at hu
    exact (SpellF.uint_some _).trans (congrArg some hu)⟩
  obtain ⟨m', f, hmf⟩ : ∃ m' f, intS l = (m', f) := ⟨_, _, rfl⟩
  obtain ⟨y, i, hyi⟩ : ∃ y i, uintS l = (y, i) := ⟨_, _, rfl⟩
  have KI : Aside0 (PB.word_Int.f l = some (m', f)) := ⟨congrArg some hmf⟩
  have KV : Aside0 (PB.word_Uint.f l = some (y, i)) := ⟨congrArg some hyi⟩
  -- what is read is the only spelling
  have KTm : Aside0 (f = 0 → PB.word_Text.f m' = some l) := ⟨fun h => by
    have h1 : (intS l).2 = 0 := by rw [hmf]; exact h
    have h2 := text_int h1
    rw [hmf] at h2
    rw [SpellF.text_some m' (by have := int_range (l := l); rw [hmf] at this; exact this), h2]⟩
  have KDy : Aside0 (i = 0 → word_Digits.f y = some l) := ⟨fun h => by
    have h1 : (uintS l).2 = 0 := by rw [hyi]; exact h
    obtain ⟨h2, h3, h4⟩ := digits_uint h1
    rw [hyi] at h2 h3 h4
    rw [SpellF.dig_some y ⟨h3, h4⟩, h2]⟩
  have KB : Aside0 (f = 0 → 0 ≤ m' → i = 0 ∧ y = m' ∧ IntKind.u64.wrap m' = m') := ⟨fun h h0 => by
    have h1 : (intS l).2 = 0 := by rw [hmf]; exact h
    have h2 := int_uint h1 (by rw [hmf]; exact h0)
    have h3 := int_range (l := l)
    rw [hyi, hmf] at h2
    rw [hmf] at h3
    injection h2 with h4 h5
    exact ⟨h5, h4, by rw [IntKind.wrap_u64]; simp only at h3; omega⟩⟩
  have KA := Aside0.mk (SpellF.add_some n m hn hm)
  have HN := Aside0.mk hn
  have HM := Aside0.mk hm
  have HRw := Aside0.mk hr
  have HB := Aside0.mk (Below.refl w.heap.size w)
  have hnn : (n != n) = false := by simp
  have hxx : (x != x) = false := by simp
  clear hn hm hx hr hmf hyi hi
  go_enter Try.func7, Try.ntmps7
  go_wp2_with (first | ((with_reducible refine gate_dst (N := 1) rfl ?_); refine box_event ?hg (N := 1) ?hd (cs := #[.int .i64 n, .int .i64 m, .int .u64 x, .slice A l.length c]) (t := 80) ?hr ?_; (case hd => rfl); (case hg => rfl); (case hr => first | (go_simp; done) | (go_simp; rfl)); intro gb hg w5 hbox hb; have n0_ := Aside0.mk (below_step (by repeat (first | (with_reducible first | exact HB.out | apply below_alloc | apply pw_below_drewN | apply below_drew1) | exact HB.out)) hb); have n1_ := Aside0.mk (hbox); clear HB; have HB := n0_; have BK := n1_; clear n0_ n1_; clear hb hbox hg; have hcz0 : w5.cell? ⟨gb, 0, none⟩ = some (.int .i64 n) := (blk_cell BK.out 0).trans rfl; have hcz1 : w5.cell? ⟨gb, 1, none⟩ = some (.int .i64 m) := (blk_cell BK.out 1).trans rfl; have hcz2 : w5.cell? ⟨gb, 2, none⟩ = some (.int .u64 x) := (blk_cell BK.out 2).trans rfl; have hcz3 : w5.cell? ⟨gb, 3, none⟩ = some (.slice A l.length c) := (blk_cell BK.out 3).trans rfl))
  refine (PB.word_Text.calls n (textL n) _ KT.out).mono ?_
  rintro e w6 ⟨v6, rfl, hR, hb⟩
  have hcz0' := pw_cell_below hb hcz0; have hcz1' := pw_cell_below hb hcz1; have hcz2' := pw_cell_below hb hcz2; have hcz3' := pw_cell_below hb hcz3; clear hcz0 hcz1 hcz2 hcz3; have hcz0 := hcz0'; have hcz1 := hcz1'; have hcz2 := hcz2'; have hcz3 := hcz3'; clear hcz0' hcz1' hcz2' hcz3'; have n2_ := Aside0.mk (below_step HB.out hb); clear HB; have HB := n2_; clear n2_
  obtain ⟨Ap, cp, rfl, hcp, hCp⟩ := Kd.R_reads hR
  have HCp := Aside0.mk hCp
  clear hR hb hCp
  go_wp2_with fail
  refine (PB.word_Int.calls Ap cp (textL n) n 0 _ HCp.out hcp KN.out).mono ?_
  rintro e w7 ⟨rfl, hd⟩
  have hb := hd.below
  have hcz0' := pw_cell_below hb hcz0; have hcz1' := pw_cell_below hb hcz1; have hcz2' := pw_cell_below hb hcz2; have hcz3' := pw_cell_below hb hcz3; clear hcz0 hcz1 hcz2 hcz3; have hcz0 := hcz0'; have hcz1 := hcz1'; have hcz2 := hcz2'; have hcz3 := hcz3'; clear hcz0' hcz1' hcz2' hcz3'; have n2_ := Aside0.mk (below_step HB.out hb); clear HB; have HB := n2_; clear n2_
  clear hb hd HCp
  go_wp2_with fail
  refine (larderlaw1_num.calls 0 0 _ rfl).mono ?_
  rintro e w8 ⟨rfl, hd⟩
  have hb := hd.below
  have hcz0' := pw_cell_below hb hcz0; have hcz1' := pw_cell_below hb hcz1; have hcz2' := pw_cell_below hb hcz2; have hcz3' := pw_cell_below hb hcz3; clear hcz0 hcz1 hcz2 hcz3; have hcz0 := hcz0'; have hcz1 := hcz1'; have hcz2 := hcz2'; have hcz3 := hcz3'; clear hcz0' hcz1' hcz2' hcz3'; have n2_ := Aside0.mk (below_step HB.out hb); clear HB; have HB := n2_; clear n2_
  clear hb hd
  go_wp2_with fail
  refine (PB.word_Int.calls A c l m' f _ (Kd.C_below HRw.out HB.out) hc KI.out).mono ?_
  rintro e w9 ⟨rfl, hd⟩
  have hb := hd.below
  have hcz0' := pw_cell_below hb hcz0; have hcz1' := pw_cell_below hb hcz1; have hcz2' := pw_cell_below hb hcz2; have hcz3' := pw_cell_below hb hcz3; clear hcz0 hcz1 hcz2 hcz3; have hcz0 := hcz0'; have hcz1 := hcz1'; have hcz2 := hcz2'; have hcz3 := hcz3'; clear hcz0' hcz1' hcz2' hcz3'; have n2_ := Aside0.mk (below_step HB.out hb); clear HB; have HB := n2_; clear n2_
  clear hb hd
  go_upto_region 5 with (fail)
  go_cut [46] (fun v46 wc => v46 = .bool false ∧ Aside0 (Below w9.heap.size w9 wc))
  case first =>
    have hS0 : (w9.drew).cell? ⟨gb, 3, none⟩ = some (.slice A l.length c) ∧ Aside0 (Below w9.heap.size w9 w9.drew) := ⟨hcz3, ⟨(Below.refl _ w9).drew⟩⟩
    by_cases hf : f = 0
    · have hf1 : (f == 0) = true := by simp [hf]
      have KTm' := Aside0.mk (KTm.out hf)
      clear hf hcz0 hcz1 hcz2
      go_region_held3 (fun w' => w'.cell? ⟨gb, 3, none⟩ = some (.slice A l.length c) ∧ Aside0 (Below w9.heap.size w9 w')) (first | assumption | (go_keep; done))
        (first
        | (go_at_call 21; refine (larderlaw1_num.calls f f _ rfl).mono ?_; rintro e wa ⟨rfl, hd⟩; have hS1 := sk_step (w0 := w9) (by assumption) hd.below; clear hd)
        | (go_at_call 33; refine (PB.word_Text.calls m' l _ KTm'.out).mono ?_; rintro e wb ⟨v7, rfl, hR, hb⟩; have hS1 := sk_step (w0 := w9) (by assumption) hb; obtain ⟨Aq, cq, rfl, hcq, hCq⟩ := Kd.R_reads hR; have HCq := Aside0.mk hCq; clear hR hCq hb)
        | (go_at_call 16; refine (larderlaw1_sameBytes.calls Aq cq l A c l true _ HCq.out hcq (Kd.C_below HRw.out (below_step HB.out (sk_out (by assumption)))) hc (same_refl l)).mono ?_; rintro e wd ⟨rfl, hd⟩; have hS1 := sk_step (w0 := w9) (by assumption) hd.below; clear hd))
      all_goals (go_wp2; go_meet; exact ⟨rfl, And.right (by assumption)⟩)
    · have hf1 : (f == 0) = false := by simp [hf]
      clear hf hcz0 hcz1 hcz2
      go_quiet (first | (go_at_call 21; refine (larderlaw1_num.calls f f _ rfl).mono ?_; rintro e w' ⟨rfl, ⟨nd, rfl⟩⟩; (try first | exact ⟨rfl, _, World.drewN_drewN _ _ _⟩ | exact ⟨rfl, _, Eq.trans (World.drewN_drewN _ _ _) (congrArg (World.drewN _) (Nat.add_assoc _ _ _))⟩)))
      all_goals (go_wp2; go_meet; exact ⟨rfl, ⟨pw_below_drewN (Below.refl _ _) _⟩⟩)
  case rest =>
    obtain ⟨rfl, hb⟩ := hcut
    have hb := hb.out
    have hcz0' := pw_cell_below hb hcz0; have hcz1' := pw_cell_below hb hcz1; have hcz2' := pw_cell_below hb hcz2; have hcz3' := pw_cell_below hb hcz3; clear hcz0 hcz1 hcz2 hcz3; have hcz0 := hcz0'; have hcz1 := hcz1'; have hcz2 := hcz2'; have hcz3 := hcz3'; clear hcz0' hcz1' hcz2' hcz3'; have n2_ := Aside0.mk (below_step HB.out hb); clear HB; have HB := n2_; clear n2_
    clear hb
    go_wp2_with fail
    refine (word_Digits.calls x (digitsL x.toNat) _ KD.out).mono ?_
    rintro e wr ⟨v6, rfl, hR, hb⟩
    have hcz0' := pw_cell_below hb hcz0; have hcz1' := pw_cell_below hb hcz1; have hcz2' := pw_cell_below hb hcz2; have hcz3' := pw_cell_below hb hcz3; clear hcz0 hcz1 hcz2 hcz3; have hcz0 := hcz0'; have hcz1 := hcz1'; have hcz2 := hcz2'; have hcz3 := hcz3'; clear hcz0' hcz1' hcz2' hcz3'; have n2_ := Aside0.mk (below_step HB.out hb); clear HB; have HB := n2_; clear n2_
    obtain ⟨Ad, cd, rfl, hcd, hCd⟩ := Kd.R_reads hR
    have HCd := Aside0.mk hCd
    clear hR hb hCd
    go_wp2_with fail
    refine (PB.word_Uint.calls Ad cd (digitsL x.toNat) x 0 _ HCd.out hcd KU.out).mono ?_
    rintro e ws ⟨rfl, hd⟩
    have hb := hd.below
    have hcz0' := pw_cell_below hb hcz0; have hcz1' := pw_cell_below hb hcz1; have hcz2' := pw_cell_below hb hcz2; have hcz3' := pw_cell_below hb hcz3; clear hcz0 hcz1 hcz2 hcz3; have hcz0 := hcz0'; have hcz1 := hcz1'; have hcz2 := hcz2'; have hcz3 := hcz3'; clear hcz0' hcz1' hcz2' hcz3'; have n2_ := Aside0.mk (below_step HB.out hb); clear HB; have HB := n2_; clear n2_
    clear hb hd HCd
    go_wp2_with fail
    refine (larderlaw1_num.calls 0 0 _ rfl).mono ?_
    rintro e wu ⟨rfl, hd⟩
    have hb := hd.below
    have hcz0' := pw_cell_below hb hcz0; have hcz1' := pw_cell_below hb hcz1; have hcz2' := pw_cell_below hb hcz2; have hcz3' := pw_cell_below hb hcz3; clear hcz0 hcz1 hcz2 hcz3; have hcz0 := hcz0'; have hcz1 := hcz1'; have hcz2 := hcz2'; have hcz3 := hcz3'; clear hcz0' hcz1' hcz2' hcz3'; have n2_ := Aside0.mk (below_step HB.out hb); clear HB; have HB := n2_; clear n2_
    clear hb hd
    go_wp2_with fail
    refine (PB.word_Uint.calls A c l y i _ (Kd.C_below HRw.out HB.out) hc KV.out).mono ?_
    rintro e wv ⟨rfl, hd⟩
    have hb := hd.below
    have hcz0' := pw_cell_below hb hcz0; have hcz1' := pw_cell_below hb hcz1; have hcz2' := pw_cell_below hb hcz2; have hcz3' := pw_cell_below hb hcz3; clear hcz0 hcz1 hcz2 hcz3; have hcz0 := hcz0'; have hcz1 := hcz1'; have hcz2 := hcz2'; have hcz3 := hcz3'; clear hcz0' hcz1' hcz2' hcz3'; have n2_ := Aside0.mk (below_step HB.out hb); clear HB; have HB := n2_; clear n2_
    clear hb hd
    go_upto_region 11 with (fail)
    go_cut [99] (fun v99 wc => v99 = .bool false ∧ Aside0 (Below wv.heap.size wv wc))
    case first =>
      have hS0 : (wv.drew).cell? ⟨gb, 3, none⟩ = some (.slice A l.length c) ∧ Aside0 (Below wv.heap.size wv wv.drew) := ⟨hcz3, ⟨(Below.refl _ wv).drew⟩⟩
      clear hcz0 hcz1 hcz2
      by_cases hi0 : i = 0
      · have hi1 : (i == 0) = true := by simp [hi0]
        have hi2 : (i != 0) = false := by simp [hi0]
        have KDy' := Aside0.mk (KDy.out hi0)
        by_cases hf : f = 0
        · have hf1 : (f == 0) = true := by simp [hf]
          by_cases hm0 : 0 ≤ m'
          · have hm1 : decide (0 ≤ m') = true := decide_eq_true hm0
            have hy := (KB.out hf hm0).2.1
            have hwr := (KB.out hf hm0).2.2
            have hyw : (y != IntKind.u64.wrap m') = false := by rw [hwr, hy]; simp
            have hyw2 : (y != m') = false := by rw [hy]; simp
            clear hy hi0 hf hm0
            refine wp_region_held_drew (S := (fun w' => w'.cell? ⟨gb, 3, none⟩ = some (.slice A l.length c) ∧ Aside0 (Below wv.heap.size wv w'))) (by kernel_rfl) (by exact hS0) (fun hHeld => ?_)
            refine wpAnyH_take (i := 0) (oi := ({ dst := some 69, op := Go.Op.move (Go.Operand.tmp 10), type := 37, pos := "outright.go:84", after := #[], guard := none } : Oper)) (v := ?va0) rfl (by kernel_rfl) (by kernel_rfl) (by kernel_rfl) (fun _ _ _ h => h) (Or.inl ⟨by rfl, ?hya0⟩) (by assumption) ?resta0
            case hya0 => (intro w hSw; (try dsimp only at hSw); go_simp; (try with_reducible rfl))
            (try simp only [Act.put, List.setIfInBounds_toArray, List.set_cons_zero, List.set_cons_succ])
            refine wpAnyH_ready (rs := [1]) (by kernel_rfl) (by simp) ?_
            refine AllReadyH.cons (o := ({ dst := some 70, op := Go.Op.call { callee := Go.Callee.value (Go.Operand.func 21), args := #[Go.Operand.tmp 69], argTypes := #[37] }, type := 3, pos := "outright.go:84", after := #[{ on := 0, ground := Go.Ground.data }], guard := none } : Oper)) rfl (fun K hK => ?_) AllReadyH.nil
            go_simp
            refine (larderlaw1_num.calls _ _ _ rfl).mono ?_
            rintro e wa ⟨rfl, hd⟩
            have hS1 := sk_step (w0 := wv) (by assumption) hd.below
            clear hd
            (try go_wp2_with fail)
            refine hK.out _ _ (by assumption) (fun hHeld => ?_)
            clear hK K
            (try simp only [Act.put, List.setIfInBounds_toArray, List.set_cons_zero, List.set_cons_succ])
            refine wpAnyH_take (i := 2) (oi := ({ dst := some 71, op := Go.Op.binOp Go.BinOp.eql 3 (Go.Operand.tmp 70) (Go.Operand.const (Go.Value.int Go.IntKind.i64 0)) 3, type := 4, pos := "outright.go:84", after := #[{ on := 1, ground := Go.Ground.data }], guard := none } : Oper)) (v := ?va2) rfl (by kernel_rfl) (by kernel_rfl) (by kernel_rfl) (fun _ _ _ h => h) (Or.inl ⟨by rfl, ?hya2⟩) (by assumption) ?resta2
            case hya2 => (intro w hSw; (try dsimp only at hSw); go_simp; (try with_reducible rfl))
            (try simp only [Act.put, List.setIfInBounds_toArray, List.set_cons_zero, List.set_cons_succ])
            refine wpAnyH_take (i := 3) (oi := ({ dst := some 72, op := Go.Op.move (Go.Operand.tmp 71), type := 4, pos := "outright.go:84", after := #[{ on := 2, ground := Go.Ground.data }, { on := 1, ground := Go.Ground.chain }], guard := none } : Oper)) (v := ?va3) rfl (by kernel_rfl) (by kernel_rfl) (by kernel_rfl) (fun _ _ _ h => h) (Or.inl ⟨by rfl, ?hya3⟩) (by assumption) ?resta3
            case hya3 => (intro w hSw; (try dsimp only at hSw); go_simp; (try with_reducible rfl))
            (try simp only [Act.put, List.setIfInBounds_toArray, List.set_cons_zero, List.set_cons_succ])
            refine wpAnyH_take (i := 4) (oi := ({ dst := some 73, op := Go.Op.move (Go.Operand.tmp 9), type := 23, pos := "outright.go:84", after := #[{ on := 3, ground := Go.Ground.guard }], guard := some (3, true) } : Oper)) (v := ?va4) rfl (by kernel_rfl) (by kernel_rfl) (by kernel_rfl) (fun _ _ _ h => h) (Or.inl ⟨by rfl, ?hya4⟩) (by assumption) ?resta4
            case hya4 => (intro w hSw; (try dsimp only at hSw); go_simp; (try with_reducible rfl))
            (try simp only [Act.put, List.setIfInBounds_toArray, List.set_cons_zero, List.set_cons_succ])
            refine wpAnyH_take (i := 6) (oi := ({ dst := some 75, op := Go.Op.fieldAddr 80 (Go.Operand.tmp 1) 3, type := 0, pos := "outright.go:84", after := #[{ on := 3, ground := Go.Ground.guard }], guard := some (3, true) } : Oper)) (v := ?va6) rfl (by kernel_rfl) (by kernel_rfl) (by kernel_rfl) (fun _ _ _ h => h) (Or.inl ⟨by rfl, ?hya6⟩) (by assumption) ?resta6
            case hya6 => (intro w hSw; (try dsimp only at hSw); go_simp; (try with_reducible rfl))
            (try simp only [Act.put, List.setIfInBounds_toArray, List.set_cons_zero, List.set_cons_succ])
            refine wpAnyH_take (i := 7) (oi := ({ dst := some 76, op := Go.Op.load 22 (Go.Operand.tmp 75), type := 22, pos := "outright.go:84", after := #[{ on := 6, ground := Go.Ground.data }, { on := 3, ground := Go.Ground.guard }], guard := some (3, true) } : Oper)) (v := ?va7) rfl (by kernel_rfl) (by kernel_rfl) (by kernel_rfl) (fun _ _ _ h => h) (Or.inl ⟨by rfl, ?hya7⟩) (by assumption) ?resta7
            case hya7 => (intro w hSw; (try dsimp only at hSw); go_simp; (try with_reducible rfl))
            (try simp only [Act.put, List.setIfInBounds_toArray, List.set_cons_zero, List.set_cons_succ])
            refine wpAnyH_ready (rs := [5]) (by kernel_rfl) (by simp) ?_
            refine AllReadyH.cons (o := ({ dst := some 74, op := Go.Op.call { callee := Go.Callee.value (Go.Operand.func 35), args := #[Go.Operand.tmp 73], argTypes := #[23] }, type := 22, pos := "outright.go:84", after := #[{ on := 4, ground := Go.Ground.data }, { on := 3, ground := Go.Ground.chain }, { on := 3, ground := Go.Ground.guard }], guard := some (3, true) } : Oper)) rfl (fun K hK => ?_) AllReadyH.nil
            go_simp
            refine (word_Digits.calls y l _ KDy'.out).mono ?_
            rintro e wb ⟨v7, rfl, hR, hb⟩
            have hS1 := sk_step (w0 := wv) (by assumption) hb
            obtain ⟨Aq, cq, rfl, hcq, hCq⟩ := Kd.R_reads hR
            have HCq := Aside0.mk hCq
            clear hR hCq hb
            (try go_wp2_with fail)
            refine hK.out _ _ (by assumption) (fun hHeld => ?_)
            clear hK K
            (try simp only [Act.put, List.setIfInBounds_toArray, List.set_cons_zero, List.set_cons_succ])
            refine wpAnyH_ready (rs := [8]) (by kernel_rfl) (by simp) ?_
            refine AllReadyH.cons (o := ({ dst := some 77, op := Go.Op.call { callee := Go.Callee.value (Go.Operand.func 16), args := #[Go.Operand.tmp 74, Go.Operand.tmp 76], argTypes := #[22, 22] }, type := 4, pos := "outright.go:84", after := #[{ on := 5, ground := Go.Ground.data }, { on := 7, ground := Go.Ground.data }, { on := 5, ground := Go.Ground.chain }, { on := 3, ground := Go.Ground.guard }], guard := some (3, true) } : Oper)) rfl (fun K hK => ?_) AllReadyH.nil
            go_simp
            refine (larderlaw1_sameBytes.calls Aq cq l A c l true _ HCq.out hcq (Kd.C_below HRw.out (below_step HB.out (sk_out (by assumption)))) hc (same_refl l)).mono ?_
            rintro e wd ⟨rfl, hd⟩
            have hS1 := sk_step (w0 := wv) (by assumption) hd.below
            clear hd
            (try go_wp2_with fail)
            refine hK.out _ _ (by assumption) (fun hHeld => ?_)
            clear hK K
            (try simp only [Act.put, List.setIfInBounds_toArray, List.set_cons_zero, List.set_cons_succ])
            refine wpAnyH_take (i := 9) (oi := ({ dst := some 78, op := Go.Op.unOp Go.UnOp.not 4 (Go.Operand.tmp 77), type := 4, pos := "outright.go:84", after := #[{ on := 8, ground := Go.Ground.data }, { on := 3, ground := Go.Ground.guard }], guard := some (3, true) } : Oper)) (v := ?va9) rfl (by kernel_rfl) (by kernel_rfl) (by kernel_rfl) (fun _ _ _ h => h) (Or.inl ⟨by rfl, ?hya9⟩) (by assumption) ?resta9
            case hya9 => (intro w hSw; (try dsimp only at hSw); go_simp; (try with_reducible rfl))
            (try simp only [Act.put, List.setIfInBounds_toArray, List.set_cons_zero, List.set_cons_succ])
            refine wpAnyH_take (i := 10) (oi := ({ dst := some 79, op := Go.Op.pick (Go.Operand.tmp 72) (Go.Operand.tmp 78) (Go.Operand.const (Go.Value.bool false)), type := 4, pos := "outright.go:84", after := #[{ on := 3, ground := Go.Ground.data }, { on := 9, ground := Go.Ground.data }], guard := none } : Oper)) (v := ?va10) rfl (by kernel_rfl) (by kernel_rfl) (by kernel_rfl) (fun _ _ _ h => h) (Or.inl ⟨by rfl, ?hya10⟩) (by assumption) ?resta10
            case hya10 => (intro w hSw; (try dsimp only at hSw); go_simp; (try with_reducible rfl))
            (try simp only [Act.put, List.setIfInBounds_toArray, List.set_cons_zero, List.set_cons_succ])
            refine wpAnyH_take (i := 11) (oi := ({ dst := some 80, op := Go.Op.move (Go.Operand.tmp 79), type := 4, pos := "outright.go:84", after := #[{ on := 10, ground := Go.Ground.data }, { on := 8, ground := Go.Ground.chain }], guard := none } : Oper)) (v := ?va11) rfl (by kernel_rfl) (by kernel_rfl) (by kernel_rfl) (fun _ _ _ h => h) (Or.inl ⟨by rfl, ?hya11⟩) (by assumption) ?resta11
            case hya11 => (intro w hSw; (try dsimp only at hSw); go_simp; (try with_reducible rfl))
            (try simp only [Act.put, List.setIfInBounds_toArray, List.set_cons_zero, List.set_cons_succ])
            refine wpAnyH_take (i := 12) (oi := ({ dst := some 81, op := Go.Op.move (Go.Operand.tmp 6), type := 37, pos := "outright.go:84", after := #[{ on := 11, ground := Go.Ground.guard }], guard := some (11, false) } : Oper)) (v := ?va12) rfl (by kernel_rfl) (by kernel_rfl) (by kernel_rfl) (fun _ _ _ h => h) (Or.inl ⟨by rfl, ?hya12⟩) (by assumption) ?resta12
            case hya12 => (intro w hSw; (try dsimp only at hSw); go_simp; (try with_reducible rfl))
            (try simp only [Act.put, List.setIfInBounds_toArray, List.set_cons_zero, List.set_cons_succ])
            refine wpAnyH_ready (rs := [13]) (by kernel_rfl) (by simp) ?_
            refine AllReadyH.cons (o := ({ dst := some 82, op := Go.Op.call { callee := Go.Callee.value (Go.Operand.func 21), args := #[Go.Operand.tmp 81], argTypes := #[37] }, type := 3, pos := "outright.go:84", after := #[{ on := 12, ground := Go.Ground.data }, { on := 11, ground := Go.Ground.chain }, { on := 11, ground := Go.Ground.guard }], guard := some (11, false) } : Oper)) rfl (fun K hK => ?_) AllReadyH.nil
            go_simp
            refine (larderlaw1_num.calls _ _ _ rfl).mono ?_
            rintro e wa ⟨rfl, hd⟩
            have hS1 := sk_step (w0 := wv) (by assumption) hd.below
            clear hd
            (try go_wp2_with fail)
            refine hK.out _ _ (by assumption) (fun hHeld => ?_)
            clear hK K
            (try simp only [Act.put, List.setIfInBounds_toArray, List.set_cons_zero, List.set_cons_succ])
            refine wpAnyH_take (i := 14) (oi := ({ dst := some 83, op := Go.Op.binOp Go.BinOp.eql 3 (Go.Operand.tmp 82) (Go.Operand.const (Go.Value.int Go.IntKind.i64 0)) 3, type := 4, pos := "outright.go:84", after := #[{ on := 13, ground := Go.Ground.data }, { on := 11, ground := Go.Ground.guard }], guard := some (11, false) } : Oper)) (v := ?va14) rfl (by kernel_rfl) (by kernel_rfl) (by kernel_rfl) (fun _ _ _ h => h) (Or.inl ⟨by rfl, ?hya14⟩) (by assumption) ?resta14
            case hya14 => (intro w hSw; (try dsimp only at hSw); go_simp; (try with_reducible rfl))
            (try simp only [Act.put, List.setIfInBounds_toArray, List.set_cons_zero, List.set_cons_succ])
            refine wpAnyH_take (i := 15) (oi := ({ dst := some 84, op := Go.Op.move (Go.Operand.tmp 83), type := 4, pos := "outright.go:84", after := #[{ on := 14, ground := Go.Ground.data }, { on := 13, ground := Go.Ground.chain }, { on := 11, ground := Go.Ground.guard }], guard := some (11, false) } : Oper)) (v := ?va15) rfl (by kernel_rfl) (by kernel_rfl) (by kernel_rfl) (fun _ _ _ h => h) (Or.inl ⟨by rfl, ?hya15⟩) (by assumption) ?resta15
            case hya15 => (intro w hSw; (try dsimp only at hSw); go_simp; (try with_reducible rfl))
            (try simp only [Act.put, List.setIfInBounds_toArray, List.set_cons_zero, List.set_cons_succ])
            refine wpAnyH_take (i := 16) (oi := ({ dst := some 85, op := Go.Op.move (Go.Operand.tmp 5), type := 2, pos := "outright.go:84", after := #[{ on := 15, ground := Go.Ground.guard }], guard := some (15, true) } : Oper)) (v := ?va16) rfl (by kernel_rfl) (by kernel_rfl) (by kernel_rfl) (fun _ _ _ h => h) (Or.inl ⟨by rfl, ?hya16⟩) (by assumption) ?resta16
            case hya16 => (intro w hSw; (try dsimp only at hSw); go_simp; (try with_reducible rfl))
            (try simp only [Act.put, List.setIfInBounds_toArray, List.set_cons_zero, List.set_cons_succ])
            refine wpAnyH_take (i := 17) (oi := ({ dst := some 86, op := Go.Op.binOp Go.BinOp.geq 2 (Go.Operand.tmp 85) (Go.Operand.const (Go.Value.int Go.IntKind.i64 0)) 2, type := 4, pos := "outright.go:84", after := #[{ on := 16, ground := Go.Ground.data }, { on := 15, ground := Go.Ground.guard }], guard := some (15, true) } : Oper)) (v := ?va17) rfl (by kernel_rfl) (by kernel_rfl) (by kernel_rfl) (fun _ _ _ h => h) (Or.inl ⟨by rfl, ?hya17⟩) (by assumption) ?resta17
            case hya17 => (intro w hSw; (try dsimp only at hSw); go_simp; (try with_reducible rfl))
            (try simp only [Act.put, List.setIfInBounds_toArray, List.set_cons_zero, List.set_cons_succ])
            refine wpAnyH_take (i := 18) (oi := ({ dst := some 87, op := Go.Op.pick (Go.Operand.tmp 84) (Go.Operand.tmp 86) (Go.Operand.const (Go.Value.bool false)), type := 4, pos := "outright.go:84", after := #[{ on := 15, ground := Go.Ground.data }, { on := 17, ground := Go.Ground.data }, { on := 11, ground := Go.Ground.guard }], guard := some (11, false) } : Oper)) (v := ?va18) rfl (by kernel_rfl) (by kernel_rfl) (by kernel_rfl) (fun _ _ _ h => h) (Or.inl ⟨by rfl, ?hya18⟩) (by assumption) ?resta18
            case hya18 => (intro w hSw; (try dsimp only at hSw); go_simp; (try with_reducible rfl))
            (try simp only [Act.put, List.setIfInBounds_toArray, List.set_cons_zero, List.set_cons_succ])
            refine wpAnyH_take (i := 19) (oi := ({ dst := some 88, op := Go.Op.move (Go.Operand.tmp 87), type := 4, pos := "outright.go:84", after := #[{ on := 18, ground := Go.Ground.data }, { on := 15, ground := Go.Ground.chain }, { on := 11, ground := Go.Ground.guard }], guard := some (11, false) } : Oper)) (v := ?va19) rfl (by kernel_rfl) (by kernel_rfl) (by kernel_rfl) (fun _ _ _ h => h) (Or.inl ⟨by rfl, ?hya19⟩) (by assumption) ?resta19
            case hya19 => (intro w hSw; (try dsimp only at hSw); go_simp; (try with_reducible rfl))
            (try simp only [Act.put, List.setIfInBounds_toArray, List.set_cons_zero, List.set_cons_succ])
            refine wpAnyH_take (i := 20) (oi := ({ dst := some 89, op := Go.Op.move (Go.Operand.tmp 10), type := 37, pos := "outright.go:84", after := #[{ on := 19, ground := Go.Ground.guard }], guard := some (19, true) } : Oper)) (v := ?va20) rfl (by kernel_rfl) (by kernel_rfl) (by kernel_rfl) (fun _ _ _ h => h) (Or.inl ⟨by rfl, ?hya20⟩) (by assumption) ?resta20
            case hya20 => (intro w hSw; (try dsimp only at hSw); go_simp; (try with_reducible rfl))
            (try simp only [Act.put, List.setIfInBounds_toArray, List.set_cons_zero, List.set_cons_succ])
            refine wpAnyH_ready (rs := [21]) (by kernel_rfl) (by simp) ?_
            refine AllReadyH.cons (o := ({ dst := some 90, op := Go.Op.call { callee := Go.Callee.value (Go.Operand.func 21), args := #[Go.Operand.tmp 89], argTypes := #[37] }, type := 3, pos := "outright.go:84", after := #[{ on := 20, ground := Go.Ground.data }, { on := 19, ground := Go.Ground.chain }, { on := 19, ground := Go.Ground.guard }], guard := some (19, true) } : Oper)) rfl (fun K hK => ?_) AllReadyH.nil
            go_simp
            refine (larderlaw1_num.calls _ _ _ rfl).mono ?_
            rintro e wa ⟨rfl, hd⟩
            have hS1 := sk_step (w0 := wv) (by assumption) hd.below
            clear hd
            (try go_wp2_with fail)
            refine hK.out _ _ (by assumption) (fun hHeld => ?_)
            clear hK K
            (try simp only [Act.put, List.setIfInBounds_toArray, List.set_cons_zero, List.set_cons_succ])
            refine wpAnyH_take (i := 22) (oi := ({ dst := some 91, op := Go.Op.binOp Go.BinOp.neq 3 (Go.Operand.tmp 90) (Go.Operand.const (Go.Value.int Go.IntKind.i64 0)) 3, type := 4, pos := "outright.go:84", after := #[{ on := 21, ground := Go.Ground.data }, { on := 19, ground := Go.Ground.guard }], guard := some (19, true) } : Oper)) (v := ?va22) rfl (by kernel_rfl) (by kernel_rfl) (by kernel_rfl) (fun _ _ _ h => h) (Or.inl ⟨by rfl, ?hya22⟩) (by assumption) ?resta22
            case hya22 => (intro w hSw; (try dsimp only at hSw); go_simp; (try with_reducible rfl))
            (try simp only [Act.put, List.setIfInBounds_toArray, List.set_cons_zero, List.set_cons_succ])
            refine wpAnyH_take (i := 23) (oi := ({ dst := some 92, op := Go.Op.move (Go.Operand.tmp 91), type := 4, pos := "outright.go:84", after := #[{ on := 22, ground := Go.Ground.data }, { on := 21, ground := Go.Ground.chain }, { on := 19, ground := Go.Ground.guard }], guard := some (19, true) } : Oper)) (v := ?va23) rfl (by kernel_rfl) (by kernel_rfl) (by kernel_rfl) (fun _ _ _ h => h) (Or.inl ⟨by rfl, ?hya23⟩) (by assumption) ?resta23
            case hya23 => (intro w hSw; (try dsimp only at hSw); go_simp; (try with_reducible rfl))
            (try simp only [Act.put, List.setIfInBounds_toArray, List.set_cons_zero, List.set_cons_succ])
            refine wpAnyH_take (i := 24) (oi := ({ dst := some 93, op := Go.Op.move (Go.Operand.tmp 9), type := 23, pos := "outright.go:84", after := #[{ on := 23, ground := Go.Ground.guard }], guard := some (23, false) } : Oper)) (v := ?va24) rfl (by kernel_rfl) (by kernel_rfl) (by kernel_rfl) (fun _ _ _ h => h) (Or.inl ⟨by rfl, ?hya24⟩) (by assumption) ?resta24
            case hya24 => (intro w hSw; (try dsimp only at hSw); go_simp; (try with_reducible rfl))
            (try simp only [Act.put, List.setIfInBounds_toArray, List.set_cons_zero, List.set_cons_succ])
            refine wpAnyH_take (i := 25) (oi := ({ dst := some 94, op := Go.Op.move (Go.Operand.tmp 5), type := 2, pos := "outright.go:84", after := #[{ on := 23, ground := Go.Ground.guard }], guard := some (23, false) } : Oper)) (v := ?va25) rfl (by kernel_rfl) (by kernel_rfl) (by kernel_rfl) (fun _ _ _ h => h) (Or.inl ⟨by rfl, ?hya25⟩) (by assumption) ?resta25
            case hya25 => (intro w hSw; (try dsimp only at hSw); go_simp; (try with_reducible rfl))
            (try simp only [Act.put, List.setIfInBounds_toArray, List.set_cons_zero, List.set_cons_succ])
            refine wpAnyH_take (i := 26) (oi := ({ dst := some 95, op := Go.Op.convert 2 23 (Go.Operand.tmp 94), type := 23, pos := "outright.go:84", after := #[{ on := 25, ground := Go.Ground.data }, { on := 23, ground := Go.Ground.guard }], guard := some (23, false) } : Oper)) (v := ?va26) rfl (by kernel_rfl) (by kernel_rfl) (by kernel_rfl) (fun _ _ _ h => h) (Or.inl ⟨by rfl, ?hya26⟩) (by assumption) ?resta26
            case hya26 => (intro w hSw; (try dsimp only at hSw); go_simp; (try with_reducible rfl))
            (try simp only [Act.put, List.setIfInBounds_toArray, List.set_cons_zero, List.set_cons_succ])
            refine wpAnyH_take (i := 27) (oi := ({ dst := some 96, op := Go.Op.binOp Go.BinOp.neq 23 (Go.Operand.tmp 93) (Go.Operand.tmp 95) 23, type := 4, pos := "outright.go:84", after := #[{ on := 24, ground := Go.Ground.data }, { on := 26, ground := Go.Ground.data }, { on := 23, ground := Go.Ground.guard }], guard := some (23, false) } : Oper)) (v := ?va27) rfl (by kernel_rfl) (by kernel_rfl) (by kernel_rfl) (fun _ _ _ h => h) (Or.inl ⟨by rfl, ?hya27⟩) (by assumption) ?resta27
            case hya27 => (intro w hSw; (try dsimp only at hSw); go_simp; (try with_reducible rfl))
            (try simp only [Act.put, List.setIfInBounds_toArray, List.set_cons_zero, List.set_cons_succ])
            refine wpAnyH_take (i := 28) (oi := ({ dst := some 97, op := Go.Op.pick (Go.Operand.tmp 92) (Go.Operand.const (Go.Value.bool true)) (Go.Operand.tmp 96), type := 4, pos := "outright.go:84", after := #[{ on := 23, ground := Go.Ground.data }, { on := 27, ground := Go.Ground.data }, { on := 19, ground := Go.Ground.guard }], guard := some (19, true) } : Oper)) (v := ?va28) rfl (by kernel_rfl) (by kernel_rfl) (by kernel_rfl) (fun _ _ _ h => h) (Or.inl ⟨by rfl, ?hya28⟩) (by assumption) ?resta28
            case hya28 => (intro w hSw; (try dsimp only at hSw); go_simp; (try with_reducible rfl))
            (try simp only [Act.put, List.setIfInBounds_toArray, List.set_cons_zero, List.set_cons_succ])
            refine wpAnyH_take (i := 29) (oi := ({ dst := some 98, op := Go.Op.pick (Go.Operand.tmp 88) (Go.Operand.tmp 97) (Go.Operand.const (Go.Value.bool false)), type := 4, pos := "outright.go:84", after := #[{ on := 19, ground := Go.Ground.data }, { on := 28, ground := Go.Ground.data }, { on := 11, ground := Go.Ground.guard }], guard := some (11, false) } : Oper)) (v := ?va29) rfl (by kernel_rfl) (by kernel_rfl) (by kernel_rfl) (fun _ _ _ h => h) (Or.inl ⟨by rfl, ?hya29⟩) (by assumption) ?resta29
            case hya29 => (intro w hSw; (try dsimp only at hSw); go_simp; (try with_reducible rfl))
            (try simp only [Act.put, List.setIfInBounds_toArray, List.set_cons_zero, List.set_cons_succ])
            refine wpAnyH_take (i := 30) (oi := ({ dst := some 99, op := Go.Op.pick (Go.Operand.tmp 80) (Go.Operand.const (Go.Value.bool true)) (Go.Operand.tmp 98), type := 4, pos := "outright.go:84", after := #[{ on := 11, ground := Go.Ground.data }, { on := 29, ground := Go.Ground.data }], guard := none } : Oper)) (v := ?va30) rfl (by kernel_rfl) (by kernel_rfl) (by kernel_rfl) (fun _ _ _ h => h) (Or.inl ⟨by rfl, ?hya30⟩) (by assumption) ?resta30
            case hya30 => (intro w hSw; (try dsimp only at hSw); go_simp; (try with_reducible rfl))
            (try simp only [Act.put, List.setIfInBounds_toArray, List.set_cons_zero, List.set_cons_succ])
            refine wpAnyH_done (by kernel_rfl) ?_ _
            all_goals (go_wp2; go_meet; exact ⟨rfl, And.right (by assumption)⟩)
          · have hm1 : decide (0 ≤ m') = false := decide_eq_false hm0
            clear hi0 hf hm0
            refine wp_region_held_drew (S := (fun w' => w'.cell? ⟨gb, 3, none⟩ = some (.slice A l.length c) ∧ Aside0 (Below wv.heap.size wv w'))) (by kernel_rfl) (by exact hS0) (fun hHeld => ?_)
            refine wpAnyH_take (i := 0) (oi := ({ dst := some 69, op := Go.Op.move (Go.Operand.tmp 10), type := 37, pos := "outright.go:84", after := #[], guard := none } : Oper)) (v := ?vb0) rfl (by kernel_rfl) (by kernel_rfl) (by kernel_rfl) (fun _ _ _ h => h) (Or.inl ⟨by rfl, ?hyb0⟩) (by assumption) ?restb0
            case hyb0 => (intro w hSw; (try dsimp only at hSw); go_simp; (try with_reducible rfl))
            (try simp only [Act.put, List.setIfInBounds_toArray, List.set_cons_zero, List.set_cons_succ])
            refine wpAnyH_ready (rs := [1]) (by kernel_rfl) (by simp) ?_
            refine AllReadyH.cons (o := ({ dst := some 70, op := Go.Op.call { callee := Go.Callee.value (Go.Operand.func 21), args := #[Go.Operand.tmp 69], argTypes := #[37] }, type := 3, pos := "outright.go:84", after := #[{ on := 0, ground := Go.Ground.data }], guard := none } : Oper)) rfl (fun K hK => ?_) AllReadyH.nil
            go_simp
            refine (larderlaw1_num.calls _ _ _ rfl).mono ?_
            rintro e wa ⟨rfl, hd⟩
            have hS1 := sk_step (w0 := wv) (by assumption) hd.below
            clear hd
            (try go_wp2_with fail)
            refine hK.out _ _ (by assumption) (fun hHeld => ?_)
            clear hK K
            (try simp only [Act.put, List.setIfInBounds_toArray, List.set_cons_zero, List.set_cons_succ])
            refine wpAnyH_take (i := 2) (oi := ({ dst := some 71, op := Go.Op.binOp Go.BinOp.eql 3 (Go.Operand.tmp 70) (Go.Operand.const (Go.Value.int Go.IntKind.i64 0)) 3, type := 4, pos := "outright.go:84", after := #[{ on := 1, ground := Go.Ground.data }], guard := none } : Oper)) (v := ?vb2) rfl (by kernel_rfl) (by kernel_rfl) (by kernel_rfl) (fun _ _ _ h => h) (Or.inl ⟨by rfl, ?hyb2⟩) (by assumption) ?restb2
            case hyb2 => (intro w hSw; (try dsimp only at hSw); go_simp; (try with_reducible rfl))
            (try simp only [Act.put, List.setIfInBounds_toArray, List.set_cons_zero, List.set_cons_succ])
            refine wpAnyH_take (i := 3) (oi := ({ dst := some 72, op := Go.Op.move (Go.Operand.tmp 71), type := 4, pos := "outright.go:84", after := #[{ on := 2, ground := Go.Ground.data }, { on := 1, ground := Go.Ground.chain }], guard := none } : Oper)) (v := ?vb3) rfl (by kernel_rfl) (by kernel_rfl) (by kernel_rfl) (fun _ _ _ h => h) (Or.inl ⟨by rfl, ?hyb3⟩) (by assumption) ?restb3
            case hyb3 => (intro w hSw; (try dsimp only at hSw); go_simp; (try with_reducible rfl))
            (try simp only [Act.put, List.setIfInBounds_toArray, List.set_cons_zero, List.set_cons_succ])
            refine wpAnyH_take (i := 4) (oi := ({ dst := some 73, op := Go.Op.move (Go.Operand.tmp 9), type := 23, pos := "outright.go:84", after := #[{ on := 3, ground := Go.Ground.guard }], guard := some (3, true) } : Oper)) (v := ?vb4) rfl (by kernel_rfl) (by kernel_rfl) (by kernel_rfl) (fun _ _ _ h => h) (Or.inl ⟨by rfl, ?hyb4⟩) (by assumption) ?restb4
            case hyb4 => (intro w hSw; (try dsimp only at hSw); go_simp; (try with_reducible rfl))
            (try simp only [Act.put, List.setIfInBounds_toArray, List.set_cons_zero, List.set_cons_succ])
            refine wpAnyH_take (i := 6) (oi := ({ dst := some 75, op := Go.Op.fieldAddr 80 (Go.Operand.tmp 1) 3, type := 0, pos := "outright.go:84", after := #[{ on := 3, ground := Go.Ground.guard }], guard := some (3, true) } : Oper)) (v := ?vb6) rfl (by kernel_rfl) (by kernel_rfl) (by kernel_rfl) (fun _ _ _ h => h) (Or.inl ⟨by rfl, ?hyb6⟩) (by assumption) ?restb6
            case hyb6 => (intro w hSw; (try dsimp only at hSw); go_simp; (try with_reducible rfl))
            (try simp only [Act.put, List.setIfInBounds_toArray, List.set_cons_zero, List.set_cons_succ])
            refine wpAnyH_take (i := 7) (oi := ({ dst := some 76, op := Go.Op.load 22 (Go.Operand.tmp 75), type := 22, pos := "outright.go:84", after := #[{ on := 6, ground := Go.Ground.data }, { on := 3, ground := Go.Ground.guard }], guard := some (3, true) } : Oper)) (v := ?vb7) rfl (by kernel_rfl) (by kernel_rfl) (by kernel_rfl) (fun _ _ _ h => h) (Or.inl ⟨by rfl, ?hyb7⟩) (by assumption) ?restb7
            case hyb7 => (intro w hSw; (try dsimp only at hSw); go_simp; (try with_reducible rfl))
            (try simp only [Act.put, List.setIfInBounds_toArray, List.set_cons_zero, List.set_cons_succ])
            refine wpAnyH_ready (rs := [5]) (by kernel_rfl) (by simp) ?_
            refine AllReadyH.cons (o := ({ dst := some 74, op := Go.Op.call { callee := Go.Callee.value (Go.Operand.func 35), args := #[Go.Operand.tmp 73], argTypes := #[23] }, type := 22, pos := "outright.go:84", after := #[{ on := 4, ground := Go.Ground.data }, { on := 3, ground := Go.Ground.chain }, { on := 3, ground := Go.Ground.guard }], guard := some (3, true) } : Oper)) rfl (fun K hK => ?_) AllReadyH.nil
            go_simp
            refine (word_Digits.calls y l _ KDy'.out).mono ?_
            rintro e wb ⟨v7, rfl, hR, hb⟩
            have hS1 := sk_step (w0 := wv) (by assumption) hb
            obtain ⟨Aq, cq, rfl, hcq, hCq⟩ := Kd.R_reads hR
            have HCq := Aside0.mk hCq
            clear hR hCq hb
            (try go_wp2_with fail)
            refine hK.out _ _ (by assumption) (fun hHeld => ?_)
            clear hK K
            (try simp only [Act.put, List.setIfInBounds_toArray, List.set_cons_zero, List.set_cons_succ])
            refine wpAnyH_ready (rs := [8]) (by kernel_rfl) (by simp) ?_
            refine AllReadyH.cons (o := ({ dst := some 77, op := Go.Op.call { callee := Go.Callee.value (Go.Operand.func 16), args := #[Go.Operand.tmp 74, Go.Operand.tmp 76], argTypes := #[22, 22] }, type := 4, pos := "outright.go:84", after := #[{ on := 5, ground := Go.Ground.data }, { on := 7, ground := Go.Ground.data }, { on := 5, ground := Go.Ground.chain }, { on := 3, ground := Go.Ground.guard }], guard := some (3, true) } : Oper)) rfl (fun K hK => ?_) AllReadyH.nil
            go_simp
            refine (larderlaw1_sameBytes.calls Aq cq l A c l true _ HCq.out hcq (Kd.C_below HRw.out (below_step HB.out (sk_out (by assumption)))) hc (same_refl l)).mono ?_
            rintro e wd ⟨rfl, hd⟩
            have hS1 := sk_step (w0 := wv) (by assumption) hd.below
            clear hd
            (try go_wp2_with fail)
            refine hK.out _ _ (by assumption) (fun hHeld => ?_)
            clear hK K
            (try simp only [Act.put, List.setIfInBounds_toArray, List.set_cons_zero, List.set_cons_succ])
            refine wpAnyH_take (i := 9) (oi := ({ dst := some 78, op := Go.Op.unOp Go.UnOp.not 4 (Go.Operand.tmp 77), type := 4, pos := "outright.go:84", after := #[{ on := 8, ground := Go.Ground.data }, { on := 3, ground := Go.Ground.guard }], guard := some (3, true) } : Oper)) (v := ?vb9) rfl (by kernel_rfl) (by kernel_rfl) (by kernel_rfl) (fun _ _ _ h => h) (Or.inl ⟨by rfl, ?hyb9⟩) (by assumption) ?restb9
            case hyb9 => (intro w hSw; (try dsimp only at hSw); go_simp; (try with_reducible rfl))
            (try simp only [Act.put, List.setIfInBounds_toArray, List.set_cons_zero, List.set_cons_succ])
            refine wpAnyH_take (i := 10) (oi := ({ dst := some 79, op := Go.Op.pick (Go.Operand.tmp 72) (Go.Operand.tmp 78) (Go.Operand.const (Go.Value.bool false)), type := 4, pos := "outright.go:84", after := #[{ on := 3, ground := Go.Ground.data }, { on := 9, ground := Go.Ground.data }], guard := none } : Oper)) (v := ?vb10) rfl (by kernel_rfl) (by kernel_rfl) (by kernel_rfl) (fun _ _ _ h => h) (Or.inl ⟨by rfl, ?hyb10⟩) (by assumption) ?restb10
            case hyb10 => (intro w hSw; (try dsimp only at hSw); go_simp; (try with_reducible rfl))
            (try simp only [Act.put, List.setIfInBounds_toArray, List.set_cons_zero, List.set_cons_succ])
            refine wpAnyH_take (i := 11) (oi := ({ dst := some 80, op := Go.Op.move (Go.Operand.tmp 79), type := 4, pos := "outright.go:84", after := #[{ on := 10, ground := Go.Ground.data }, { on := 8, ground := Go.Ground.chain }], guard := none } : Oper)) (v := ?vb11) rfl (by kernel_rfl) (by kernel_rfl) (by kernel_rfl) (fun _ _ _ h => h) (Or.inl ⟨by rfl, ?hyb11⟩) (by assumption) ?restb11
            case hyb11 => (intro w hSw; (try dsimp only at hSw); go_simp; (try with_reducible rfl))
            (try simp only [Act.put, List.setIfInBounds_toArray, List.set_cons_zero, List.set_cons_succ])
            refine wpAnyH_take (i := 12) (oi := ({ dst := some 81, op := Go.Op.move (Go.Operand.tmp 6), type := 37, pos := "outright.go:84", after := #[{ on := 11, ground := Go.Ground.guard }], guard := some (11, false) } : Oper)) (v := ?vb12) rfl (by kernel_rfl) (by kernel_rfl) (by kernel_rfl) (fun _ _ _ h => h) (Or.inl ⟨by rfl, ?hyb12⟩) (by assumption) ?restb12
            case hyb12 => (intro w hSw; (try dsimp only at hSw); go_simp; (try with_reducible rfl))
            (try simp only [Act.put, List.setIfInBounds_toArray, List.set_cons_zero, List.set_cons_succ])
            refine wpAnyH_ready (rs := [13]) (by kernel_rfl) (by simp) ?_
            refine AllReadyH.cons (o := ({ dst := some 82, op := Go.Op.call { callee := Go.Callee.value (Go.Operand.func 21), args := #[Go.Operand.tmp 81], argTypes := #[37] }, type := 3, pos := "outright.go:84", after := #[{ on := 12, ground := Go.Ground.data }, { on := 11, ground := Go.Ground.chain }, { on := 11, ground := Go.Ground.guard }], guard := some (11, false) } : Oper)) rfl (fun K hK => ?_) AllReadyH.nil
            go_simp
            refine (larderlaw1_num.calls _ _ _ rfl).mono ?_
            rintro e wa ⟨rfl, hd⟩
            have hS1 := sk_step (w0 := wv) (by assumption) hd.below
            clear hd
            (try go_wp2_with fail)
            refine hK.out _ _ (by assumption) (fun hHeld => ?_)
            clear hK K
            (try simp only [Act.put, List.setIfInBounds_toArray, List.set_cons_zero, List.set_cons_succ])
            refine wpAnyH_take (i := 14) (oi := ({ dst := some 83, op := Go.Op.binOp Go.BinOp.eql 3 (Go.Operand.tmp 82) (Go.Operand.const (Go.Value.int Go.IntKind.i64 0)) 3, type := 4, pos := "outright.go:84", after := #[{ on := 13, ground := Go.Ground.data }, { on := 11, ground := Go.Ground.guard }], guard := some (11, false) } : Oper)) (v := ?vb14) rfl (by kernel_rfl) (by kernel_rfl) (by kernel_rfl) (fun _ _ _ h => h) (Or.inl ⟨by rfl, ?hyb14⟩) (by assumption) ?restb14
            case hyb14 => (intro w hSw; (try dsimp only at hSw); go_simp; (try with_reducible rfl))
            (try simp only [Act.put, List.setIfInBounds_toArray, List.set_cons_zero, List.set_cons_succ])
            refine wpAnyH_take (i := 15) (oi := ({ dst := some 84, op := Go.Op.move (Go.Operand.tmp 83), type := 4, pos := "outright.go:84", after := #[{ on := 14, ground := Go.Ground.data }, { on := 13, ground := Go.Ground.chain }, { on := 11, ground := Go.Ground.guard }], guard := some (11, false) } : Oper)) (v := ?vb15) rfl (by kernel_rfl) (by kernel_rfl) (by kernel_rfl) (fun _ _ _ h => h) (Or.inl ⟨by rfl, ?hyb15⟩) (by assumption) ?restb15
            case hyb15 => (intro w hSw; (try dsimp only at hSw); go_simp; (try with_reducible rfl))
            (try simp only [Act.put, List.setIfInBounds_toArray, List.set_cons_zero, List.set_cons_succ])
            refine wpAnyH_take (i := 16) (oi := ({ dst := some 85, op := Go.Op.move (Go.Operand.tmp 5), type := 2, pos := "outright.go:84", after := #[{ on := 15, ground := Go.Ground.guard }], guard := some (15, true) } : Oper)) (v := ?vb16) rfl (by kernel_rfl) (by kernel_rfl) (by kernel_rfl) (fun _ _ _ h => h) (Or.inl ⟨by rfl, ?hyb16⟩) (by assumption) ?restb16
            case hyb16 => (intro w hSw; (try dsimp only at hSw); go_simp; (try with_reducible rfl))
            (try simp only [Act.put, List.setIfInBounds_toArray, List.set_cons_zero, List.set_cons_succ])
            refine wpAnyH_take (i := 17) (oi := ({ dst := some 86, op := Go.Op.binOp Go.BinOp.geq 2 (Go.Operand.tmp 85) (Go.Operand.const (Go.Value.int Go.IntKind.i64 0)) 2, type := 4, pos := "outright.go:84", after := #[{ on := 16, ground := Go.Ground.data }, { on := 15, ground := Go.Ground.guard }], guard := some (15, true) } : Oper)) (v := ?vb17) rfl (by kernel_rfl) (by kernel_rfl) (by kernel_rfl) (fun _ _ _ h => h) (Or.inl ⟨by rfl, ?hyb17⟩) (by assumption) ?restb17
            case hyb17 => (intro w hSw; (try dsimp only at hSw); go_simp; (try with_reducible rfl))
            (try simp only [Act.put, List.setIfInBounds_toArray, List.set_cons_zero, List.set_cons_succ])
            refine wpAnyH_take (i := 18) (oi := ({ dst := some 87, op := Go.Op.pick (Go.Operand.tmp 84) (Go.Operand.tmp 86) (Go.Operand.const (Go.Value.bool false)), type := 4, pos := "outright.go:84", after := #[{ on := 15, ground := Go.Ground.data }, { on := 17, ground := Go.Ground.data }, { on := 11, ground := Go.Ground.guard }], guard := some (11, false) } : Oper)) (v := ?vb18) rfl (by kernel_rfl) (by kernel_rfl) (by kernel_rfl) (fun _ _ _ h => h) (Or.inl ⟨by rfl, ?hyb18⟩) (by assumption) ?restb18
            case hyb18 => (intro w hSw; (try dsimp only at hSw); go_simp; (try with_reducible rfl))
            (try simp only [Act.put, List.setIfInBounds_toArray, List.set_cons_zero, List.set_cons_succ])
            refine wpAnyH_take (i := 19) (oi := ({ dst := some 88, op := Go.Op.move (Go.Operand.tmp 87), type := 4, pos := "outright.go:84", after := #[{ on := 18, ground := Go.Ground.data }, { on := 15, ground := Go.Ground.chain }, { on := 11, ground := Go.Ground.guard }], guard := some (11, false) } : Oper)) (v := ?vb19) rfl (by kernel_rfl) (by kernel_rfl) (by kernel_rfl) (fun _ _ _ h => h) (Or.inl ⟨by rfl, ?hyb19⟩) (by assumption) ?restb19
            case hyb19 => (intro w hSw; (try dsimp only at hSw); go_simp; (try with_reducible rfl))
            (try simp only [Act.put, List.setIfInBounds_toArray, List.set_cons_zero, List.set_cons_succ])
            refine wpAnyH_take (i := 20) (oi := ({ dst := some 89, op := Go.Op.move (Go.Operand.tmp 10), type := 37, pos := "outright.go:84", after := #[{ on := 19, ground := Go.Ground.guard }], guard := some (19, true) } : Oper)) (v := undef) rfl (by kernel_rfl) (by kernel_rfl) (by kernel_rfl) (fun _ _ _ h => h) (Or.inr ⟨by rfl, rfl⟩) (by assumption) ?_
            (try simp only [Act.put, List.setIfInBounds_toArray, List.set_cons_zero, List.set_cons_succ])
            refine wpAnyH_take (i := 21) (oi := ({ dst := some 90, op := Go.Op.call { callee := Go.Callee.value (Go.Operand.func 21), args := #[Go.Operand.tmp 89], argTypes := #[37] }, type := 3, pos := "outright.go:84", after := #[{ on := 20, ground := Go.Ground.data }, { on := 19, ground := Go.Ground.chain }, { on := 19, ground := Go.Ground.guard }], guard := some (19, true) } : Oper)) (v := undef) rfl (by kernel_rfl) (by kernel_rfl) (by kernel_rfl) (fun _ _ _ h => h) (Or.inr ⟨by rfl, rfl⟩) (by assumption) ?_
            (try simp only [Act.put, List.setIfInBounds_toArray, List.set_cons_zero, List.set_cons_succ])
            refine wpAnyH_take (i := 22) (oi := ({ dst := some 91, op := Go.Op.binOp Go.BinOp.neq 3 (Go.Operand.tmp 90) (Go.Operand.const (Go.Value.int Go.IntKind.i64 0)) 3, type := 4, pos := "outright.go:84", after := #[{ on := 21, ground := Go.Ground.data }, { on := 19, ground := Go.Ground.guard }], guard := some (19, true) } : Oper)) (v := undef) rfl (by kernel_rfl) (by kernel_rfl) (by kernel_rfl) (fun _ _ _ h => h) (Or.inr ⟨by rfl, rfl⟩) (by assumption) ?_
            (try simp only [Act.put, List.setIfInBounds_toArray, List.set_cons_zero, List.set_cons_succ])
            refine wpAnyH_take (i := 23) (oi := ({ dst := some 92, op := Go.Op.move (Go.Operand.tmp 91), type := 4, pos := "outright.go:84", after := #[{ on := 22, ground := Go.Ground.data }, { on := 21, ground := Go.Ground.chain }, { on := 19, ground := Go.Ground.guard }], guard := some (19, true) } : Oper)) (v := undef) rfl (by kernel_rfl) (by kernel_rfl) (by kernel_rfl) (fun _ _ _ h => h) (Or.inr ⟨by rfl, rfl⟩) (by assumption) ?_
            (try simp only [Act.put, List.setIfInBounds_toArray, List.set_cons_zero, List.set_cons_succ])
            refine wpAnyH_take (i := 24) (oi := ({ dst := some 93, op := Go.Op.move (Go.Operand.tmp 9), type := 23, pos := "outright.go:84", after := #[{ on := 23, ground := Go.Ground.guard }], guard := some (23, false) } : Oper)) (v := undef) rfl (by kernel_rfl) (by kernel_rfl) (by kernel_rfl) (fun _ _ _ h => h) (Or.inr ⟨by rfl, rfl⟩) (by assumption) ?_
            (try simp only [Act.put, List.setIfInBounds_toArray, List.set_cons_zero, List.set_cons_succ])
            refine wpAnyH_take (i := 25) (oi := ({ dst := some 94, op := Go.Op.move (Go.Operand.tmp 5), type := 2, pos := "outright.go:84", after := #[{ on := 23, ground := Go.Ground.guard }], guard := some (23, false) } : Oper)) (v := undef) rfl (by kernel_rfl) (by kernel_rfl) (by kernel_rfl) (fun _ _ _ h => h) (Or.inr ⟨by rfl, rfl⟩) (by assumption) ?_
            (try simp only [Act.put, List.setIfInBounds_toArray, List.set_cons_zero, List.set_cons_succ])
            refine wpAnyH_take (i := 26) (oi := ({ dst := some 95, op := Go.Op.convert 2 23 (Go.Operand.tmp 94), type := 23, pos := "outright.go:84", after := #[{ on := 25, ground := Go.Ground.data }, { on := 23, ground := Go.Ground.guard }], guard := some (23, false) } : Oper)) (v := undef) rfl (by kernel_rfl) (by kernel_rfl) (by kernel_rfl) (fun _ _ _ h => h) (Or.inr ⟨by rfl, rfl⟩) (by assumption) ?_
            (try simp only [Act.put, List.setIfInBounds_toArray, List.set_cons_zero, List.set_cons_succ])
            refine wpAnyH_take (i := 27) (oi := ({ dst := some 96, op := Go.Op.binOp Go.BinOp.neq 23 (Go.Operand.tmp 93) (Go.Operand.tmp 95) 23, type := 4, pos := "outright.go:84", after := #[{ on := 24, ground := Go.Ground.data }, { on := 26, ground := Go.Ground.data }, { on := 23, ground := Go.Ground.guard }], guard := some (23, false) } : Oper)) (v := undef) rfl (by kernel_rfl) (by kernel_rfl) (by kernel_rfl) (fun _ _ _ h => h) (Or.inr ⟨by rfl, rfl⟩) (by assumption) ?_
            (try simp only [Act.put, List.setIfInBounds_toArray, List.set_cons_zero, List.set_cons_succ])
            refine wpAnyH_take (i := 28) (oi := ({ dst := some 97, op := Go.Op.pick (Go.Operand.tmp 92) (Go.Operand.const (Go.Value.bool true)) (Go.Operand.tmp 96), type := 4, pos := "outright.go:84", after := #[{ on := 23, ground := Go.Ground.data }, { on := 27, ground := Go.Ground.data }, { on := 19, ground := Go.Ground.guard }], guard := some (19, true) } : Oper)) (v := undef) rfl (by kernel_rfl) (by kernel_rfl) (by kernel_rfl) (fun _ _ _ h => h) (Or.inr ⟨by rfl, rfl⟩) (by assumption) ?_
            (try simp only [Act.put, List.setIfInBounds_toArray, List.set_cons_zero, List.set_cons_succ])
            refine wpAnyH_take (i := 29) (oi := ({ dst := some 98, op := Go.Op.pick (Go.Operand.tmp 88) (Go.Operand.tmp 97) (Go.Operand.const (Go.Value.bool false)), type := 4, pos := "outright.go:84", after := #[{ on := 19, ground := Go.Ground.data }, { on := 28, ground := Go.Ground.data }, { on := 11, ground := Go.Ground.guard }], guard := some (11, false) } : Oper)) (v := ?vb29) rfl (by kernel_rfl) (by kernel_rfl) (by kernel_rfl) (fun _ _ _ h => h) (Or.inl ⟨by rfl, ?hyb29⟩) (by assumption) ?restb29
            case hyb29 => (intro w hSw; (try dsimp only at hSw); go_simp; (try with_reducible rfl))
            (try simp only [Act.put, List.setIfInBounds_toArray, List.set_cons_zero, List.set_cons_succ])
            refine wpAnyH_take (i := 30) (oi := ({ dst := some 99, op := Go.Op.pick (Go.Operand.tmp 80) (Go.Operand.const (Go.Value.bool true)) (Go.Operand.tmp 98), type := 4, pos := "outright.go:84", after := #[{ on := 11, ground := Go.Ground.data }, { on := 29, ground := Go.Ground.data }], guard := none } : Oper)) (v := ?vb30) rfl (by kernel_rfl) (by kernel_rfl) (by kernel_rfl) (fun _ _ _ h => h) (Or.inl ⟨by rfl, ?hyb30⟩) (by assumption) ?restb30
            case hyb30 => (intro w hSw; (try dsimp only at hSw); go_simp; (try with_reducible rfl))
            (try simp only [Act.put, List.setIfInBounds_toArray, List.set_cons_zero, List.set_cons_succ])
            refine wpAnyH_done (by kernel_rfl) ?_ _
            all_goals (go_wp2; go_meet; exact ⟨rfl, And.right (by assumption)⟩)
        · have hf1 : (f == 0) = false := by simp [hf]
          clear hi0 hf
          refine wp_region_held_drew (S := (fun w' => w'.cell? ⟨gb, 3, none⟩ = some (.slice A l.length c) ∧ Aside0 (Below wv.heap.size wv w'))) (by kernel_rfl) (by exact hS0) (fun hHeld => ?_)
          refine wpAnyH_take (i := 0) (oi := ({ dst := some 69, op := Go.Op.move (Go.Operand.tmp 10), type := 37, pos := "outright.go:84", after := #[], guard := none } : Oper)) (v := ?vc0) rfl (by kernel_rfl) (by kernel_rfl) (by kernel_rfl) (fun _ _ _ h => h) (Or.inl ⟨by rfl, ?hyc0⟩) (by assumption) ?restc0
          case hyc0 => (intro w hSw; (try dsimp only at hSw); go_simp; (try with_reducible rfl))
          (try simp only [Act.put, List.setIfInBounds_toArray, List.set_cons_zero, List.set_cons_succ])
          refine wpAnyH_ready (rs := [1]) (by kernel_rfl) (by simp) ?_
          refine AllReadyH.cons (o := ({ dst := some 70, op := Go.Op.call { callee := Go.Callee.value (Go.Operand.func 21), args := #[Go.Operand.tmp 69], argTypes := #[37] }, type := 3, pos := "outright.go:84", after := #[{ on := 0, ground := Go.Ground.data }], guard := none } : Oper)) rfl (fun K hK => ?_) AllReadyH.nil
          go_simp
          refine (larderlaw1_num.calls _ _ _ rfl).mono ?_
          rintro e wa ⟨rfl, hd⟩
          have hS1 := sk_step (w0 := wv) (by assumption) hd.below
          clear hd
          (try go_wp2_with fail)
          refine hK.out _ _ (by assumption) (fun hHeld => ?_)
          clear hK K
          (try simp only [Act.put, List.setIfInBounds_toArray, List.set_cons_zero, List.set_cons_succ])
          refine wpAnyH_take (i := 2) (oi := ({ dst := some 71, op := Go.Op.binOp Go.BinOp.eql 3 (Go.Operand.tmp 70) (Go.Operand.const (Go.Value.int Go.IntKind.i64 0)) 3, type := 4, pos := "outright.go:84", after := #[{ on := 1, ground := Go.Ground.data }], guard := none } : Oper)) (v := ?vc2) rfl (by kernel_rfl) (by kernel_rfl) (by kernel_rfl) (fun _ _ _ h => h) (Or.inl ⟨by rfl, ?hyc2⟩) (by assumption) ?restc2
          case hyc2 => (intro w hSw; (try dsimp only at hSw); go_simp; (try with_reducible rfl))
          (try simp only [Act.put, List.setIfInBounds_toArray, List.set_cons_zero, List.set_cons_succ])
          refine wpAnyH_take (i := 3) (oi := ({ dst := some 72, op := Go.Op.move (Go.Operand.tmp 71), type := 4, pos := "outright.go:84", after := #[{ on := 2, ground := Go.Ground.data }, { on := 1, ground := Go.Ground.chain }], guard := none } : Oper)) (v := ?vc3) rfl (by kernel_rfl) (by kernel_rfl) (by kernel_rfl) (fun _ _ _ h => h) (Or.inl ⟨by rfl, ?hyc3⟩) (by assumption) ?restc3
          case hyc3 => (intro w hSw; (try dsimp only at hSw); go_simp; (try with_reducible rfl))
          (try simp only [Act.put, List.setIfInBounds_toArray, List.set_cons_zero, List.set_cons_succ])
          refine wpAnyH_take (i := 4) (oi := ({ dst := some 73, op := Go.Op.move (Go.Operand.tmp 9), type := 23, pos := "outright.go:84", after := #[{ on := 3, ground := Go.Ground.guard }], guard := some (3, true) } : Oper)) (v := ?vc4) rfl (by kernel_rfl) (by kernel_rfl) (by kernel_rfl) (fun _ _ _ h => h) (Or.inl ⟨by rfl, ?hyc4⟩) (by assumption) ?restc4
          case hyc4 => (intro w hSw; (try dsimp only at hSw); go_simp; (try with_reducible rfl))
          (try simp only [Act.put, List.setIfInBounds_toArray, List.set_cons_zero, List.set_cons_succ])
          refine wpAnyH_take (i := 6) (oi := ({ dst := some 75, op := Go.Op.fieldAddr 80 (Go.Operand.tmp 1) 3, type := 0, pos := "outright.go:84", after := #[{ on := 3, ground := Go.Ground.guard }], guard := some (3, true) } : Oper)) (v := ?vc6) rfl (by kernel_rfl) (by kernel_rfl) (by kernel_rfl) (fun _ _ _ h => h) (Or.inl ⟨by rfl, ?hyc6⟩) (by assumption) ?restc6
          case hyc6 => (intro w hSw; (try dsimp only at hSw); go_simp; (try with_reducible rfl))
          (try simp only [Act.put, List.setIfInBounds_toArray, List.set_cons_zero, List.set_cons_succ])
          refine wpAnyH_take (i := 7) (oi := ({ dst := some 76, op := Go.Op.load 22 (Go.Operand.tmp 75), type := 22, pos := "outright.go:84", after := #[{ on := 6, ground := Go.Ground.data }, { on := 3, ground := Go.Ground.guard }], guard := some (3, true) } : Oper)) (v := ?vc7) rfl (by kernel_rfl) (by kernel_rfl) (by kernel_rfl) (fun _ _ _ h => h) (Or.inl ⟨by rfl, ?hyc7⟩) (by assumption) ?restc7
          case hyc7 => (intro w hSw; (try dsimp only at hSw); go_simp; (try with_reducible rfl))
          (try simp only [Act.put, List.setIfInBounds_toArray, List.set_cons_zero, List.set_cons_succ])
          refine wpAnyH_ready (rs := [5]) (by kernel_rfl) (by simp) ?_
          refine AllReadyH.cons (o := ({ dst := some 74, op := Go.Op.call { callee := Go.Callee.value (Go.Operand.func 35), args := #[Go.Operand.tmp 73], argTypes := #[23] }, type := 22, pos := "outright.go:84", after := #[{ on := 4, ground := Go.Ground.data }, { on := 3, ground := Go.Ground.chain }, { on := 3, ground := Go.Ground.guard }], guard := some (3, true) } : Oper)) rfl (fun K hK => ?_) AllReadyH.nil
          go_simp
          refine (word_Digits.calls y l _ KDy'.out).mono ?_
          rintro e wb ⟨v7, rfl, hR, hb⟩
          have hS1 := sk_step (w0 := wv) (by assumption) hb
          obtain ⟨Aq, cq, rfl, hcq, hCq⟩ := Kd.R_reads hR
          have HCq := Aside0.mk hCq
          clear hR hCq hb
          (try go_wp2_with fail)
          refine hK.out _ _ (by assumption) (fun hHeld => ?_)
          clear hK K
          (try simp only [Act.put, List.setIfInBounds_toArray, List.set_cons_zero, List.set_cons_succ])
          refine wpAnyH_ready (rs := [8]) (by kernel_rfl) (by simp) ?_
          refine AllReadyH.cons (o := ({ dst := some 77, op := Go.Op.call { callee := Go.Callee.value (Go.Operand.func 16), args := #[Go.Operand.tmp 74, Go.Operand.tmp 76], argTypes := #[22, 22] }, type := 4, pos := "outright.go:84", after := #[{ on := 5, ground := Go.Ground.data }, { on := 7, ground := Go.Ground.data }, { on := 5, ground := Go.Ground.chain }, { on := 3, ground := Go.Ground.guard }], guard := some (3, true) } : Oper)) rfl (fun K hK => ?_) AllReadyH.nil
          go_simp
          refine (larderlaw1_sameBytes.calls Aq cq l A c l true _ HCq.out hcq (Kd.C_below HRw.out (below_step HB.out (sk_out (by assumption)))) hc (same_refl l)).mono ?_
          rintro e wd ⟨rfl, hd⟩
          have hS1 := sk_step (w0 := wv) (by assumption) hd.below
          clear hd
          (try go_wp2_with fail)
          refine hK.out _ _ (by assumption) (fun hHeld => ?_)
          clear hK K
          (try simp only [Act.put, List.setIfInBounds_toArray, List.set_cons_zero, List.set_cons_succ])
          refine wpAnyH_take (i := 9) (oi := ({ dst := some 78, op := Go.Op.unOp Go.UnOp.not 4 (Go.Operand.tmp 77), type := 4, pos := "outright.go:84", after := #[{ on := 8, ground := Go.Ground.data }, { on := 3, ground := Go.Ground.guard }], guard := some (3, true) } : Oper)) (v := ?vc9) rfl (by kernel_rfl) (by kernel_rfl) (by kernel_rfl) (fun _ _ _ h => h) (Or.inl ⟨by rfl, ?hyc9⟩) (by assumption) ?restc9
          case hyc9 => (intro w hSw; (try dsimp only at hSw); go_simp; (try with_reducible rfl))
          (try simp only [Act.put, List.setIfInBounds_toArray, List.set_cons_zero, List.set_cons_succ])
          refine wpAnyH_take (i := 10) (oi := ({ dst := some 79, op := Go.Op.pick (Go.Operand.tmp 72) (Go.Operand.tmp 78) (Go.Operand.const (Go.Value.bool false)), type := 4, pos := "outright.go:84", after := #[{ on := 3, ground := Go.Ground.data }, { on := 9, ground := Go.Ground.data }], guard := none } : Oper)) (v := ?vc10) rfl (by kernel_rfl) (by kernel_rfl) (by kernel_rfl) (fun _ _ _ h => h) (Or.inl ⟨by rfl, ?hyc10⟩) (by assumption) ?restc10
          case hyc10 => (intro w hSw; (try dsimp only at hSw); go_simp; (try with_reducible rfl))
          (try simp only [Act.put, List.setIfInBounds_toArray, List.set_cons_zero, List.set_cons_succ])
          refine wpAnyH_take (i := 11) (oi := ({ dst := some 80, op := Go.Op.move (Go.Operand.tmp 79), type := 4, pos := "outright.go:84", after := #[{ on := 10, ground := Go.Ground.data }, { on := 8, ground := Go.Ground.chain }], guard := none } : Oper)) (v := ?vc11) rfl (by kernel_rfl) (by kernel_rfl) (by kernel_rfl) (fun _ _ _ h => h) (Or.inl ⟨by rfl, ?hyc11⟩) (by assumption) ?restc11
          case hyc11 => (intro w hSw; (try dsimp only at hSw); go_simp; (try with_reducible rfl))
          (try simp only [Act.put, List.setIfInBounds_toArray, List.set_cons_zero, List.set_cons_succ])
          refine wpAnyH_take (i := 12) (oi := ({ dst := some 81, op := Go.Op.move (Go.Operand.tmp 6), type := 37, pos := "outright.go:84", after := #[{ on := 11, ground := Go.Ground.guard }], guard := some (11, false) } : Oper)) (v := ?vc12) rfl (by kernel_rfl) (by kernel_rfl) (by kernel_rfl) (fun _ _ _ h => h) (Or.inl ⟨by rfl, ?hyc12⟩) (by assumption) ?restc12
          case hyc12 => (intro w hSw; (try dsimp only at hSw); go_simp; (try with_reducible rfl))
          (try simp only [Act.put, List.setIfInBounds_toArray, List.set_cons_zero, List.set_cons_succ])
          refine wpAnyH_ready (rs := [13]) (by kernel_rfl) (by simp) ?_
          refine AllReadyH.cons (o := ({ dst := some 82, op := Go.Op.call { callee := Go.Callee.value (Go.Operand.func 21), args := #[Go.Operand.tmp 81], argTypes := #[37] }, type := 3, pos := "outright.go:84", after := #[{ on := 12, ground := Go.Ground.data }, { on := 11, ground := Go.Ground.chain }, { on := 11, ground := Go.Ground.guard }], guard := some (11, false) } : Oper)) rfl (fun K hK => ?_) AllReadyH.nil
          go_simp
          refine (larderlaw1_num.calls _ _ _ rfl).mono ?_
          rintro e wa ⟨rfl, hd⟩
          have hS1 := sk_step (w0 := wv) (by assumption) hd.below
          clear hd
          (try go_wp2_with fail)
          refine hK.out _ _ (by assumption) (fun hHeld => ?_)
          clear hK K
          (try simp only [Act.put, List.setIfInBounds_toArray, List.set_cons_zero, List.set_cons_succ])
          refine wpAnyH_take (i := 14) (oi := ({ dst := some 83, op := Go.Op.binOp Go.BinOp.eql 3 (Go.Operand.tmp 82) (Go.Operand.const (Go.Value.int Go.IntKind.i64 0)) 3, type := 4, pos := "outright.go:84", after := #[{ on := 13, ground := Go.Ground.data }, { on := 11, ground := Go.Ground.guard }], guard := some (11, false) } : Oper)) (v := ?vc14) rfl (by kernel_rfl) (by kernel_rfl) (by kernel_rfl) (fun _ _ _ h => h) (Or.inl ⟨by rfl, ?hyc14⟩) (by assumption) ?restc14
          case hyc14 => (intro w hSw; (try dsimp only at hSw); go_simp; (try with_reducible rfl))
          (try simp only [Act.put, List.setIfInBounds_toArray, List.set_cons_zero, List.set_cons_succ])
          refine wpAnyH_take (i := 15) (oi := ({ dst := some 84, op := Go.Op.move (Go.Operand.tmp 83), type := 4, pos := "outright.go:84", after := #[{ on := 14, ground := Go.Ground.data }, { on := 13, ground := Go.Ground.chain }, { on := 11, ground := Go.Ground.guard }], guard := some (11, false) } : Oper)) (v := ?vc15) rfl (by kernel_rfl) (by kernel_rfl) (by kernel_rfl) (fun _ _ _ h => h) (Or.inl ⟨by rfl, ?hyc15⟩) (by assumption) ?restc15
          case hyc15 => (intro w hSw; (try dsimp only at hSw); go_simp; (try with_reducible rfl))
          (try simp only [Act.put, List.setIfInBounds_toArray, List.set_cons_zero, List.set_cons_succ])
          refine wpAnyH_take (i := 16) (oi := ({ dst := some 85, op := Go.Op.move (Go.Operand.tmp 5), type := 2, pos := "outright.go:84", after := #[{ on := 15, ground := Go.Ground.guard }], guard := some (15, true) } : Oper)) (v := undef) rfl (by kernel_rfl) (by kernel_rfl) (by kernel_rfl) (fun _ _ _ h => h) (Or.inr ⟨by rfl, rfl⟩) (by assumption) ?_
          (try simp only [Act.put, List.setIfInBounds_toArray, List.set_cons_zero, List.set_cons_succ])
          refine wpAnyH_take (i := 17) (oi := ({ dst := some 86, op := Go.Op.binOp Go.BinOp.geq 2 (Go.Operand.tmp 85) (Go.Operand.const (Go.Value.int Go.IntKind.i64 0)) 2, type := 4, pos := "outright.go:84", after := #[{ on := 16, ground := Go.Ground.data }, { on := 15, ground := Go.Ground.guard }], guard := some (15, true) } : Oper)) (v := undef) rfl (by kernel_rfl) (by kernel_rfl) (by kernel_rfl) (fun _ _ _ h => h) (Or.inr ⟨by rfl, rfl⟩) (by assumption) ?_
          (try simp only [Act.put, List.setIfInBounds_toArray, List.set_cons_zero, List.set_cons_succ])
          refine wpAnyH_take (i := 18) (oi := ({ dst := some 87, op := Go.Op.pick (Go.Operand.tmp 84) (Go.Operand.tmp 86) (Go.Operand.const (Go.Value.bool false)), type := 4, pos := "outright.go:84", after := #[{ on := 15, ground := Go.Ground.data }, { on := 17, ground := Go.Ground.data }, { on := 11, ground := Go.Ground.guard }], guard := some (11, false) } : Oper)) (v := ?vc18) rfl (by kernel_rfl) (by kernel_rfl) (by kernel_rfl) (fun _ _ _ h => h) (Or.inl ⟨by rfl, ?hyc18⟩) (by assumption) ?restc18
          case hyc18 => (intro w hSw; (try dsimp only at hSw); go_simp; (try with_reducible rfl))
          (try simp only [Act.put, List.setIfInBounds_toArray, List.set_cons_zero, List.set_cons_succ])
          refine wpAnyH_take (i := 19) (oi := ({ dst := some 88, op := Go.Op.move (Go.Operand.tmp 87), type := 4, pos := "outright.go:84", after := #[{ on := 18, ground := Go.Ground.data }, { on := 15, ground := Go.Ground.chain }, { on := 11, ground := Go.Ground.guard }], guard := some (11, false) } : Oper)) (v := ?vc19) rfl (by kernel_rfl) (by kernel_rfl) (by kernel_rfl) (fun _ _ _ h => h) (Or.inl ⟨by rfl, ?hyc19⟩) (by assumption) ?restc19
          case hyc19 => (intro w hSw; (try dsimp only at hSw); go_simp; (try with_reducible rfl))
          (try simp only [Act.put, List.setIfInBounds_toArray, List.set_cons_zero, List.set_cons_succ])
          refine wpAnyH_take (i := 20) (oi := ({ dst := some 89, op := Go.Op.move (Go.Operand.tmp 10), type := 37, pos := "outright.go:84", after := #[{ on := 19, ground := Go.Ground.guard }], guard := some (19, true) } : Oper)) (v := undef) rfl (by kernel_rfl) (by kernel_rfl) (by kernel_rfl) (fun _ _ _ h => h) (Or.inr ⟨by rfl, rfl⟩) (by assumption) ?_
          (try simp only [Act.put, List.setIfInBounds_toArray, List.set_cons_zero, List.set_cons_succ])
          refine wpAnyH_take (i := 21) (oi := ({ dst := some 90, op := Go.Op.call { callee := Go.Callee.value (Go.Operand.func 21), args := #[Go.Operand.tmp 89], argTypes := #[37] }, type := 3, pos := "outright.go:84", after := #[{ on := 20, ground := Go.Ground.data }, { on := 19, ground := Go.Ground.chain }, { on := 19, ground := Go.Ground.guard }], guard := some (19, true) } : Oper)) (v := undef) rfl (by kernel_rfl) (by kernel_rfl) (by kernel_rfl) (fun _ _ _ h => h) (Or.inr ⟨by rfl, rfl⟩) (by assumption) ?_
          (try simp only [Act.put, List.setIfInBounds_toArray, List.set_cons_zero, List.set_cons_succ])
          refine wpAnyH_take (i := 22) (oi := ({ dst := some 91, op := Go.Op.binOp Go.BinOp.neq 3 (Go.Operand.tmp 90) (Go.Operand.const (Go.Value.int Go.IntKind.i64 0)) 3, type := 4, pos := "outright.go:84", after := #[{ on := 21, ground := Go.Ground.data }, { on := 19, ground := Go.Ground.guard }], guard := some (19, true) } : Oper)) (v := undef) rfl (by kernel_rfl) (by kernel_rfl) (by kernel_rfl) (fun _ _ _ h => h) (Or.inr ⟨by rfl, rfl⟩) (by assumption) ?_
          (try simp only [Act.put, List.setIfInBounds_toArray, List.set_cons_zero, List.set_cons_succ])
          refine wpAnyH_take (i := 23) (oi := ({ dst := some 92, op := Go.Op.move (Go.Operand.tmp 91), type := 4, pos := "outright.go:84", after := #[{ on := 22, ground := Go.Ground.data }, { on := 21, ground := Go.Ground.chain }, { on := 19, ground := Go.Ground.guard }], guard := some (19, true) } : Oper)) (v := undef) rfl (by kernel_rfl) (by kernel_rfl) (by kernel_rfl) (fun _ _ _ h => h) (Or.inr ⟨by rfl, rfl⟩) (by assumption) ?_
          (try simp only [Act.put, List.setIfInBounds_toArray, List.set_cons_zero, List.set_cons_succ])
          refine wpAnyH_take (i := 24) (oi := ({ dst := some 93, op := Go.Op.move (Go.Operand.tmp 9), type := 23, pos := "outright.go:84", after := #[{ on := 23, ground := Go.Ground.guard }], guard := some (23, false) } : Oper)) (v := undef) rfl (by kernel_rfl) (by kernel_rfl) (by kernel_rfl) (fun _ _ _ h => h) (Or.inr ⟨by rfl, rfl⟩) (by assumption) ?_
          (try simp only [Act.put, List.setIfInBounds_toArray, List.set_cons_zero, List.set_cons_succ])
          refine wpAnyH_take (i := 25) (oi := ({ dst := some 94, op := Go.Op.move (Go.Operand.tmp 5), type := 2, pos := "outright.go:84", after := #[{ on := 23, ground := Go.Ground.guard }], guard := some (23, false) } : Oper)) (v := undef) rfl (by kernel_rfl) (by kernel_rfl) (by kernel_rfl) (fun _ _ _ h => h) (Or.inr ⟨by rfl, rfl⟩) (by assumption) ?_
          (try simp only [Act.put, List.setIfInBounds_toArray, List.set_cons_zero, List.set_cons_succ])
          refine wpAnyH_take (i := 26) (oi := ({ dst := some 95, op := Go.Op.convert 2 23 (Go.Operand.tmp 94), type := 23, pos := "outright.go:84", after := #[{ on := 25, ground := Go.Ground.data }, { on := 23, ground := Go.Ground.guard }], guard := some (23, false) } : Oper)) (v := undef) rfl (by kernel_rfl) (by kernel_rfl) (by kernel_rfl) (fun _ _ _ h => h) (Or.inr ⟨by rfl, rfl⟩) (by assumption) ?_
          (try simp only [Act.put, List.setIfInBounds_toArray, List.set_cons_zero, List.set_cons_succ])
          refine wpAnyH_take (i := 27) (oi := ({ dst := some 96, op := Go.Op.binOp Go.BinOp.neq 23 (Go.Operand.tmp 93) (Go.Operand.tmp 95) 23, type := 4, pos := "outright.go:84", after := #[{ on := 24, ground := Go.Ground.data }, { on := 26, ground := Go.Ground.data }, { on := 23, ground := Go.Ground.guard }], guard := some (23, false) } : Oper)) (v := undef) rfl (by kernel_rfl) (by kernel_rfl) (by kernel_rfl) (fun _ _ _ h => h) (Or.inr ⟨by rfl, rfl⟩) (by assumption) ?_
          (try simp only [Act.put, List.setIfInBounds_toArray, List.set_cons_zero, List.set_cons_succ])
          refine wpAnyH_take (i := 28) (oi := ({ dst := some 97, op := Go.Op.pick (Go.Operand.tmp 92) (Go.Operand.const (Go.Value.bool true)) (Go.Operand.tmp 96), type := 4, pos := "outright.go:84", after := #[{ on := 23, ground := Go.Ground.data }, { on := 27, ground := Go.Ground.data }, { on := 19, ground := Go.Ground.guard }], guard := some (19, true) } : Oper)) (v := undef) rfl (by kernel_rfl) (by kernel_rfl) (by kernel_rfl) (fun _ _ _ h => h) (Or.inr ⟨by rfl, rfl⟩) (by assumption) ?_
          (try simp only [Act.put, List.setIfInBounds_toArray, List.set_cons_zero, List.set_cons_succ])
          refine wpAnyH_take (i := 29) (oi := ({ dst := some 98, op := Go.Op.pick (Go.Operand.tmp 88) (Go.Operand.tmp 97) (Go.Operand.const (Go.Value.bool false)), type := 4, pos := "outright.go:84", after := #[{ on := 19, ground := Go.Ground.data }, { on := 28, ground := Go.Ground.data }, { on := 11, ground := Go.Ground.guard }], guard := some (11, false) } : Oper)) (v := ?vc29) rfl (by kernel_rfl) (by kernel_rfl) (by kernel_rfl) (fun _ _ _ h => h) (Or.inl ⟨by rfl, ?hyc29⟩) (by assumption) ?restc29
          case hyc29 => (intro w hSw; (try dsimp only at hSw); go_simp; (try with_reducible rfl))
          (try simp only [Act.put, List.setIfInBounds_toArray, List.set_cons_zero, List.set_cons_succ])
          refine wpAnyH_take (i := 30) (oi := ({ dst := some 99, op := Go.Op.pick (Go.Operand.tmp 80) (Go.Operand.const (Go.Value.bool true)) (Go.Operand.tmp 98), type := 4, pos := "outright.go:84", after := #[{ on := 11, ground := Go.Ground.data }, { on := 29, ground := Go.Ground.data }], guard := none } : Oper)) (v := ?vc30) rfl (by kernel_rfl) (by kernel_rfl) (by kernel_rfl) (fun _ _ _ h => h) (Or.inl ⟨by rfl, ?hyc30⟩) (by assumption) ?restc30
          case hyc30 => (intro w hSw; (try dsimp only at hSw); go_simp; (try with_reducible rfl))
          (try simp only [Act.put, List.setIfInBounds_toArray, List.set_cons_zero, List.set_cons_succ])
          refine wpAnyH_done (by kernel_rfl) ?_ _
          all_goals (go_wp2; go_meet; exact ⟨rfl, And.right (by assumption)⟩)
      · have hi1 : (i == 0) = false := by simp [hi0]
        have hi2 : (i != 0) = true := by simp [hi0]
        by_cases hf : f = 0
        · have hf1 : (f == 0) = true := by simp [hf]
          have hm0 : ¬ 0 ≤ m' := fun h => hi0 (KB.out hf h).1
          have hm1 : decide (0 ≤ m') = false := decide_eq_false hm0
          clear hi0 hf hm0
          go_quiet (first | (go_at_call 21; refine (larderlaw1_num.calls _ _ _ rfl).mono ?_; rintro e w' ⟨rfl, ⟨nd, rfl⟩⟩; (try first | exact ⟨rfl, _, World.drewN_drewN _ _ _⟩ | exact ⟨rfl, _, Eq.trans (World.drewN_drewN _ _ _) (congrArg (World.drewN _) (Nat.add_assoc _ _ _))⟩)))
          all_goals (go_wp2; go_meet; exact ⟨rfl, ⟨pw_below_drewN (Below.refl _ _) _⟩⟩)
        · have hf1 : (f == 0) = false := by simp [hf]
          clear hi0 hf
          go_quiet (first | (go_at_call 21; refine (larderlaw1_num.calls _ _ _ rfl).mono ?_; rintro e w' ⟨rfl, ⟨nd, rfl⟩⟩; (try first | exact ⟨rfl, _, World.drewN_drewN _ _ _⟩ | exact ⟨rfl, _, Eq.trans (World.drewN_drewN _ _ _) (congrArg (World.drewN _) (Nat.add_assoc _ _ _))⟩)))
          all_goals (go_wp2; go_meet; exact ⟨rfl, ⟨pw_below_drewN (Below.refl _ _) _⟩⟩)
    case rest =>
      obtain ⟨rfl, hb⟩ := hcut
      have hb := hb.out
      have hcz0' := pw_cell_below hb hcz0; have hcz1' := pw_cell_below hb hcz1; have hcz2' := pw_cell_below hb hcz2; have hcz3' := pw_cell_below hb hcz3; clear hcz0 hcz1 hcz2 hcz3; have hcz0 := hcz0'; have hcz1 := hcz1'; have hcz2 := hcz2'; have hcz3 := hcz3'; clear hcz0' hcz1' hcz2' hcz3'; have n2_ := Aside0.mk (below_step HB.out hb); clear HB; have HB := n2_; clear n2_
      clear hb
      have hnn2 : (n == n) = true := by simp
      by_cases cR : -9223372036854775808 ≤ n + m ∧ n + m < 9223372036854775808
      · have hka := KA.out
        rw [if_pos cR] at hka
        have KA' := Aside0.mk hka
        have hw0 : wrap64 n = n := by unfold wrap64; have := HN.out; omega
        have hw : (wrap64 n == n) = true := by rw [hw0]; simp
        clear hw0
        clear hka cR
        by_cases hm0 : 0 ≤ m
        · have d1 : decide (0 ≤ m) = true := decide_eq_true hm0
          have d2 : decide (n ≤ n + m) = true := decide_eq_true (by omega)
          clear hm0
          go_wp2_with fail
          refine (PB.word_Add.calls n m (n + m) 0 _ KA'.out).mono ?_
          rintro e wx ⟨rfl, hd⟩
          have hb := hd.below
          have hcz0' := pw_cell_below hb hcz0; have hcz1' := pw_cell_below hb hcz1; have hcz2' := pw_cell_below hb hcz2; have hcz3' := pw_cell_below hb hcz3; clear hcz0 hcz1 hcz2 hcz3; have hcz0 := hcz0'; have hcz1 := hcz1'; have hcz2 := hcz2'; have hcz3 := hcz3'; clear hcz0' hcz1' hcz2' hcz3'; have n2_ := Aside0.mk (below_step HB.out hb); clear HB; have HB := n2_; clear n2_
          clear hb hd
          go_wp2_with fail
          refine (larderlaw1_num.calls 0 0 _ rfl).mono ?_
          rintro e wy ⟨rfl, hd⟩
          have hb := hd.below
          have hcz0' := pw_cell_below hb hcz0; have hcz1' := pw_cell_below hb hcz1; have hcz2' := pw_cell_below hb hcz2; have hcz3' := pw_cell_below hb hcz3; clear hcz0 hcz1 hcz2 hcz3; have hcz0 := hcz0'; have hcz1 := hcz1'; have hcz2 := hcz2'; have hcz3 := hcz3'; clear hcz0' hcz1' hcz2' hcz3'; have n2_ := Aside0.mk (below_step HB.out hb); clear HB; have HB := n2_; clear n2_
          clear hb hd
          go_wp2
          go_ret
          exact ⟨rfl, HB.out⟩
        · have d1 : decide (0 ≤ m) = false := decide_eq_false hm0
          have d2 : decide (n ≤ n + m) = false := decide_eq_false (by omega)
          clear hm0
          go_wp2_with fail
          refine (PB.word_Add.calls n m (n + m) 0 _ KA'.out).mono ?_
          rintro e wx ⟨rfl, hd⟩
          have hb := hd.below
          have hcz0' := pw_cell_below hb hcz0; have hcz1' := pw_cell_below hb hcz1; have hcz2' := pw_cell_below hb hcz2; have hcz3' := pw_cell_below hb hcz3; clear hcz0 hcz1 hcz2 hcz3; have hcz0 := hcz0'; have hcz1 := hcz1'; have hcz2 := hcz2'; have hcz3 := hcz3'; clear hcz0' hcz1' hcz2' hcz3'; have n2_ := Aside0.mk (below_step HB.out hb); clear HB; have HB := n2_; clear n2_
          clear hb hd
          go_wp2_with fail
          refine (larderlaw1_num.calls 0 0 _ rfl).mono ?_
          rintro e wy ⟨rfl, hd⟩
          have hb := hd.below
          have hcz0' := pw_cell_below hb hcz0; have hcz1' := pw_cell_below hb hcz1; have hcz2' := pw_cell_below hb hcz2; have hcz3' := pw_cell_below hb hcz3; clear hcz0 hcz1 hcz2 hcz3; have hcz0 := hcz0'; have hcz1 := hcz1'; have hcz2 := hcz2'; have hcz3 := hcz3'; clear hcz0' hcz1' hcz2' hcz3'; have n2_ := Aside0.mk (below_step HB.out hb); clear HB; have HB := n2_; clear n2_
          clear hb hd
          go_wp2
          go_ret
          exact ⟨rfl, HB.out⟩
      · have hka := KA.out
        rw [if_neg cR] at hka
        have KA' := Aside0.mk hka
        have hn1 := HN.out
        have hm1 := HM.out
        clear hka
        by_cases hm0 : 0 ≤ m
        · have d1 : decide (0 ≤ m) = true := decide_eq_true hm0
          have d2 : decide (n < 0) = false := decide_eq_false (by omega)
          clear hm0 cR hn1 hm1
          go_wp2_with fail
          refine (PB.word_Add.calls n m 0 13 _ KA'.out).mono ?_
          rintro e wx ⟨rfl, hd⟩
          have hb := hd.below
          have hcz0' := pw_cell_below hb hcz0; have hcz1' := pw_cell_below hb hcz1; have hcz2' := pw_cell_below hb hcz2; have hcz3' := pw_cell_below hb hcz3; clear hcz0 hcz1 hcz2 hcz3; have hcz0 := hcz0'; have hcz1 := hcz1'; have hcz2 := hcz2'; have hcz3 := hcz3'; clear hcz0' hcz1' hcz2' hcz3'; have n2_ := Aside0.mk (below_step HB.out hb); clear HB; have HB := n2_; clear n2_
          clear hb hd
          go_wp2_with fail
          refine (larderlaw1_num.calls 13 13 _ rfl).mono ?_
          rintro e wy ⟨rfl, hd⟩
          have hb := hd.below
          have hcz0' := pw_cell_below hb hcz0; have hcz1' := pw_cell_below hb hcz1; have hcz2' := pw_cell_below hb hcz2; have hcz3' := pw_cell_below hb hcz3; clear hcz0 hcz1 hcz2 hcz3; have hcz0 := hcz0'; have hcz1 := hcz1'; have hcz2 := hcz2'; have hcz3 := hcz3'; clear hcz0' hcz1' hcz2' hcz3'; have n2_ := Aside0.mk (below_step HB.out hb); clear HB; have HB := n2_; clear n2_
          clear hb hd
          go_wp2
          go_ret
          exact ⟨rfl, HB.out⟩
        · have d1 : decide (0 ≤ m) = false := decide_eq_false hm0
          have d2 : decide (n < 0) = true := decide_eq_true (by omega)
          clear hm0 cR hn1 hm1
          go_wp2_with fail
          refine (PB.word_Add.calls n m 0 13 _ KA'.out).mono ?_
          rintro e wx ⟨rfl, hd⟩
          have hb := hd.below
          have hcz0' := pw_cell_below hb hcz0; have hcz1' := pw_cell_below hb hcz1; have hcz2' := pw_cell_below hb hcz2; have hcz3' := pw_cell_below hb hcz3; clear hcz0 hcz1 hcz2 hcz3; have hcz0 := hcz0'; have hcz1 := hcz1'; have hcz2 := hcz2'; have hcz3 := hcz3'; clear hcz0' hcz1' hcz2' hcz3'; have n2_ := Aside0.mk (below_step HB.out hb); clear HB; have HB := n2_; clear n2_
          clear hb hd
          go_wp2_with fail
          refine (larderlaw1_num.calls 13 13 _ rfl).mono ?_
          rintro e wy ⟨rfl, hd⟩
          have hb := hd.below
          have hcz0' := pw_cell_below hb hcz0; have hcz1' := pw_cell_below hb hcz1; have hcz2' := pw_cell_below hb hcz2; have hcz3' := pw_cell_below hb hcz3; clear hcz0 hcz1 hcz2 hcz3; have hcz0 := hcz0'; have hcz1 := hcz1'; have hcz2 := hcz2'; have hcz3 := hcz3'; clear hcz0' hcz1' hcz2' hcz3'; have n2_ := Aside0.mk (below_step HB.out hb); clear HB; have HB := n2_; clear n2_
          clear hb hd
          go_wp2
          go_ret
          exact ⟨rfl, HB.out⟩

open Go.Proofs.Ytgngpbcbnfmoiaa.ArgsW in
theorem walk (y : Int × Int × Int × List Int) (ca : Array Value) (W : World) (hK : kSpell.K W y ca.toList) (hg : gI y.1 ∧ gI y.2.1 ∧ gU y.2.2.1 ∧ gBytes y.2.2.2) :
    Calls Try.prog 7 #[.agg ca] W fun e w' => e = .returned (.bool true) ∧ Below W.heap.size W w' := by
  obtain ⟨n, m, x, l⟩ := y
  obtain ⟨hn, hm, hx, hl⟩ := hg
  obtain ⟨c0, c1, e0, hk0, c2, c3, rfl, hk1, c4, c5, rfl, hk2, hk3⟩ := hK
  obtain ⟨A, c, rfl, hlc, hC⟩ := bytes_cell hk3
  have h0 : c0 = [.int .i64 n] := hk0
  have h1 : c2 = [.int .i64 m] := hk1
  have h2 : c4 = [.int .u64 x] := hk2
  subst h0 h1 h2
  obtain rfl : ca = #[.int .i64 n, .int .i64 m, .int .u64 x, .slice A l.length c] := by cases ca; simp_all
  exact spells n m x A c l W (wf_i64 hn) (wf_i64 hm) (wf_u64 hx) hC hlc (gBytes_in hl)
end Go.Proofs.Ytgngpbcbnfmoiaa.SpellsW
