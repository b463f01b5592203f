/- WordBurst over numbers and lists: true at every input that fits. -/
import Derived.Test.YtgngpbcbnfmoiaaPAx5
import Derived.Test.YtgngpbcbnfmoiaaCrcB
import Derived.Test.YtgngpbcbnfmoiaaNumA
import Derived.Laws.Bits64
namespace Go.Proofs.Ytgngpbcbnfmoiaa.BurstP
open Go Go.RowKit Go.Proofs.YtgngpbcbnfmoiaaW.PrintWords Go.Proofs.YtgngpbcbnfmoiaaW.PrintLast Go.Proofs.YtgngpbcbnfmoiaaW.PrintMore Go.Proofs.Ytgngpbcbnfmoiaa.PA Go.Proofs.Ytgngpbcbnfmoiaa.CrcB Go.Proofs.Ytgngpbcbnfmoiaa.CrcM

theorem xor_u8_nat (a b : Nat) (ha : a < 256) (hb : b < 256) : bits .xor .u8 (a : Int) (b : Int) = ((a ^^^ b : Nat) : Int) := by
  have hx : a ^^^ b < 2 ^ 8 := Nat.xor_lt_two_pow (by omega) (by omega)
  have h1 : (BitVec.ofInt 8 (a : Int)).toNat = a := by
    rw [BitVec.ofInt_natCast, BitVec.toNat_ofNat]; exact Nat.mod_eq_of_lt (by omega)
  have h2 : (BitVec.ofInt 8 (b : Int)).toNat = b := by
    rw [BitVec.ofInt_natCast, BitVec.toNat_ofNat]; exact Nat.mod_eq_of_lt (by omega)
  show IntKind.u8.wrap ((BitVec.ofInt 8 (a : Int) ^^^ BitVec.ofInt 8 (b : Int)).toNat : Int) = _
  rw [BitVec.toNat_xor, h1, h2, IntKind.wrap_u8]
  omega

theorem shr_u64 (x n : Nat) (hn : n ≤ 64) : shr .u64 (x : Int) (n : Int) = ((x / 2 ^ n : Nat) : Int) := by
  unfold shr
  rw [Int.toNat_natCast, Nat.min_eq_left (show n ≤ IntKind.u64.bits from hn)]
  simp
theorem shr_u8 (x n : Nat) (hn : n ≤ 8) : shr .u8 (x : Int) (n : Int) = ((x / 2 ^ n : Nat) : Int) := by
  unfold shr
  rw [Int.toNat_natCast, Nat.min_eq_left (show n ≤ IntKind.u8.bits from hn)]
  simp

theorem bit_test (x n : Nat) (hx : x < 18446744073709551616) (hn : n ≤ 64) : (Go.bits .and .u64 (shr .u64 (x : Int) (n : Int)) 1 = 1) ↔ x.testBit n = true := by
  have hlt : x / 2 ^ n < 18446744073709551616 := Nat.lt_of_le_of_lt (Nat.div_le_self _ _) hx
  rw [shr_u64 x n hn, Nat.testBit_eq_decide_div_mod_eq]
  generalize x / 2 ^ n = q at hlt ⊢
  rw [show (1 : Int) = 2 ^ 1 - 1 from rfl, NumA.and_u64 1 (by decide) _ (by omega) (by omega)]
  simp
  omega

theorem set_at {l : List Int} {i : Nat} {v : Int} (j : Nat) (h : i < l.length) : (l.set i v).getD j 0 = if j = i then v else l.getD j 0 := by
  rw [List.getD_eq_getElem?_getD, List.getD_eq_getElem?_getD, List.getElem?_set]
  by_cases hj : j = i
  · subst hj; simp [h]
  · rw [if_neg (fun e => hj e.symm), if_neg hj]

theorem flip_bit (m e f : Nat) (he : e < 8) (hf : f < 8) : (m ^^^ (128 / 2 ^ e)).testBit (7 - f) = (m.testBit (7 - f) ^^ decide (f = e)) := by
  have h : 128 / 2 ^ e = 2 ^ (7 - e) := by
    have : ∀ e : Fin 8, 128 / 2 ^ e.1 = 2 ^ (7 - e.1) := by decide
    exact this ⟨e, he⟩
  rw [Nat.testBit_xor, h, Nat.testBit_two_pow]
  congr 1
  rw [decide_eq_decide]
  omega

theorem turned_ev (t : List Int) (hn : t.length ≤ 140737488355328) (at_ x : Nat) (hat : at_ ≤ 2251799813685248) (hx : x < 18446744073709551616) (d : Nat) : ∀ (i : Nat) (c : List Int), i + d = 64 → Turned t c at_ x i →
    ∃ c', Turned t c' at_ x 64 ∧ Ev (fun k => larderlaw1_turned.l0 k at_ x c i) c' := by
  induction d with
  | zero =>
    intro i c hi hT
    obtain rfl : i = 64 := by omega
    refine ⟨c, hT, Ev.step (f := fun _ => some c) (fun k => ?_) (Ev.now c)⟩
    simp only [larderlaw1_turned.l0]
    rw [if_neg (by omega)]
  | succ d ih =>
    intro i c hi hT
    have hw1 : wrap64 (63 - (i : Int)) = ((63 - i : Nat) : Int) := by unfold wrap64; omega
    have hw2 : wrap64 ((at_ : Int) + i) = ((at_ + i : Nat) : Int) := by unfold wrap64; omega
    have hw3 : wrap64 ((i : Int) + 1) = ((i + 1 : Nat) : Int) := by unfold wrap64; omega
    have hcl := hT.len
    have hw4 : wrap64 (8 * (c.length : Int)) = ((8 * c.length : Nat) : Int) := by unfold wrap64; omega
    have hw5 : wrap64 (Int.tdiv ((at_ + i : Nat) : Int) 8) = (((at_ + i) / 8 : Nat) : Int) := by
      rw [Int.tdiv_eq_ediv_of_nonneg (by omega)]; unfold wrap64; omega
    have hw6 : Int.tmod ((at_ + i : Nat) : Int) 8 = (((at_ + i) % 8 : Nat) : Int) := by
      rw [Int.tmod_eq_emod_of_nonneg (by omega)]; omega
    by_cases hb : x.testBit (63 - i) = true
    · by_cases hlt : at_ + i < 8 * c.length
      · -- the bit is turned
        have hj : (at_ + i) / 8 < c.length := by omega
        have hcb := hT.inc _ (List.getElem_mem hj)
        have hrd : rd c (((at_ + i) / 8 : Nat) : Int) = ((c[(at_ + i) / 8].toNat : Nat) : Int) := by
          unfold rd; rw [Int.toNat_natCast, List.getD_eq_getElem?_getD, List.getElem?_eq_getElem hj, Option.getD_some]; omega
        have h128 : (128 : Nat) / 2 ^ ((at_ + i) % 8) < 256 := Nat.lt_of_le_of_lt (Nat.div_le_self _ _) (by decide)
        have hv : Go.bits .xor .u8 (rd c (((at_ + i) / 8 : Nat) : Int)) (shr .u8 128 (((at_ + i) % 8 : Nat) : Int)) = ((c[(at_ + i) / 8].toNat ^^^ (128 / 2 ^ ((at_ + i) % 8)) : Nat) : Int) := by
          rw [hrd, show (128 : Int) = ((128 : Nat) : Int) from rfl, shr_u8 128 _ (by omega), xor_u8_nat _ _ (by omega) h128]
        have hxlt : c[(at_ + i) / 8].toNat ^^^ (128 / 2 ^ ((at_ + i) % 8)) < 2 ^ 8 := Nat.xor_lt_two_pow (by omega) (by omega)
        obtain ⟨c', h1, h2⟩ := ih (i + 1) (c.set ((at_ + i) / 8) ((c[(at_ + i) / 8].toNat ^^^ (128 / 2 ^ ((at_ + i) % 8)) : Nat) : Int)) (by omega) (by
          refine ⟨by simpa using hcl, ?_, ?_⟩
          · intro y hy
            rcases List.mem_or_eq_of_mem_set hy with hy | rfl
            · exact hT.inc y hy
            · omega
          · intro j hj' e he
            rw [set_at j hj]
            by_cases hje : j = (at_ + i) / 8
            · subst hje
              rw [if_pos rfl, Int.toNat_natCast, flip_bit _ _ _ (by omega) he]
              have hb0 := hT.bit ((at_ + i) / 8) hj' e he
              rw [List.getD_eq_getElem?_getD, List.getElem?_eq_getElem hj, Option.getD_some] at hb0
              rw [hb0]
              by_cases hee : e = (at_ + i) % 8
              · have e1 : 8 * ((at_ + i) / 8) + e = at_ + i := by omega
                rw [e1]
                have hW : W at_ x (at_ + i) = true := by
                  unfold W
                  rw [show at_ + i - at_ = i from by omega, hb]
                  simp; omega
                simp [hW, hee]
              · have : decide (8 * ((at_ + i) / 8) + e < at_ + i) = decide (8 * ((at_ + i) / 8) + e < at_ + (i + 1)) := by
                  rw [decide_eq_decide]; omega
                simp [hee, this]
            · rw [if_neg hje, hT.bit j hj' e he]
              have : decide (8 * j + e < at_ + i) = decide (8 * j + e < at_ + (i + 1)) := by
                rw [decide_eq_decide]; omega
              rw [this])
        refine ⟨c', h1, Ev.step (f := fun k => larderlaw1_turned.l0 k at_ x (c.set ((at_ + i) / 8) ((c[(at_ + i) / 8].toNat ^^^ (128 / 2 ^ ((at_ + i) % 8)) : Nat) : Int)) ((i + 1 : Nat) : Int)) (fun k => ?_) h2⟩
        simp only [larderlaw1_turned.l0]
        rw [if_pos (by omega), hw1, if_pos (by omega), if_pos ((bit_test x (63 - i) hx (by omega)).2 hb), hw2, if_pos (by omega), hw4, if_pos (by omega), hw5, if_pos (by omega), if_pos (by omega), hw6, if_pos (by omega), hv, hw3, Int.toNat_natCast]
      · obtain ⟨c', h1, h2⟩ := ih (i + 1) c (by omega) ⟨hcl, hT.inc, fun j hj e he => by
          rw [hT.bit j hj e he]
          have : decide (8 * j + e < at_ + i) = decide (8 * j + e < at_ + (i + 1)) := by
            rw [decide_eq_decide]; omega
          rw [this]⟩
        refine ⟨c', h1, Ev.step (f := fun k => larderlaw1_turned.l0 k at_ x c ((i + 1 : Nat) : Int)) (fun k => ?_) h2⟩
        simp only [larderlaw1_turned.l0]
        rw [if_pos (by omega), hw1, if_pos (by omega), if_pos ((bit_test x (63 - i) hx (by omega)).2 hb), hw2, if_pos (by omega), hw4, if_neg (by omega), hw3]
    · obtain ⟨c', h1, h2⟩ := ih (i + 1) c (by omega) ⟨hcl, hT.inc, fun j hj e he => by
        rw [hT.bit j hj e he]
        by_cases hq : 8 * j + e = at_ + i
        · have hW : W at_ x (8 * j + e) = false := by
            unfold W
            rw [hq, show at_ + i - at_ = i from by omega, Bool.eq_false_iff.2 hb]
            simp
          simp [hW]
        · have : decide (8 * j + e < at_ + i) = decide (8 * j + e < at_ + (i + 1)) := by
            rw [decide_eq_decide]; omega
          rw [this]⟩
      refine ⟨c', h1, Ev.step (f := fun k => larderlaw1_turned.l0 k at_ x c ((i + 1 : Nat) : Int)) (fun k => ?_) h2⟩
      simp only [larderlaw1_turned.l0]
      rw [if_pos (by omega), hw1, if_pos (by omega), if_neg (fun h => hb ((bit_test x (63 - i) hx (by omega)).1 h)), hw3]

theorem copy_some (t : List Int) (hn : t.length < 140737488355328) : larderlaw1_copyBytes.f t = some t := by
  unfold larderlaw1_copyBytes.f
  rw [if_pos (by simpa using hn)]
  rfl

theorem turned_f (t : List Int) (ht : inB t) (hn : t.length < 140737488355328) (at_ x : Nat) (hat : at_ ≤ 2251799813685248) (hx : x < 18446744073709551616) :
    ∃ c, Turned t c at_ x 64 ∧ Ev (fun k => larderlaw1_turned.f k t at_ x) c := by
  obtain ⟨c, h1, h2⟩ := turned_ev t (by omega) at_ x hat hx 64 0 t rfl ⟨rfl, ht, fun j hj e he => by
    by_cases h : 8 * j + e < at_
    · simp [W, show ¬ at_ ≤ 8 * j + e from by omega]
    · simp [h]⟩
  refine ⟨c, h1, Ev.congr (f := fun k => larderlaw1_turned.l0 k at_ x t ((0 : Nat) : Int)) (fun k => ?_) h2⟩
  unfold larderlaw1_turned.f
  rw [copy_some t hn]
  rfl

theorem sum_some (t : List Int) (ht : inB t) : word_Sum.f t = some ((crc t : Nat) : Int) := by
  exact if_pos ht

theorem str_eq (a b : List Int) (ha : inB a) (hb : inB b) : ((strOfNums a).toList == (strOfNums b).toList) = decide (a = b) := by
  have e : ∀ l : List Int, (strOfNums l).toList = l.map fun x => (x.toNat.toUInt8) := by
    intro l
    simp [strOfNums]
  rw [e, e, Bool.eq_iff_iff, beq_iff_eq, decide_eq_true_iff]
  constructor
  · intro h
    have hl : a.length = b.length := by simpa using congrArg List.length h
    apply List.ext_getElem hl
    intro i h1 h2
    have h3 := congrArg (fun l => l[i]?) h
    simp only [List.getElem?_map, List.getElem?_eq_getElem h1, List.getElem?_eq_getElem h2, Option.map_some, Option.some.injEq] at h3
    have h4 := ha _ (List.getElem_mem h1)
    have h5 := hb _ (List.getElem_mem h2)
    have h6 := congrArg UInt8.toNat h3
    simp at h6
    omega
  · rintro rfl; rfl

theorem same_some (a b : List Int) (ha : inB a) (hb : inB b) : larderlaw1_sameBytes.f a b = some (decide (a = b)) := by
  unfold larderlaw1_sameBytes.f
  rw [str_eq a b ha hb]

theorem eq_ok {c l : List Int} {m n : Nat} (h : c = l ↔ m = n) : ¬ (decide (c = l) != ((m : Int) == (n : Int))) = true := by
  by_cases e : c = l
  · have := h.1 e
    simp [e, this]
  · have : m ≠ n := fun h' => e (h.2 h')
    simp [e]
    omega
theorem eq_ok0 {c l : List Int} {m : Nat} (h : c = l ↔ m = 0) : some (decide (c = l) == ((m : Int) == (0 : Int))) = some true := by
  by_cases e : c = l
  · have := h.1 e
    simp [e, this]
  · have : m ≠ 0 := fun h' => e (h.2 h')
    simp [e]
    omega

theorem append_ev (t : List Int) (hn : t.length + 8 < 140737488355328) (s : Nat) (a x : Int) (r : Bool) (l0 : List Int)
    (h : Ev (fun k => larderlaw1_WordBurst.l0 k s (t ++ sumBytes s 8) 8 l0 a x) r) (d : Nat) : ∀ i : Nat, i + d = 8 → Ev (fun k => larderlaw1_WordBurst.l0 k s (t ++ sumBytes s i) i l0 a x) r := by
  induction d with
  | zero =>
    intro i hi
    obtain rfl : i = 8 := by omega
    exact h
  | succ d ih =>
    intro i hi
    have hw1 : wrap64 (8 * (i : Int)) = ((8 * i : Nat) : Int) := by unfold wrap64; omega
    have hw2 : wrap64 (56 - ((8 * i : Nat) : Int)) = ((8 * (7 - i) : Nat) : Int) := by unfold wrap64; omega
    have hw3 : wrap64 ((i : Int) + 1) = ((i + 1 : Nat) : Int) := by unfold wrap64; omega
    refine Ev.step (f := fun k => larderlaw1_WordBurst.l0 k s (t ++ sumBytes s (i + 1)) ((i + 1 : Nat) : Int) l0 a x) (fun k => ?_) (ih (i + 1) (by omega))
    simp only [larderlaw1_WordBurst.l0]
    have hsb : (sumBytes s i).length = i := by simp [sumBytes]
    have hv : (shr .u64 (s : Int) ((8 * (7 - i) : Nat) : Int)) % 256 = ((s / 256 ^ (7 - i) % 256 : Nat) : Int) := by
      rw [shr_u64 s _ (by omega), Nat.pow_mul]
      simp
    rw [if_pos (by omega), hw1, hw2, if_pos (by omega), if_pos (by rw [List.length_append, hsb]; omega), hv, hw3, List.append_assoc]
    congr 2
    simp [sumBytes, List.range_succ]

theorem WordBurst (l : List Int) (a x : Int) (hl : inB l) (hn : l.length ≤ 140737488351232) (ha : -9223372036854775808 ≤ a ∧ a < 9223372036854775808) (hx : 0 ≤ x ∧ x < 18446744073709551616) :
    ∃ k, larderlaw1_WordBurst.f k l a x = some true := by
  apply Ev.rounds
  obtain ⟨X, rfl⟩ := Int.eq_ofNat_of_zero_le hx.1
  have hw1 : wrap64 (8 * (l.length : Int)) = ((8 * l.length : Nat) : Int) := by unfold wrap64; omega
  have hw2 : wrap64 (((8 * l.length : Nat) : Int) + 64) = ((8 * l.length + 64 : Nat) : Int) := by unfold wrap64; omega
  have skip : Ev (fun k => larderlaw1_WordBurst.j0 k true l a (X : Int)) true := by
    refine Ev.step (f := fun _ => some true) (fun k => ?_) (Ev.now true)
    simp only [larderlaw1_WordBurst.j0, if_true]
  by_cases h0 : a < 0
  · refine Ev.congr (f := fun k => larderlaw1_WordBurst.j0 k true l a (X : Int)) (fun k => ?_) skip
    unfold larderlaw1_WordBurst.f
    rw [if_pos h0]
  by_cases h1 : a > ((8 * l.length + 64 : Nat) : Int)
  · refine Ev.congr (f := fun k => larderlaw1_WordBurst.j0 k true l a (X : Int)) (fun k => ?_) skip
    unfold larderlaw1_WordBurst.f
    rw [if_neg h0, hw1, hw2, decide_eq_true h1]
  refine Ev.congr (f := fun k => larderlaw1_WordBurst.j0 k false l a (X : Int)) (fun k => ?_) ?_
  · unfold larderlaw1_WordBurst.f
    rw [if_neg h0, hw1, hw2, decide_eq_false h1]
  obtain ⟨A, rfl⟩ := Int.eq_ofNat_of_zero_le (show 0 ≤ a by omega)
  have hA : A ≤ 2251799813685248 := by omega
  obtain ⟨c, hc, hcE⟩ := turned_f l hl (by omega) A X hA (by omega)
  have hself := crc_self l hl
  have hsb := sumBytes_in (crc l) 8
  have hin : inB (l ++ sumBytes (crc l) 8) := fun c hc => (List.mem_append.1 hc).elim (hl c) (hsb c)
  have hlen : (l ++ sumBytes (crc l) 8).length = l.length + 8 := by simp [sumBytes]
  obtain ⟨d, hd, hdE⟩ := turned_f (l ++ sumBytes (crc l) 8) hin (by omega) A X hA (by omega)
  have b1 := burst hl hc
  have b2 := burst hin hd
  rw [hself] at b2
  refine Ev.step (fun k => by simp only [larderlaw1_WordBurst.j0]; rw [if_neg (by simp), sum_some l hl, Option.bind_some]) ?_
  refine Ev.bind hcE ?_
  refine Ev.congr (fun k => by rw [same_some c l hc.inc hl, Option.bind_some, sum_some c hc.inc, Option.bind_some, if_neg (eq_ok b1), copy_some l (by omega), Option.bind_some]) ?_
  have := append_ev l (by omega) (crc l) (A : Int) (X : Int) true l ?_ 8 0 rfl
  · simpa [sumBytes] using this
  refine Ev.step (fun k => by simp only [larderlaw1_WordBurst.l0]; rw [if_neg (by omega)]) ?_
  refine Ev.bind hdE ?_
  refine Ev.congr (fun k => by rw [sum_some _ hin, Option.bind_some, hself, if_pos (by rfl), same_some d _ hd.inc hin, Option.bind_some, sum_some d hd.inc, Option.bind_some, eq_ok0 b2]) (Ev.now true)

end Go.Proofs.Ytgngpbcbnfmoiaa.BurstP
