/- A run of up to 64 wrong bits changes the sum crc. -/
import Derived.Test.YtgngpbcbnfmoiaaSumW
import Derived.Test.YtgngpbcbnfmoiaaCrcM
namespace Go.Proofs.Ytgngpbcbnfmoiaa.CrcB
open Go.Proofs.Ytgngpbcbnfmoiaa.PA Go.Proofs.Ytgngpbcbnfmoiaa.CrcM

def byteBits (c : Nat) : List Bool := (List.range 8).map fun e => c.testBit (7 - e)
theorem byteBits_val : ∀ c : Fin 256, valB (byteBits c.1) = c.1 := by decide +kernel
theorem tab_eq : ∀ h : Fin 16, Tn 4 (h.1 * 1152921504606846976) = crcAt h.1 := by decide +kernel

theorem split_top (h y : Nat) (hy : y < 1152921504606846976) : (h * 1152921504606846976) ^^^ y = h * 1152921504606846976 + y := by
  apply Nat.eq_of_testBit_eq
  intro i
  rw [Nat.testBit_xor, show h * 1152921504606846976 = 2 ^ 60 * h from by omega, Nat.testBit_two_pow_mul, Nat.testBit_two_pow_mul_add _ hy]
  by_cases hi : i < 60
  · simp [hi, show ¬ i ≥ 60 from by omega]
  · have : y.testBit i = false := Nat.testBit_lt_two_pow (Nat.lt_of_lt_of_le hy (Nat.pow_le_pow_right (n := 2) (by decide) (show 60 ≤ i by omega)))
    simp [hi, show i ≥ 60 from by omega, this]

theorem crc4_eq (y : Nat) (hy : y < 18446744073709551616) : crc4 y = Tn 4 y := by
  have h := split_top (y / 1152921504606846976) (y % 1152921504606846976) (Nat.mod_lt _ (by decide))
  have e : y = (y / 1152921504606846976 * 1152921504606846976) ^^^ (y % 1152921504606846976) := by rw [h]; omega
  have h1 := tab_eq ⟨y / 1152921504606846976, by omega⟩
  simp only at h1
  have h2 : Tn 4 (y % 1152921504606846976) = y % 1152921504606846976 * 16 := Tn_small 4 _ (by omega)
  conv => rhs; rw [e]
  rw [Tn_xor, h1, h2]
  unfold crc4
  rw [Nat.xor_comm, show y * 16 % 18446744073709551616 = y % 1152921504606846976 * 16 from by omega]

theorem crcB_eq (r c : Nat) (hr : r < 18446744073709551616) (hc : c < 256) : crcB r c = F r (byteBits c) := by
  have hl : (byteBits c).length = 8 := by simp [byteBits]
  have hv := byteBits_val ⟨c, hc⟩
  simp only at hv
  have hx : r ^^^ (c * 72057594037927936) < 2 ^ 64 := Nat.xor_lt_two_pow hr (by omega)
  rw [F_eq _ _ (by omega), hl]
  unfold X
  rw [hl, hv, show 2 ^ (64 - 8) = 72057594037927936 from rfl]
  unfold crcB
  rw [crc4_eq _ (crc4_lt _), crc4_eq _ hx, ← Tn_add]

def bitsL (l : List Int) : List Bool := l.flatMap fun c => byteBits c.toNat
def inB (l : List Int) : Prop := ∀ c ∈ l, 0 ≤ c ∧ c < 256

theorem foldl_bits (l : List Int) (r : Nat) (hr : r < 18446744073709551616) (h : inB l) : l.foldl (fun r c => crcB r c.toNat) r = F r (bitsL l) := by
  induction l generalizing r with
  | nil => rfl
  | cons c l ih =>
    have hc := h c (List.mem_cons_self ..)
    rw [List.foldl_cons, ih _ (crcB_lt _ _) (fun x hx => h x (List.mem_cons_of_mem _ hx)), crcB_eq r _ hr (by omega)]
    simp only [bitsL, List.flatMap_cons, F_append]
theorem crc_bits (l : List Int) (h : inB l) : crc l = F 18446744073709551615 (bitsL l) := foldl_bits l _ (by decide) h

theorem bitsL_length (l : List Int) : (bitsL l).length = 8 * l.length := by
  induction l with
  | nil => rfl
  | cons c l ih =>
    simp only [bitsL, List.flatMap_cons, List.length_append, List.length_cons] at ih ⊢
    rw [ih]
    simp [byteBits]
    omega
theorem bitsL_get (l : List Int) (i : Nat) (h : i < 8 * l.length) : (bitsL l)[i]? = some ((l.getD (i / 8) 0).toNat.testBit (7 - i % 8)) := by
  induction l generalizing i with
  | nil => simp at h
  | cons c l ih =>
    have hl : (byteBits c.toNat).length = 8 := by simp [byteBits]
    simp only [bitsL, List.flatMap_cons]
    by_cases hi : i < 8
    · rw [List.getElem?_append_left (by omega)]
      have e1 : i / 8 = 0 := by omega
      have e2 : i % 8 = i := by omega
      rw [e1, e2]
      simp [byteBits, hi]
    · rw [List.getElem?_append_right (by omega), hl]
      have := ih (i - 8) (by simp at h; omega)
      simp only [bitsL] at this
      rw [this]
      have e1 : i / 8 = (i - 8) / 8 + 1 := by omega
      have e2 : (i - 8) % 8 = i % 8 := by omega
      rw [e1, e2]
      simp

/-- Bit i of what is turned. -/
def W (at_ x i : Nat) : Bool := decide (at_ ≤ i) && decide (i < at_ + 64) && x.testBit (63 - (i - at_))

theorem all_false (n at_ x : Nat) (h : F 0 ((List.range n).map (W at_ x)) = 0) : ∀ i, i < n → W at_ x i = false := by
  have hlen : ((List.range n).map (W at_ x)).length = n := by simp
  have hget : ∀ i, i < n → ((List.range n).map (W at_ x))[i]? = some (W at_ x i) := fun i hi => by simp [hi]
  have hsplit : (List.range n).map (W at_ x) = List.replicate (min at_ n) false ++ (((List.range n).map (W at_ x)).drop (min at_ n)).take 64 ++ List.replicate (n - min at_ n - 64) false := by
    apply List.ext_getElem?
    intro i
    by_cases hi : i < n
    · rw [hget i hi]
      by_cases h1 : i < min at_ n
      · rw [List.append_assoc, List.getElem?_append_left (by simpa using h1), List.getElem?_replicate, if_pos h1]
        simp [W, show ¬ at_ ≤ i from by omega]
      · have hmin : min at_ n = at_ := by omega
        rw [hmin]
        by_cases h2 : i < at_ + 64
        · rw [List.getElem?_append_left (by simp; omega), List.getElem?_append_right (by simp; omega), List.length_replicate, List.getElem?_take_of_lt (by omega), List.getElem?_drop,
            show at_ + (i - at_) = i from by omega, hget i hi]
        · rw [List.getElem?_append_right (by simp; omega), List.getElem?_replicate, if_pos (by simp; omega)]
          simp [W, h2]
    · rw [List.getElem?_eq_none (by omega), List.getElem?_eq_none (by simp; omega)]
  intro i hi
  by_cases h1 : at_ ≤ i ∧ i < at_ + 64
  · have hmin : min at_ n = at_ := by omega
    rw [hsplit, hmin] at h
    refine F_window _ _ _ (by rw [List.length_take]; omega) h _ (List.mem_of_getElem? (i := i - at_) ?_)
    rw [List.getElem?_take_of_lt (by omega), List.getElem?_drop, show at_ + (i - at_) = i from by omega, hget i hi]
  · unfold W
    rcases Nat.lt_or_ge i at_ with h2 | h2
    · simp [show ¬ at_ ≤ i from by omega]
    · simp [show ¬ i < at_ + 64 from by omega]

/-- c is t with the bits of x turned from bit at_ on. -/
structure Turned (t c : List Int) (at_ x k : Nat) : Prop where
  len : c.length = t.length
  inc : inB c
  bit : ∀ j, j < t.length → ∀ e, e < 8 → (c.getD j 0).toNat.testBit (7 - e) = ((t.getD j 0).toNat.testBit (7 - e) ^^ (W at_ x (8 * j + e) && decide (8 * j + e < at_ + k)))

theorem Turned.bits {t c : List Int} {at_ x : Nat} (h : Turned t c at_ x 64) : bitsL c = List.zipWith (fun a b => a ^^ b) (bitsL t) ((List.range (8 * t.length)).map (W at_ x)) := by
  apply List.ext_getElem?
  intro i
  have hl := h.len
  by_cases hi : i < 8 * t.length
  · have h1 := bitsL_get c i (by omega)
    have h2 := bitsL_get t i hi
    have hb := h.bit (i / 8) (by omega) (i % 8) (by omega)
    rw [show 8 * (i / 8) + i % 8 = i from by omega] at hb
    rw [h1, List.getElem?_zipWith, h2]
    simp only [List.getElem?_map, List.getElem?_range hi, Option.map_some]
    rw [hb]
    by_cases hw : i < at_ + 64
    · simp [hw]
    · simp [W, hw]
  · rw [List.getElem?_eq_none (by rw [bitsL_length]; omega), List.getElem?_eq_none (by simp [bitsL_length]; omega)]

theorem eq_of_bits {t c : List Int} (ht : inB t) (hc : inB c) (hl : c.length = t.length) (h : ∀ j, j < t.length → ∀ e, e < 8 → (c.getD j 0).toNat.testBit (7 - e) = (t.getD j 0).toNat.testBit (7 - e)) : c = t := by
  apply List.ext_getElem hl
  intro j h1 h2
  have a := hc _ (List.getElem_mem h1)
  have b := ht _ (List.getElem_mem h2)
  have e : c[j].toNat = t[j].toNat := by
    apply Nat.eq_of_testBit_eq
    intro i
    by_cases hi : i < 8
    · have := h j h2 (7 - i) (by omega)
      rw [show 7 - (7 - i) = i from by omega] at this
      simpa [List.getD_eq_getElem?_getD, List.getElem?_eq_getElem h1, List.getElem?_eq_getElem h2] using this
    · have hp : (256 : Nat) ≤ 2 ^ i := Nat.pow_le_pow_right (n := 2) (j := i) (by decide) (show 8 ≤ i by omega)
      rw [Nat.testBit_lt_two_pow (by omega), Nat.testBit_lt_two_pow (by omega)]
  omega

/-- The run of wrong bits is told. -/
theorem burst {t c : List Int} {at_ x : Nat} (ht : inB t) (h : Turned t c at_ x 64) : c = t ↔ crc c = crc t := by
  constructor
  · rintro rfl; rfl
  · intro he
    rw [crc_bits c h.inc, crc_bits t ht, h.bits] at he
    have h1 := F_xor 18446744073709551615 0 (bitsL t) ((List.range (8 * t.length)).map (W at_ x)) (by simp [bitsL_length])
    rw [Nat.xor_zero, he] at h1
    have h2 : F 0 ((List.range (8 * t.length)).map (W at_ x)) = 0 := by
      have : F 18446744073709551615 (bitsL t) ^^^ F 18446744073709551615 (bitsL t) = F 18446744073709551615 (bitsL t) ^^^ (F 18446744073709551615 (bitsL t) ^^^ F 0 ((List.range (8 * t.length)).map (W at_ x))) := by rw [← h1]
      rw [← Nat.xor_assoc, Nat.xor_self, Nat.zero_xor] at this
      exact this.symm
    have h3 := all_false _ _ _ h2
    refine eq_of_bits ht h.inc h.len (fun j hj e he => ?_)
    rw [h.bit j hj e he, h3 (8 * j + e) (by omega)]
    simp

/-- The sum's own bytes, the highest first. -/
def sumBytes (s : Nat) (k : Nat) : List Int := (List.range k).map fun i => ((s / 256 ^ (7 - i) % 256 : Nat) : Int)

theorem valB_append (a b : List Bool) : valB (a ++ b) = valB a * 2 ^ b.length + valB b := by
  induction a with
  | nil => simp [valB]
  | cons x a ih =>
    simp only [List.cons_append, valB, ih, List.length_append, Nat.pow_add, Nat.add_mul]
    rw [Nat.mul_assoc, Nat.add_assoc]

theorem sumBytes_in (s k : Nat) : inB (sumBytes s k) := by
  intro c hc
  simp only [sumBytes, List.mem_map] at hc
  obtain ⟨i, _, rfl⟩ := hc
  omega

/-- A text with its sum behind it has the sum 0. -/
theorem crc_self (t : List Int) (ht : inB t) : crc (t ++ sumBytes (crc t) 8) = 0 := by
  have hb := sumBytes_in (crc t) 8
  have hin : inB (t ++ sumBytes (crc t) 8) := fun c hc => (List.mem_append.1 hc).elim (ht c) (hb c)
  rw [crc_bits _ hin]
  have e : bitsL (t ++ sumBytes (crc t) 8) = bitsL t ++ bitsL (sumBytes (crc t) 8) := by simp [bitsL]
  have hlt := crc_lt t
  rw [e, F_append, ← crc_bits t ht]
  refine F_self _ _ (by rw [bitsL_length]; simp [sumBytes]) ?_
  generalize crc t = s at hlt ⊢
  have hv : ∀ m, m < 256 → valB (byteBits m) = m := fun m hm => byteBits_val ⟨m, hm⟩
  have hl : ∀ m, (byteBits m).length = 8 := fun m => by simp [byteBits]
  simp only [sumBytes, bitsL, List.range, List.range.loop, List.map_cons, List.map_nil, List.flatMap_cons, List.flatMap_nil, List.append_nil, Int.toNat_natCast, valB_append, List.length_append, hl]
  rw [hv _ (Nat.mod_lt _ (by decide)), hv _ (Nat.mod_lt _ (by decide)), hv _ (Nat.mod_lt _ (by decide)), hv _ (Nat.mod_lt _ (by decide)), hv _ (Nat.mod_lt _ (by decide)), hv _ (Nat.mod_lt _ (by decide)), hv _ (Nat.mod_lt _ (by decide)), hv _ (Nat.mod_lt _ (by decide))]
  simp
  omega

end Go.Proofs.Ytgngpbcbnfmoiaa.CrcB
