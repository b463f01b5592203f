/- What the functions of package word compute, in plain words: Words, Pack, Unpack, Split. -/
import Derived.Test.YtgngpbcbnfmoiaaPAx2
import Derived.Test.YtgngpbcbnfmoiaaNumA
import Derived.Test.YtgngpbcbnfmoiaaHeadW
namespace Go.Proofs.Ytgngpbcbnfmoiaa.WordS
open Go Go.RowKit Go.Proofs.YtgngpbcbnfmoiaaW.PrintWords Go.Proofs.YtgngpbcbnfmoiaaW.PrintLast Go.Proofs.YtgngpbcbnfmoiaaW.PrintMore Go.Proofs.Ytgngpbcbnfmoiaa.PA Go.Proofs.Ytgngpbcbnfmoiaa.NumA

def inB (l : List Int) : Prop := ∀ c ∈ l, 0 ≤ c ∧ c < 256
def inW (l : List Int) : Prop := ∀ c ∈ l, 0 ≤ c ∧ c < 18446744073709551616

theorem words_some (n : Int) (h : -9223372036854775808 ≤ n ∧ n < 9223372036854775808) : word_Words.f n = some (if n < 1 then 0 else (n - 1) / 8 + 1) := by
  unfold word_Words.f
  by_cases h1 : n < 1
  · rw [if_pos h1, if_pos h1]
  · rw [if_neg h1, if_neg h1]
    have e1 : wrap64 (n - 1) = n - 1 := by unfold wrap64; omega
    rw [e1, Int.tdiv_eq_ediv_of_nonneg (by omega)]
    have e2 : wrap64 ((n - 1) / 8) = (n - 1) / 8 := by unfold wrap64; omega
    have e3 : wrap64 ((n - 1) / 8 + 1) = (n - 1) / 8 + 1 := by unfold wrap64; omega
    rw [e2, e3]
theorem words_nat (n : Nat) (h : n < 9223372036854775808) : word_Words.f (n : Int) = some (((n + 7) / 8 : Nat) : Int) := by
  rw [words_some _ (by omega)]
  by_cases h1 : (n : Int) < 1
  · rw [if_pos h1]; congr 1; omega
  · rw [if_neg h1]; congr 1; omega

/-- Word j of the first m bytes. -/
def wordOf (l : List Int) (m j : Nat) : Int := valN (((l.take m).drop (8 * j)).take 8)
def pack (l : List Int) : List Int := (List.range ((l.length + 7) / 8)).map (wordOf l l.length)

theorem seg_get (l : List Int) (m j t : Nat) : (((l.take m).drop (8 * j)).take 8)[t]? = if t < 8 ∧ 8 * j + t < m then l[8 * j + t]? else none := by
  by_cases h1 : t < 8
  · rw [List.getElem?_take_of_lt h1, List.getElem?_drop]
    by_cases h2 : 8 * j + t < m
    · rw [List.getElem?_take_of_lt h2, if_pos ⟨h1, h2⟩]
    · rw [if_neg (by omega), List.getElem?_eq_none (by simp; omega)]
  · rw [if_neg (by omega), List.getElem?_eq_none (by simp; omega)]

theorem seg_in {l : List Int} (h : inB l) (m j : Nat) : ∀ b ∈ ((l.take m).drop (8 * j)).take 8, isB b := fun b hb => h b (List.mem_of_mem_take (List.mem_of_mem_drop (List.mem_of_mem_take hb)))

theorem seg_len (l : List Int) (m j : Nat) (hm : m ≤ l.length) : (((l.take m).drop (8 * j)).take 8).length = min 8 (m - 8 * j) := by
  simp; omega

theorem seg_snoc (l : List Int) (i : Nat) (hi : i < l.length) : ((l.take (i + 1)).drop (8 * (i / 8))).take 8 = ((l.take i).drop (8 * (i / 8))).take 8 ++ [l[i]] := by
  apply List.ext_getElem?
  intro t
  have hl := seg_len l i (i / 8) (by omega)
  rw [seg_get]
  by_cases h1 : t < i % 8
  · rw [if_pos (by omega), List.getElem?_append_left (by omega), seg_get, if_pos (by omega)]
  · by_cases h2 : t = i % 8
    · subst h2
      rw [if_pos (by omega), List.getElem?_append_right (by omega), hl, show i % 8 - min 8 (i - 8 * (i / 8)) = 0 from by omega, show 8 * (i / 8) + i % 8 = i from by omega, List.getElem?_eq_getElem hi]
      rfl
    · rw [if_neg (by omega), List.getElem?_eq_none (by simp only [List.length_append, hl, List.length_singleton]; omega)]

theorem seg_same (l : List Int) (i j : Nat) (hj : j ≠ i / 8) : ((l.take (i + 1)).drop (8 * j)).take 8 = ((l.take i).drop (8 * j)).take 8 := by
  apply List.ext_getElem?
  intro t
  rw [seg_get, seg_get]
  by_cases h1 : t < 8 ∧ 8 * j + t < i
  · rw [if_pos h1, if_pos (by omega)]
  · rw [if_neg h1, if_neg (by omega)]

theorem rd_get {l : List Int} {i : Nat} (h : i < l.length) : rd l (i : Int) = l[i] := by
  unfold rd
  rw [Int.toNat_natCast, List.getD_eq_getElem?_getD, List.getElem?_eq_getElem h, Option.getD_some]

theorem pow256_le (t : Nat) (h : t ≤ 8) : (256 : Int) ^ t ≤ 18446744073709551616 := by
  have : ∀ t : Fin 9, (256 : Int) ^ t.1 ≤ 18446744073709551616 := by decide
  exact this ⟨t, by omega⟩

theorem shl_byte (b : Int) (hb : 0 ≤ b ∧ b < 256) (t : Nat) (ht : t < 8) : shl .u64 (IntKind.u64.wrap b) ((8 * t : Nat) : Int) = b * 2 ^ (8 * t) := by
  unfold shl
  rw [Int.toNat_natCast, Nat.min_eq_left (show 8 * t ≤ IntKind.u64.bits by show 8 * t ≤ 64; omega), IntKind.wrap_u64, IntKind.wrap_u64, show b % 18446744073709551616 = b from by omega]
  have : ∀ t : Fin 8, ∀ b : Fin 256, ((b.1 : Nat) : Int) * 2 ^ (8 * t.1) < 18446744073709551616 := by decide +kernel
  have h := this ⟨t, ht⟩ ⟨b.toNat, by omega⟩
  simp only at h
  rw [show ((b.toNat : Nat) : Int) = b from by omega] at h
  have h0 : 0 ≤ b * 2 ^ (8 * t) := Int.mul_nonneg hb.1 (Int.pow_nonneg (by decide))
  omega

theorem wordOf_step (l : List Int) (hl : inB l) (i : Nat) (hi : i < l.length) : Go.bits .or .u64 (wordOf l i (i / 8)) (shl .u64 (IntKind.u64.wrap l[i]) ((8 * (i % 8) : Nat) : Int)) = wordOf l (i + 1) (i / 8) := by
  have hb := hl _ (List.getElem_mem hi)
  have hlen := seg_len l i (i / 8) (by omega)
  have hv := valN_bounds _ (seg_in hl i (i / 8))
  have hlen' : (((l.take i).drop (8 * (i / 8))).take 8).length = i % 8 := by omega
  rw [hlen'] at hv
  unfold wordOf
  rw [seg_snoc l i hi, valN_append, hlen', shl_byte _ hb _ (by omega)]
  generalize valN (List.take 8 (List.drop (8 * (i / 8)) (List.take i l))) = v at hv ⊢
  have hp := pow256_le (i % 8) (by omega)
  have hs : l[i] * 2 ^ (8 * (i % 8)) < 18446744073709551616 := by
    have : ∀ t : Fin 8, ∀ b : Fin 256, ((b.1 : Nat) : Int) * 2 ^ (8 * t.1) < 18446744073709551616 := by decide +kernel
    have h := this ⟨i % 8, by omega⟩ ⟨l[i].toNat, by omega⟩
    simp only at h
    rwa [show ((l[i].toNat : Nat) : Int) = l[i] from by omega] at h
  have hs0 : 0 ≤ l[i] * 2 ^ (8 * (i % 8)) := Int.mul_nonneg hb.1 (Int.pow_nonneg (by decide))
  rw [or_comm_u64 v _ hv.1 (by omega) hs0 hs, or_u64 (8 * (i % 8)) _ v hs0 (Int.mul_emod_left ..) hs hv.1 (by rw [pow256]; exact hv.2) (by omega)]
  rw [pow256, Int.mul_comm]
  simp only [valN]
  rw [Int.mul_zero, Int.add_zero]
  omega

/-- What Pack's words are behind i bytes. -/
def packed (l : List Int) (n i : Nat) : List Int := (List.range n).map (wordOf l i)

theorem packed_step (l : List Int) (n i : Nat) : packed l n (i + 1) = (packed l n i).set (i / 8) (wordOf l (i + 1) (i / 8)) := by
  apply List.ext_getElem?
  intro j
  rw [List.getElem?_set]
  by_cases hj : i / 8 = j
  · subst hj
    rw [if_pos rfl]
    by_cases hn : i / 8 < n
    · rw [if_pos (by simpa [packed] using hn)]
      simp [packed, hn]
    · rw [if_neg (by simpa [packed] using hn), List.getElem?_eq_none (by simp [packed]; omega)]
  · rw [if_neg hj]
    by_cases hn : j < n
    · simp only [packed, List.getElem?_map, List.getElem?_range hn, Option.map_some, wordOf]
      rw [seg_same l i j (fun e => hj e.symm)]
    · rw [List.getElem?_eq_none (by simp [packed]; omega), List.getElem?_eq_none (by simp [packed]; omega)]

theorem pack_ev (l : List Int) (hl : inB l) (hn : l.length < 9223372036854775808) (n : Nat) (hw : n = (l.length + 7) / 8) (d : Nat) : ∀ i : Nat, i + d = l.length → Ev (fun k => word_Pack.l0 k (packed l n i) l (l.length : Int) i) (pack l) := by
  induction d with
  | zero =>
    intro i hi
    obtain rfl : i = l.length := by omega
    refine Ev.step (fun k => by simp only [word_Pack.l0]; rw [if_neg (by omega)]) (Ev.congr (fun _ => rfl) (?_ : Ev (fun _ => some (packed l n l.length)) (pack l)))
    rw [show pack l = packed l n l.length from by rw [hw]; rfl]
    exact Ev.now _
  | succ d ih =>
    intro i hi
    have hi' : i < l.length := by omega
    have h1 : wrap64 (Int.tdiv (i : Int) 8) = ((i / 8 : Nat) : Int) := by rw [Int.tdiv_eq_ediv_of_nonneg (by omega)]; unfold wrap64; omega
    have h2 : wrap64 (8 * (Int.tmod (i : Int) 8)) = ((8 * (i % 8) : Nat) : Int) := by rw [Int.tmod_eq_emod_of_nonneg (by omega)]; unfold wrap64; omega
    have h3 : wrap64 ((i : Int) + 1) = ((i + 1 : Nat) : Int) := by unfold wrap64; omega
    have hpl : (packed l n i).length = n := by simp [packed]
    have hold : rd (packed l n i) ((i / 8 : Nat) : Int) = wordOf l i (i / 8) := by
      rw [rd_get (by rw [hpl]; omega)]
      simp [packed]
    refine Ev.step (f := fun k => word_Pack.l0 k (packed l n (i + 1)) l (l.length : Int) ((i + 1 : Nat) : Int)) (fun k => ?_) (ih (i + 1) (by omega))
    simp only [word_Pack.l0]
    rw [if_pos (by omega), if_pos (by omega), if_pos (by omega), h1, if_pos (by omega), if_pos (by rw [hpl]; omega), h2, if_pos (by omega), hold, rd_get hi', wordOf_step l hl i hi', h3, Int.toNat_natCast, ← packed_step]

theorem Pack (l : List Int) (hl : inB l) (hn : l.length ≤ 140737488355328) : Ev (fun k => word_Pack.f k l) (pack l) := by
  have h := pack_ev l hl (by omega) ((l.length + 7) / 8) rfl l.length 0 (by omega)
  refine Ev.congr (fun k => ?_) h
  unfold word_Pack.f
  rw [words_nat _ (by omega), Option.bind_some, if_pos (by omega), Int.toNat_natCast, if_pos (by omega)]
  congr 1
  apply List.ext_getElem?
  intro j
  by_cases hj : j < (l.length + 7) / 8
  · rw [List.getElem?_replicate, if_pos hj]
    simp [packed, hj, wordOf, valN]
  · rw [List.getElem?_eq_none (by simp; omega), List.getElem?_eq_none (by simp [packed]; omega)]

theorem pack_len (l : List Int) : (pack l).length = (l.length + 7) / 8 := by simp [pack]
theorem pack_get (l : List Int) (j : Nat) (hj : j < (l.length + 7) / 8) : (pack l)[j]? = some (wordOf l l.length j) := by simp [pack, hj]
theorem wordOf_in {l : List Int} (hl : inB l) (m j : Nat) : 0 ≤ wordOf l m j ∧ wordOf l m j < 18446744073709551616 := by
  have h := valN_bounds _ (seg_in hl m j)
  have h2 : (((l.take m).drop (8 * j)).take 8).length ≤ 8 := by rw [List.length_take]; omega
  have := pow256_le _ h2
  unfold wordOf
  omega
theorem pack_in {l : List Int} (hl : inB l) : inW (pack l) := by
  intro c hc
  simp only [pack, List.mem_map] at hc
  obtain ⟨j, _, rfl⟩ := hc
  exact wordOf_in hl _ _

/-- Byte i of words. -/
def byteAt (w : List Int) (i : Nat) : Int := w.getD (i / 8) 0 / 256 ^ (i % 8) % 256
def unpack (w : List Int) (n : Nat) : List Int := (List.range n).map (byteAt w)

theorem byte_pack {l : List Int} (hl : inB l) (i : Nat) : byteAt (pack l) i = l.getD i 0 := by
  unfold byteAt
  by_cases h : i / 8 < (l.length + 7) / 8
  · rw [List.getD_eq_getElem?_getD, pack_get l _ h, Option.getD_some]
    unfold wordOf
    rw [valN_digit _ (seg_in hl _ _), List.getD_eq_getElem?_getD, seg_get, List.getD_eq_getElem?_getD]
    by_cases h2 : i < l.length
    · rw [if_pos (by omega), show 8 * (i / 8) + i % 8 = i from by omega]
    · rw [if_neg (by omega), List.getElem?_eq_none (by omega)]
  · rw [List.getD_eq_getElem?_getD, List.getElem?_eq_none (by rw [pack_len]; omega), List.getD_eq_getElem?_getD, List.getElem?_eq_none (by omega)]
    simp

def unpacked (w : List Int) (n i : Nat) : List Int := (List.range n).map fun j => if j < i then byteAt w j else 0

theorem unpack_ev (w : List Int) (n : Nat) (hn : (n + 7) / 8 ≤ w.length) (hn2 : n ≤ 281474976710656) (d : Nat) : ∀ i : Nat, i + d = n → Ev (fun k => word_Unpack.l0 k w (unpacked w n i) (n : Int) i) (unpack w n, 0) := by
  induction d with
  | zero =>
    intro i hi
    obtain rfl : i = n := by omega
    refine Ev.step (f := fun _ => some (unpacked w i i, 0)) (fun k => by simp only [word_Unpack.l0]; rw [if_neg (by omega)]) ?_
    rw [show unpack w i = unpacked w i i from by
      apply List.ext_getElem?
      intro j
      by_cases hj : j < i
      · simp [unpack, unpacked, hj]
      · rw [List.getElem?_eq_none (by simp [unpack]; omega), List.getElem?_eq_none (by simp [unpacked]; omega)]]
    exact Ev.now _
  | succ d ih =>
    intro i hi
    have h1 : wrap64 (Int.tdiv (i : Int) 8) = ((i / 8 : Nat) : Int) := by rw [Int.tdiv_eq_ediv_of_nonneg (by omega)]; unfold wrap64; omega
    have h2 : wrap64 (8 * (Int.tmod (i : Int) 8)) = ((8 * (i % 8) : Nat) : Int) := by rw [Int.tmod_eq_emod_of_nonneg (by omega)]; unfold wrap64; omega
    have h3 : wrap64 ((i : Int) + 1) = ((i + 1 : Nat) : Int) := by unfold wrap64; omega
    have hul : (unpacked w n i).length = n := by simp [unpacked]
    have hv : shr .u64 (rd w ((i / 8 : Nat) : Int)) ((8 * (i % 8) : Nat) : Int) % 256 = byteAt w i := by
      unfold shr byteAt rd
      rw [Int.toNat_natCast, Int.toNat_natCast, Nat.min_eq_left (show 8 * (i % 8) ≤ IntKind.u64.bits by show 8 * (i % 8) ≤ 64; omega), pow256]
    refine Ev.step (f := fun k => word_Unpack.l0 k w (unpacked w n (i + 1)) (n : Int) ((i + 1 : Nat) : Int)) (fun k => ?_) (ih (i + 1) (by omega))
    simp only [word_Unpack.l0]
    rw [if_pos (by omega), h1, if_pos (by omega), if_pos (by omega), h2, if_pos (by omega), if_pos (by omega), if_pos (by rw [hul]; omega), hv, h3, Int.toNat_natCast]
    congr 1
    apply List.ext_getElem?
    intro j
    rw [List.getElem?_set]
    by_cases hj : i = j
    · subst hj
      rw [if_pos rfl, if_pos (by rw [hul]; omega)]
      simp [unpacked, show i < n from by omega]
    · rw [if_neg hj]
      by_cases hjn : j < n
      · simp only [unpacked, List.getElem?_map, List.getElem?_range hjn, Option.map_some]
        by_cases hji : j < i
        · rw [if_pos hji, if_pos (by omega)]
        · rw [if_neg hji, if_neg (by omega)]
      · rw [List.getElem?_eq_none (by simp [unpacked]; omega), List.getElem?_eq_none (by simp [unpacked]; omega)]

theorem Unpack_bad (w : List Int) (n : Int) (hn : -9223372036854775808 ≤ n ∧ n < 9223372036854775808) (h : n < 0 ∨ 8 * (w.length : Int) < n) : Ev (fun k => word_Unpack.f k w n) ([], 11) := by
  have hj : Ev (fun k => word_Unpack.j0 k w n true) ([], 11) := Ev.step (f := fun _ => some (([] : List Int), 11)) (fun k => by simp only [word_Unpack.j0, if_true]) (Ev.now _)
  refine Ev.congr (fun k => ?_) hj
  unfold word_Unpack.f
  by_cases h0 : n < 0
  · rw [if_pos h0]
  · rw [if_neg h0, words_some n hn, Option.bind_some, if_neg (by omega), decide_eq_true (by omega)]

theorem Unpack_ok (w : List Int) (n : Nat) (h : n ≤ 8 * w.length) (hn2 : n ≤ 281474976710656) : Ev (fun k => word_Unpack.f k w (n : Int)) (unpack w n, 0) := by
  have h0 := unpack_ev w n (by omega) hn2 n 0 (by omega)
  have hj : Ev (fun k => word_Unpack.j0 k w (n : Int) false) (unpack w n, 0) := by
    refine Ev.step (fun k => by simp only [word_Unpack.j0]; rw [if_neg (by simp), if_pos (by omega), Int.toNat_natCast, if_pos (by omega)]) ?_
    rw [show List.replicate n (0 : Int) = unpacked w n 0 from by
      apply List.ext_getElem?
      intro j
      by_cases hj : j < n
      · simp [unpacked, hj]
      · rw [List.getElem?_eq_none (by simp; omega), List.getElem?_eq_none (by simp [unpacked]; omega)]]
    exact h0
  refine Ev.congr (fun k => ?_) hj
  unfold word_Unpack.f
  rw [if_neg (by omega), words_nat n (by omega), Option.bind_some, decide_eq_false (by omega)]

end Go.Proofs.Ytgngpbcbnfmoiaa.WordS
