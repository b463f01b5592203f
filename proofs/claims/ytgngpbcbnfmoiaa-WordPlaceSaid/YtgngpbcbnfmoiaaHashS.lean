/- word.Hash in plain words, and that it tells texts apart that differ in one word. -/
import Derived.Test.YtgngpbcbnfmoiaaPAx4
import Derived.Test.YtgngpbcbnfmoiaaWordS
import Derived.Laws.Bits64
namespace Go.Proofs.Ytgngpbcbnfmoiaa.HashS
open Go Go.RowKit Go.Proofs.YtgngpbcbnfmoiaaW.PrintWords Go.Proofs.YtgngpbcbnfmoiaaW.PrintLast Go.Proofs.YtgngpbcbnfmoiaaW.PrintMore Go.Proofs.Ytgngpbcbnfmoiaa.PA Go.Proofs.Ytgngpbcbnfmoiaa.WordS

def xs (s x : Nat) : Nat := x ^^^ x / s
def ml (c x : Nat) : Nat := x * c % 18446744073709551616
def mixN (x : Nat) : Nat := xs 4294967296 (ml 12920666929402377605 (xs 536870912 (ml 15466983567672013453 (xs 4294967296 x))))

theorem xs_lt (s x : Nat) (h : x < 18446744073709551616) : xs s x < 18446744073709551616 := Nat.xor_lt_two_pow (n := 64) h (Nat.lt_of_le_of_lt (Nat.div_le_self _ _) h)
theorem ml_lt (c x : Nat) : ml c x < 18446744073709551616 := Nat.mod_lt _ (by decide)
theorem mix_lt (x : Nat) : mixN x < 18446744073709551616 := xs_lt _ _ (ml_lt _ _)

theorem mix_some (x : Nat) (h : x < 18446744073709551616) : word_mix.f (x : Int) = some ((mixN x : Nat) : Int) := by
  have hm : ∀ a c : Nat, IntKind.u64.wrap ((a : Int) * (c : Int)) = ((ml c a : Nat) : Int) := fun a c => by
    rw [IntKind.wrap_u64]; unfold ml; simp
  have hx : ∀ a s : Nat, a < 18446744073709551616 → Go.bits .xor .u64 (a : Int) ((a : Int) / (s : Int)) = ((xs s a : Nat) : Int) := fun a s ha => xorShift_u64 a s ha
  unfold word_mix.f
  rw [show (4294967296 : Int) = ((4294967296 : Nat) : Int) from rfl, show (536870912 : Int) = ((536870912 : Nat) : Int) from rfl, show (15466983567672013453 : Int) = ((15466983567672013453 : Nat) : Int) from rfl, show (12920666929402377605 : Int) = ((12920666929402377605 : Nat) : Int) from rfl]
  rw [hx _ _ h, hm, hx _ _ (ml_lt _ _), hm, hx _ _ (ml_lt _ _)]
  rfl

theorem eq_of_xor {a b : Nat} (h : a ^^^ b = 0) : a = b := by
  have : a ^^^ b ^^^ b = 0 ^^^ b := by rw [h]
  simpa [Nat.xor_assoc, Nat.xor_self] using this
theorem xs_inj (k x y : Nat) (hk : 0 < k) (h : xs (2 ^ k) x = xs (2 ^ k) y) : x = y := by
  have h1 : (x ^^^ y) ^^^ (x ^^^ y) / 2 ^ k = 0 := by
    have hd : (x ^^^ y) / 2 ^ k = x / 2 ^ k ^^^ y / 2 ^ k := by
      rw [← Nat.shiftRight_eq_div_pow, ← Nat.shiftRight_eq_div_pow, ← Nat.shiftRight_eq_div_pow, Nat.shiftRight_xor_distrib]
    rw [hd]
    unfold xs at h
    rw [show x ^^^ y ^^^ (x / 2 ^ k ^^^ y / 2 ^ k) = (x ^^^ x / 2 ^ k) ^^^ (y ^^^ y / 2 ^ k) from by
      rw [Nat.xor_assoc, Nat.xor_assoc, ← Nat.xor_assoc y, Nat.xor_comm y (x / 2 ^ k), Nat.xor_assoc], h, Nat.xor_self]
  have h2 := eq_of_xor h1
  have hp : 2 ≤ 2 ^ k := by
    have := Nat.pow_le_pow_right (n := 2) (by decide) hk
    simpa using this
  have h3 : x ^^^ y = 0 := by
    rcases Nat.eq_zero_or_pos (x ^^^ y) with h0 | h0
    · exact h0
    · have := Nat.div_lt_self h0 hp
      omega
  exact eq_of_xor h3
theorem ml_inj (c d q x y : Nat) (hcd : c * d = q * 18446744073709551616 + 1) (hx : x < 18446744073709551616) (hy : y < 18446744073709551616) (h : ml c x = ml c y) : x = y := by
  have key : ∀ z, z < 18446744073709551616 → (ml c z * d) % 18446744073709551616 = z := by
    intro z hz
    unfold ml
    rw [Nat.mod_mul_mod, Nat.mul_assoc, hcd, Nat.mul_add, Nat.mul_one, ← Nat.mul_assoc, Nat.add_comm, Nat.add_mul_mod_self_right, Nat.mod_eq_of_lt hz]
  rw [← key x hx, ← key y hy, h]
theorem mix_inj (x y : Nat) (hx : x < 18446744073709551616) (hy : y < 18446744073709551616) (h : mixN x = mixN y) : x = y := by
  unfold mixN at h
  have h1 := xs_inj 32 _ _ (by decide) h
  have h2 := ml_inj 12920666929402377605 15990422986391894861 11200184088957314844 _ _ (by decide) (xs_lt _ _ (ml_lt _ _)) (xs_lt _ _ (ml_lt _ _)) h1
  have h3 := xs_inj 29 _ _ (by decide) h2
  have h4 := ml_inj 15466983567672013453 18258152353026613317 15308855659942255850 _ _ (by decide) (xs_lt _ _ hx) (xs_lt _ _ hy) h3
  exact xs_inj 32 _ _ (by decide) h4

def hfold (h : Nat) (w : List Int) : Nat := w.foldl (fun h x => mixN (h ^^^ x.toNat)) h
def hash (seed : Nat) (l : List Int) : Nat := hfold (mixN ((seed + l.length) % 18446744073709551616)) (pack l)

theorem hfold_lt (h : Nat) (w : List Int) (hh : h < 18446744073709551616) : hfold h w < 18446744073709551616 := by
  induction w generalizing h with
  | nil => exact hh
  | cons x w ih => exact ih _ (mix_lt _)
theorem xw_lt {h : Nat} {x : Int} (hh : h < 18446744073709551616) (hx : 0 ≤ x ∧ x < 18446744073709551616) : h ^^^ x.toNat < 18446744073709551616 := Nat.xor_lt_two_pow (n := 64) hh (by omega)
theorem hfold_inj (h g : Nat) (w : List Int) (hw : inW w) (hh : h < 18446744073709551616) (hg : g < 18446744073709551616) (e : hfold h w = hfold g w) : h = g := by
  induction w generalizing h g with
  | nil => exact e
  | cons x w ih =>
    have hx := hw x (List.mem_cons_self ..)
    have h1 := ih _ _ (fun y hy => hw y (List.mem_cons_of_mem _ hy)) (mix_lt _) (mix_lt _) e
    have h2 := mix_inj _ _ (xw_lt hh hx) (xw_lt hg hx) h1
    have h3 : (h ^^^ x.toNat) ^^^ x.toNat = (g ^^^ x.toNat) ^^^ x.toNat := by rw [h2]
    simpa [Nat.xor_assoc, Nat.xor_self] using h3
/-- Two rows of words that part at one place alone. -/
theorem hfold_one (h : Nat) (v w : List Int) (hv : inW v) (hw : inW w) (hh : h < 18446744073709551616) (hl : v.length = w.length) (j : Nat) (hj : ∀ i, i ≠ j → v[i]? = w[i]?) (e : hfold h v = hfold h w) : v = w := by
  induction v generalizing h w j with
  | nil => cases w with
    | nil => rfl
    | cons => simp at hl
  | cons x v ih =>
    cases w with
    | nil => simp at hl
    | cons y w =>
      have hx := hv x (List.mem_cons_self ..)
      have hy := hw y (List.mem_cons_self ..)
      have hv' : inW v := fun z hz => hv z (List.mem_cons_of_mem _ hz)
      have hw' : inW w := fun z hz => hw z (List.mem_cons_of_mem _ hz)
      cases j with
      | zero =>
        obtain rfl : v = w := List.ext_getElem? (fun i => by simpa using hj (i + 1) (by omega))
        have h1 := hfold_inj _ _ v hv' (mix_lt _) (mix_lt _) e
        have h2 := mix_inj _ _ (xw_lt hh hx) (xw_lt hh hy) h1
        have h3 : h ^^^ (h ^^^ x.toNat) = h ^^^ (h ^^^ y.toNat) := by rw [h2]
        rw [← Nat.xor_assoc, ← Nat.xor_assoc, Nat.xor_self, Nat.zero_xor, Nat.zero_xor] at h3
        congr 1
        omega
      | succ j =>
        have hxy : x = y := by simpa using hj 0 (by omega)
        subst hxy
        congr 1
        exact ih _ w hv' hw' (mix_lt (h ^^^ x.toNat)) (by simpa using hl) j (fun i hi => by simpa using hj (i + 1) (by omega)) e

theorem hash_ev (w : List Int) (hw : inW w) (hn : w.length < 9223372036854775808) (d : Nat) : ∀ (i : Nat) (h : Nat), h < 18446744073709551616 → i + d = w.length → Ev (fun k => word_Hash.l0 k (h : Int) w (w.length : Int) i) ((hfold h (w.drop i) : Nat) : Int) := by
  induction d with
  | zero =>
    intro i h hh hi
    obtain rfl : i = w.length := by omega
    refine Ev.step (f := fun _ => some (h : Int)) (fun k => by simp only [word_Hash.l0]; rw [if_neg (by omega)]) ?_
    rw [List.drop_length]
    exact Ev.now _
  | succ d ih =>
    intro i h hh hi
    have hi' : i < w.length := by omega
    have hx := hw _ (List.getElem_mem hi')
    have h3 : wrap64 ((i : Int) + 1) = ((i + 1 : Nat) : Int) := by unfold wrap64; omega
    have hxor : Go.bits .xor .u64 (h : Int) (rd w (i : Int)) = ((h ^^^ w[i].toNat : Nat) : Int) := by
      rw [rd_get hi', ← bits_xor_u64_nat h _ hh (by omega)]
      congr 1; omega
    rw [List.drop_eq_getElem_cons hi']
    have hd : i + 1 + d = w.length := by omega
    refine Ev.step (f := fun k => word_Hash.l0 k ((mixN (h ^^^ w[i].toNat) : Nat) : Int) w (w.length : Int) ((i + 1 : Nat) : Int)) (fun k => ?_) (ih (i + 1) (mixN (h ^^^ w[i].toNat)) (mix_lt _) hd)
    simp only [word_Hash.l0]
    rw [if_pos (by omega), if_pos (by omega), if_pos (by omega), hxor, mix_some _ (xw_lt hh hx), Option.bind_some, h3]

theorem Hash (seed : Nat) (l : List Int) (hl : inB l) (hn : l.length ≤ 140737488355328) : Ev (fun k => word_Hash.f k (seed : Int) l) ((hash seed l : Nat) : Int) := by
  have e : IntKind.u64.wrap ((seed : Int) + IntKind.u64.wrap (l.length : Int)) = (((seed + l.length) % 18446744073709551616 : Nat) : Int) := by
    rw [IntKind.wrap_u64, IntKind.wrap_u64]; omega
  refine Ev.congr (fun k => by unfold word_Hash.f; rw [e, mix_some _ (Nat.mod_lt _ (by decide)), Option.bind_some]) ?_
  refine Ev.bind (Pack l hl hn) ?_
  have := hash_ev (pack l) (pack_in hl) (by rw [pack_len]; omega) (pack l).length 0 (mixN ((seed + l.length) % 18446744073709551616)) (mix_lt _) (by omega)
  simpa [hash] using this

/-- Unlike seeds. -/
theorem hash_seed (s t : Nat) (l : List Int) (hl : inB l) (hs : s < 18446744073709551616) (ht : t < 18446744073709551616) (h : hash s l = hash t l) : s = t := by
  have h1 := hfold_inj _ _ _ (pack_in hl) (mix_lt _) (mix_lt _) h
  have h2 := mix_inj _ _ (Nat.mod_lt _ (by decide)) (Nat.mod_lt _ (by decide)) h1
  omega
/-- Texts of one length that part in one word. -/
theorem hash_word (s : Nat) (c l : List Int) (hc : inB c) (hl : inB l) (hlen : c.length = l.length) (j : Nat) (hj : ∀ i, i / 8 ≠ j → c.getD i 0 = l.getD i 0) (h : hash s c = hash s l) : c = l := by
  have hp : pack c = pack l := by
    refine hfold_one (mixN ((s + l.length) % 18446744073709551616)) _ _ (pack_in hc) (pack_in hl) (mix_lt _) (by rw [pack_len, pack_len, hlen]) j (fun i hi => ?_) (by unfold hash at h; rw [hlen] at h; exact h)
    by_cases hn : i < (l.length + 7) / 8
    · rw [pack_get c i (by rw [hlen]; exact hn), pack_get l i hn]
      unfold wordOf
      congr 2
      apply List.ext_getElem?
      intro t
      rw [WordS.seg_get, WordS.seg_get, hlen]
      by_cases ht : t < 8 ∧ 8 * i + t < l.length
      · rw [if_pos ht, if_pos ht]
        have := hj (8 * i + t) (by omega)
        rw [List.getD_eq_getElem?_getD, List.getD_eq_getElem?_getD, List.getElem?_eq_getElem (show 8 * i + t < c.length by omega), List.getElem?_eq_getElem (show 8 * i + t < l.length by omega)] at this
        rw [List.getElem?_eq_getElem (show 8 * i + t < c.length by omega), List.getElem?_eq_getElem (show 8 * i + t < l.length by omega)]
        exact congrArg some this
      · rw [if_neg ht, if_neg ht]
    · rw [List.getElem?_eq_none (by rw [pack_len]; omega), List.getElem?_eq_none (by rw [pack_len]; omega)]
  apply List.ext_getElem hlen
  intro i h1 h2
  have a := byte_pack hc i
  have b := byte_pack hl i
  rw [hp, b] at a
  simpa [List.getD_eq_getElem?_getD, List.getElem?_eq_getElem h1, List.getElem?_eq_getElem h2] using a.symm
end Go.Proofs.Ytgngpbcbnfmoiaa.HashS
