/- The arena as a list of objects, in plain Lean. No function of the program. -/
import Derived.Test.YtfdkcnbkoagmiaaNumA
namespace Go.Proofs.Ytfdkcnbkoagmiaa.ArS
set_option linter.unusedVariables false

/-- An object: its shape, its fields, and where it was moved. -/
structure Ob where
  kind : Nat
  refs : Nat
  fields : List Nat
  gone : Option Nat
def Ob.raws (o : Ob) : Nat := o.fields.length - o.refs
def Ob.head (o : Ob) : Nat := match o.gone with
  | some t => 9223372036854775808 + t
  | none => o.kind + 256 * o.refs + 4294967296 * o.raws
def Ob.ws (o : Ob) : List Nat := o.head :: o.fields
structure Ob.ok (o : Ob) : Prop where
  k1 : 1 ≤ o.kind
  k2 : o.kind ≤ 255
  r1 : o.refs ≤ 1048576
  r2 : o.refs ≤ o.fields.length
  s1 : o.raws ≤ 1048576
  f1 : ∀ x ∈ o.fields, x < 18446744073709551616
  g1 : ∀ t, o.gone = some t → t ≤ 1048576
theorem Ob.head_lt {o : Ob} (h : o.ok) : o.head < 18446744073709551616 := by
  have h1 := h.k2; have h2 := h.r1; have h3 := h.s1
  unfold Ob.head
  cases hg : o.gone with
  | none => simp only; omega
  | some t => have := h.g1 t hg; simp only; omega
theorem Ob.head_gone {o : Ob} {t : Nat} (h : o.gone = some t) : o.head = 9223372036854775808 + t := by simp [Ob.head, h]
theorem Ob.head_whole {o : Ob} (h : o.gone = none) : o.head = o.kind + 256 * o.refs + 4294967296 * o.raws := by simp [Ob.head, h]
theorem Ob.len {o : Ob} (h : o.ok) : o.fields.length = o.refs + o.raws := by have := h.r2; unfold Ob.raws; omega

def words (l : List Ob) : List Nat := 0 :: l.flatMap Ob.ws
def used (l : List Ob) : Nat := (words l).length
/-- Where the object k begins. -/
def place (l : List Ob) (k : Nat) : Nat := used (l.take k)
def begins (l : List Ob) (p : Nat) : Prop := ∃ k, k < l.length ∧ p = place l k

theorem used_nil : used [] = 1 := rfl
theorem used_pos (l : List Ob) : 0 < used l := by simp [used, words]
theorem words_append (l1 l2 : List Ob) : words (l1 ++ l2) = words l1 ++ l2.flatMap Ob.ws := by simp [words]
theorem used_append (l1 l2 : List Ob) : used (l1 ++ l2) = used l1 + (l2.flatMap Ob.ws).length := by
  unfold used; rw [words_append, List.length_append]
theorem ws_len (o : Ob) : o.ws.length = 1 + o.fields.length := by simp [Ob.ws]; omega
theorem words_snoc (l : List Ob) (o : Ob) : words (l ++ [o]) = words l ++ (o.head :: o.fields) := by rw [words_append]; simp [Ob.ws]
theorem used_snoc (l : List Ob) (o : Ob) : used (l ++ [o]) = used l + (1 + o.fields.length) := by rw [used_append]; simp [ws_len]
theorem split_at {l : List Ob} {k : Nat} {o : Ob} (h : l[k]? = some o) : l = l.take k ++ o :: l.drop (k + 1) := by
  obtain ⟨hk, he⟩ := List.getElem?_eq_some_iff.1 h
  subst he
  rw [List.getElem_cons_drop]
  exact (List.take_append_drop k l).symm
theorem words_split {l : List Ob} {k : Nat} {o : Ob} (h : l[k]? = some o) : words l = words (l.take k) ++ (o.head :: (o.fields ++ (l.drop (k + 1)).flatMap Ob.ws)) := by
  conv => lhs; rw [split_at h, words_append]
  simp [Ob.ws]
theorem used_split {l : List Ob} {k : Nat} {o : Ob} (h : l[k]? = some o) : place l k + 1 + o.fields.length ≤ used l := by
  unfold place used
  conv => rhs; rw [words_split h]
  simp only [List.length_append, List.length_cons]
  omega
theorem place_pos (l : List Ob) (k : Nat) : 0 < place l k := used_pos _
theorem place_lt {l : List Ob} {k : Nat} {o : Ob} (h : l[k]? = some o) : place l k < used l := by have := used_split h; omega
theorem place_succ {l : List Ob} {k : Nat} {o : Ob} (h : l[k]? = some o) : place l (k + 1) = place l k + 1 + o.fields.length := by
  unfold place
  rw [List.take_add_one, h, Option.toList_some, used_snoc]
  omega
theorem place_len (l : List Ob) : place l l.length = used l := by unfold place; rw [List.take_length]
theorem place_mono {l : List Ob} {j k : Nat} (hjk : j < k) (hk : k ≤ l.length) : place l j < place l k := by
  induction k with
  | zero => omega
  | succ k ih =>
    obtain ⟨o, ho⟩ : ∃ o, l[k]? = some o := ⟨_, List.getElem?_eq_getElem (by omega)⟩
    rw [place_succ ho]
    by_cases h : j = k
    · subst h; omega
    · have := ih (by omega) (by omega); omega
theorem place_inj {l : List Ob} {j k : Nat} (hj : j ≤ l.length) (hk : k ≤ l.length) (h : place l j = place l k) : j = k := by
  rcases Nat.lt_trichotomy j k with h1 | h1 | h1
  · have := place_mono h1 hk; omega
  · exact h1
  · have := place_mono h1 hj; omega
theorem place_gap {l : List Ob} {j k : Nat} {o : Ob} (h : l[k]? = some o) (hj : j ≤ l.length) (h1 : place l k < place l j) : place l k + 1 + o.fields.length ≤ place l j := by
  have hkj : k < j := by
    rcases Nat.lt_trichotomy j k with h2 | h2 | h2
    · have := place_mono h2 (Nat.le_of_lt (List.getElem?_eq_some_iff.1 h).1); omega
    · subst h2; omega
    · exact h2
  rw [← place_succ h]
  by_cases h3 : k + 1 = j
  · subst h3; exact Nat.le_refl _
  · exact Nat.le_of_lt (place_mono (by omega) hj)
theorem words_head {l : List Ob} {k : Nat} {o : Ob} (h : l[k]? = some o) : (words l)[place l k]? = some o.head := by
  rw [words_split h]
  unfold place used
  rw [List.getElem?_append_right (Nat.le_refl _), Nat.sub_self]
  rfl
theorem words_field {l : List Ob} {k : Nat} {o : Ob} (h : l[k]? = some o) (i : Nat) (hi : i < o.fields.length) : (words l)[place l k + 1 + i]? = o.fields[i]? := by
  rw [words_split h]
  unfold place used
  rw [List.getElem?_append_right (by omega), show (words (l.take k)).length + 1 + i - (words (l.take k)).length = i + 1 by omega, List.getElem?_cons_succ, List.getElem?_append_left hi]
theorem take_set_le (l : List Ob) (k : Nat) (o : Ob) (j : Nat) (hj : j ≤ k) : (l.set k o).take j = l.take j := by
  rw [List.take_set, List.set_eq_of_length_le (by rw [List.length_take]; omega)]
theorem set_split {l : List Ob} {k : Nat} {o o' : Ob} (h : l[k]? = some o) : l.set k o' = l.take k ++ o' :: l.drop (k + 1) := by
  obtain ⟨hk, he⟩ := List.getElem?_eq_some_iff.1 h
  rw [List.set_eq_take_append_cons_drop, if_pos hk]
theorem words_set {l : List Ob} {k : Nat} {o : Ob} (h : l[k]? = some o) (i : Nat) (hi : i < o.fields.length) (v : Nat) (hg : o.gone = none) :
    words (l.set k { o with fields := o.fields.set i v }) = (words l).set (place l k + 1 + i) v := by
  rw [set_split h, words_split h, words_append]
  unfold place used
  rw [List.set_append_right _ _ (by omega), show (words (l.take k)).length + 1 + i - (words (l.take k)).length = i + 1 by omega, List.set_cons_succ, List.set_append_left _ _ hi]
  simp [Ob.ws, Ob.head, hg, Ob.raws]
theorem words_gone {l : List Ob} {k : Nat} {o : Ob} (h : l[k]? = some o) (t : Nat) :
    words (l.set k { o with gone := some t }) = (words l).set (place l k) (9223372036854775808 + t) := by
  rw [set_split h, words_split h, words_append]
  unfold place used
  rw [List.set_append_right _ _ (Nat.le_refl _), Nat.sub_self, List.set_cons_zero]
  simp [Ob.ws, Ob.head]
theorem used_set {l : List Ob} {k : Nat} {o o' : Ob} (h : l[k]? = some o) (hl : o'.fields.length = o.fields.length) : used (l.set k o') = used l := by
  rw [set_split h]
  conv => rhs; rw [split_at h]
  rw [used_append, used_append]
  simp [ws_len, hl]
theorem place_set {l : List Ob} {k : Nat} {o o' : Ob} (h : l[k]? = some o) (hl : o'.fields.length = o.fields.length) (j : Nat) : place (l.set k o') j = place l j := by
  unfold place
  by_cases hj : j ≤ k
  · rw [take_set_le l k o' j hj]
  · rw [List.take_set]
    exact used_set (by rw [List.getElem?_take, if_pos (by omega)]; exact h) hl
theorem begins_set {l : List Ob} {k : Nat} {o o' : Ob} (h : l[k]? = some o) (hl : o'.fields.length = o.fields.length) (p : Nat) : begins (l.set k o') p ↔ begins l p := by
  unfold begins
  constructor
  · rintro ⟨j, hj, rfl⟩; exact ⟨j, by simpa using hj, place_set h hl j⟩
  · rintro ⟨j, hj, rfl⟩; exact ⟨j, by simpa using hj, (place_set h hl j).symm⟩
theorem begins_lt {l : List Ob} {p : Nat} (h : begins l p) : p < used l := by
  obtain ⟨k, hk, rfl⟩ := h
  exact place_lt (List.getElem?_eq_getElem hk)
theorem begins_pos {l : List Ob} {p : Nat} (h : begins l p) : 0 < p := by
  obtain ⟨k, hk, rfl⟩ := h
  exact place_pos _ _
theorem begins_get {l : List Ob} {p : Nat} (h : begins l p) : ∃ k o, l[k]? = some o ∧ p = place l k := by
  obtain ⟨k, hk, rfl⟩ := h
  exact ⟨k, _, List.getElem?_eq_getElem hk, rfl⟩
theorem begins_of {l : List Ob} {k : Nat} {o : Ob} (h : l[k]? = some o) : begins l (place l k) := ⟨k, (List.getElem?_eq_some_iff.1 h).1, rfl⟩
theorem place_snoc (l : List Ob) (o : Ob) (k : Nat) (hk : k ≤ l.length) : place (l ++ [o]) k = place l k := by
  unfold place
  rw [List.take_append_of_le_length hk]
theorem begins_snoc (l : List Ob) (o : Ob) (p : Nat) : begins (l ++ [o]) p ↔ begins l p ∨ p = used l := by
  unfold begins
  constructor
  · rintro ⟨k, hk, rfl⟩
    rw [List.length_append, List.length_singleton] at hk
    rw [place_snoc l o k (by omega)]
    by_cases h : k < l.length
    · exact .inl ⟨k, h, rfl⟩
    · obtain rfl : k = l.length := by omega
      exact .inr (place_len l)
  · rintro (⟨k, hk, rfl⟩ | rfl)
    · exact ⟨k, by rw [List.length_append]; omega, (place_snoc l o k (by omega)).symm⟩
    · exact ⟨l.length, by simp, by rw [place_snoc l o _ (Nat.le_refl _), place_len]⟩
theorem words_lt {l : List Ob} (h : ∀ o ∈ l, o.ok) : ∀ x ∈ words l, x < 18446744073709551616 := by
  intro x hx
  unfold words at hx
  rcases List.mem_cons.1 hx with rfl | hx
  · decide
  · obtain ⟨o, ho, hx⟩ := List.mem_flatMap.1 hx
    rcases List.mem_cons.1 hx with rfl | hx
    · exact Ob.head_lt (h o ho)
    · exact (h o ho).f1 x hx

/-- The words of bits: one for each word at which an object begins. -/
structure Bits (fs : List Nat) (l : List Ob) : Prop where
  room : used l ≤ 64 * fs.length
  small : ∀ x ∈ fs, x < 18446744073709551616
  bit : ∀ p x, fs[p / 64]? = some x → (x.testBit (p % 64) = true ↔ begins l p)
theorem Bits.get {fs : List Nat} {l : List Ob} (h : Bits fs l) (p : Nat) (hp : p < used l) : ∃ x, fs[p / 64]? = some x ∧ x < 18446744073709551616 ∧ (x.testBit (p % 64) = true ↔ begins l p) := by
  have hl : p / 64 < fs.length := by have := h.room; omega
  have hx := List.getElem?_eq_getElem hl
  exact ⟨_, hx, h.small _ (List.getElem_mem hl), h.bit p _ hx⟩
theorem Bits.start : Bits [0] [] := by
  refine ⟨by decide, by simp, fun p x hx => ?_⟩
  have : x = 0 := by
    rcases h : p / 64 with _ | n
    · rw [h] at hx; simpa using hx.symm
    · rw [h] at hx; simp at hx
  subst this
  simp [begins]
theorem Bits.wider {fs : List Nat} {l : List Ob} (h : Bits fs l) : Bits (fs ++ [0]) l := by
  refine ⟨by have := h.room; rw [List.length_append]; omega, fun x hx => ?_, fun p x hx => ?_⟩
  · rcases List.mem_append.1 hx with hx | hx
    · exact h.small x hx
    · rw [List.mem_singleton.1 hx]; decide
  · by_cases hp : p / 64 < fs.length
    · rw [List.getElem?_append_left hp] at hx
      exact h.bit p x hx
    · rw [List.getElem?_append_right (by omega)] at hx
      have : x = 0 := by
        rcases hn : p / 64 - fs.length with _ | n
        · rw [hn] at hx; simpa using hx.symm
        · rw [hn] at hx; simp at hx
      subst this
      have hr := h.room
      simp only [Nat.zero_testBit, Bool.false_eq_true, false_iff]
      intro hb
      have := begins_lt hb
      omega
theorem Bits.put {fs : List Nat} {l : List Ob} (h : Bits fs l) (o : Ob) (x : Nat) (hx : fs[used l / 64]? = some x) (hr : used (l ++ [o]) ≤ 64 * fs.length) :
    Bits (fs.set (used l / 64) (x ||| 2 ^ (used l % 64))) (l ++ [o]) := by
  have hl : used l / 64 < fs.length := (List.getElem?_eq_some_iff.1 hx).1
  have hxs : x < 18446744073709551616 := h.small x (List.mem_of_getElem? hx)
  refine ⟨by rw [List.length_set]; exact hr, fun y hy => ?_, fun p y hy => ?_⟩
  · rcases List.mem_or_eq_of_mem_set hy with hy | rfl
    · exact h.small y hy
    · have : 2 ^ (used l % 64) < 2 ^ 64 := Nat.pow_lt_pow_right (by decide) (by omega)
      exact Nat.or_lt_two_pow (n := 64) hxs this
  · rw [begins_snoc]
    by_cases hp : p / 64 = used l / 64
    · rw [hp, List.getElem?_set_self hl] at hy
      obtain rfl := Option.some.inj hy
      rw [Nat.testBit_or, Bool.or_eq_true, Nat.testBit_two_pow, decide_eq_true_iff, h.bit p x (by rw [hp]; exact hx)]
      constructor
      · rintro (h1 | h1)
        · exact .inl h1
        · exact .inr (by omega)
      · rintro (h1 | h1)
        · exact .inl h1
        · exact .inr (by omega)
    · rw [List.getElem?_set_ne (fun h => hp h.symm)] at hy
      rw [h.bit p y hy]
      constructor
      · exact fun h1 => .inl h1
      · rintro (h1 | h1)
        · exact h1
        · exact absurd (by rw [h1]) hp
theorem Bits.same {fs : List Nat} {l l' : List Ob} (h : Bits fs l) (hu : used l' = used l) (hb : ∀ p, begins l' p ↔ begins l p) : Bits fs l' :=
  ⟨by rw [hu]; exact h.room, h.small, fun p x hx => (h.bit p x hx).trans (hb p).symm⟩
end Go.Proofs.Ytfdkcnbkoagmiaa.ArS
