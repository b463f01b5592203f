/- The copying collector, in plain Lean: a graph of objects, laid into a block, and copied in an order. No function of the program. -/
import Derived.Test.YtgjcffjicbmkhaaArP
namespace Go.Proofs.Ytgjcffjicbmkhaa.ColS
open Go Go.RowKit Go.Proofs.Ytgjcffjicbmkhaa.ArS Go.Proofs.Ytgjcffjicbmkhaa.ArM Go.Proofs.Ytgjcffjicbmkhaa.ArX Go.Proofs.Ytgjcffjicbmkhaa.ArT Go.Proofs.Ytgjcffjicbmkhaa.ArP
set_option linter.unusedVariables false

/-! ### lists of objects as functions -/
def objs (n : Nat) (f : Nat → Ob) : List Ob := (List.range n).map f
theorem objs_len (n : Nat) (f : Nat → Ob) : (objs n f).length = n := by simp [objs]
theorem objs_get {n : Nat} (f : Nat → Ob) {k : Nat} (h : k < n) : (objs n f)[k]? = some (f k) := by simp [objs, h]
theorem objs_succ (n : Nat) (f : Nat → Ob) : objs (n + 1) f = objs n f ++ [f n] := by simp [objs, List.range_succ]
theorem objs_congr {n : Nat} {f g : Nat → Ob} (h : ∀ j, j < n → f j = g j) : objs n f = objs n g := by
  unfold objs
  exact List.map_congr_left fun j hj => h j (List.mem_range.1 hj)
theorem objs_set {n : Nat} (f : Nat → Ob) {k : Nat} (o : Ob) : (objs n f).set k o = objs n (fun j => if j = k then o else f j) := by
  apply List.ext_getElem?
  intro j
  rw [List.getElem?_set]
  by_cases hj : j < n
  · rw [objs_get _ hj, objs_get _ hj, objs_len]
    by_cases h : k = j
    · subst h; simp [hj]
    · rw [if_neg h, if_neg (fun e => h e.symm)]
  · rw [List.getElem?_eq_none (by rw [objs_len]; omega), List.getElem?_eq_none (by rw [objs_len]; omega), objs_len]
    by_cases h : k = j
    · subst h; simp [hj]
    · simp [h]
theorem objs_take {n : Nat} (f : Nat → Ob) {k : Nat} (h : k ≤ n) : (objs n f).take k = objs k f := by
  unfold objs
  rw [← List.map_take, List.take_range, Nat.min_eq_left h]
/-- The places, of objects with so many fields. -/
def plf (len : Nat → Nat) : Nat → Nat
  | 0 => 1
  | k + 1 => plf len k + (1 + len k)
theorem plf_congr {f g : Nat → Nat} : ∀ {k : Nat}, (∀ j, j < k → f j = g j) → plf f k = plf g k
  | 0, _ => rfl
  | k + 1, h => by
    unfold plf
    rw [plf_congr (fun j hj => h j (by omega)), h k (by omega)]
theorem plf_pos (f : Nat → Nat) : ∀ k, 0 < plf f k
  | 0 => by simp [plf]
  | k + 1 => by unfold plf; omega
theorem plf_mono (f : Nat → Nat) {j k : Nat} (h : j ≤ k) : plf f j ≤ plf f k := by
  induction k with
  | zero => have : j = 0 := by omega
            subst this; exact Nat.le_refl _
  | succ k ih =>
    by_cases hj : j = k + 1
    · subst hj; exact Nat.le_refl _
    · have := ih (by omega)
      show plf f j ≤ plf f k + (1 + f k)
      omega
theorem used_objs (f : Nat → Ob) (g : Nat → Nat) : ∀ (n : Nat), (∀ j, j < n → (f j).fields.length = g j) → used (objs n f) = plf g n
  | 0, _ => used_nil
  | n + 1, h => by
    rw [objs_succ, used_snoc, used_objs f g n (fun j hj => h j (by omega)), h n (by omega)]
    rfl
theorem place_objs {f : Nat → Ob} {g : Nat → Nat} {n k : Nat} (h : ∀ j, j < n → (f j).fields.length = g j) (hk : k ≤ n) : place (objs n f) k = plf g k := by
  unfold place
  rw [objs_take f hk]
  exact used_objs f g k (fun j hj => h j (by omega))

/-! ### graphs -/
structure Gp where
  N : Nat
  K : Nat → Nat
  R : Nat → Nat
  S : Nat → Nat
  eg : Nat → Nat → Option Nat
  raw : Nat → Nat → Nat
structure Gp.ok (G : Gp) : Prop where
  n1 : G.N ≤ 2001
  k1 : ∀ i, i < G.N → 1 ≤ G.K i ∧ G.K i ≤ 255
  r1 : ∀ i, i < G.N → G.R i ≤ 24
  s1 : ∀ i, i < G.N → G.S i ≤ 24
  e1 : ∀ i k t, G.eg i k = some t → t < G.N
  w1 : ∀ i k, G.raw i k < 18446744073709551616
def Gp.len (G : Gp) (i : Nat) : Nat := G.R i + G.S i
/-- The places in the first block. -/
def Gp.pa (G : Gp) (i : Nat) : Nat := plf G.len i
def Gp.fld (G : Gp) (i x : Nat) : Nat := if x < G.R i then (match G.eg i x with | none => 0 | some t => G.pa t) else G.raw i (x - G.R i)
theorem Gp.pa_le {G : Gp} (h : G.ok) : ∀ i, i ≤ G.N → G.pa i ≤ 1 + 49 * i
  | 0, _ => by simp [Gp.pa, plf]
  | i + 1, hi => by
    have h1 := Gp.pa_le h i (by omega)
    have h2 := h.r1 i (by omega)
    have h3 := h.s1 i (by omega)
    have h4 : G.pa (i + 1) = G.pa i + (1 + (G.R i + G.S i)) := rfl
    omega
theorem Gp.pa_lt {G : Gp} (h : G.ok) {i : Nat} (hi : i ≤ G.N) : G.pa i ≤ 98050 := by
  have := Gp.pa_le h i hi
  have := h.n1
  omega
theorem Gp.fld_lt {G : Gp} (h : G.ok) (i x : Nat) : G.fld i x < 18446744073709551616 := by
  unfold Gp.fld
  split
  · cases he : G.eg i x with
    | none => simp
    | some t => have := Gp.pa_lt h (Nat.le_of_lt (h.e1 i x t he)); simp only; omega
  · exact h.w1 _ _
/-- Object i, its first f fields written. -/
def Gp.aOb (G : Gp) (i f : Nat) : Ob := ⟨G.K i, G.R i, (List.range (G.len i)).map (fun x => if x < f then G.fld i x else 0), none⟩
/-- All objects laid, the fields of the first i ones, and f of the next. -/
def Gp.lay (G : Gp) (i f : Nat) : List Ob := objs G.N (fun j => G.aOb j (if j < i then G.len j else if j = i then f else 0))
theorem Gp.aOb_len (G : Gp) (i f : Nat) : (G.aOb i f).fields.length = G.len i := by simp [Gp.aOb]
theorem Gp.place_lay (G : Gp) (i f : Nat) {k : Nat} (hk : k ≤ G.N) : place (G.lay i f) k = G.pa k := place_objs (fun j _ => G.aOb_len j _) hk
theorem map_set_range {n : Nat} (f g : Nat → Nat) (k v : Nat) (h : ∀ x, x < n → x ≠ k → f x = g x) (hk : k < n → g k = v) : ((List.range n).map f).set k v = (List.range n).map g := by
  apply List.ext_getElem?
  intro j
  rw [List.getElem?_set]
  by_cases hj : j < n
  · by_cases hkj : k = j
    · subst hkj; simp [hj, hk hj]
    · rw [if_neg hkj]; simp [hj, h j hj (fun e => hkj e.symm)]
  · by_cases hkj : k = j
    · subst hkj; simp [hj]
    · rw [if_neg hkj]; simp [hj]
theorem Gp.aOb_put (G : Gp) (i f : Nat) : Ob.put (G.aOb i f) f (G.fld i f) = G.aOb i (f + 1) := by
  unfold Gp.aOb Ob.put
  simp only [Ob.mk.injEq, true_and, and_true]
  apply map_set_range
  · intro x _ hx
    by_cases h : x < f
    · rw [if_pos h, if_pos (by omega)]
    · rw [if_neg h, if_neg (by omega)]
  · intro _; rw [if_pos (by omega)]
theorem Gp.aOb_skip (G : Gp) (i f : Nat) (h : G.fld i f = 0) : G.aOb i (f + 1) = G.aOb i f := by
  unfold Gp.aOb
  simp only [Ob.mk.injEq, true_and, and_true]
  apply List.map_congr_left
  intro x _
  by_cases hx : x < f
  · rw [if_pos hx, if_pos (by omega)]
  · rw [if_neg hx]
    by_cases hxf : x = f
    · subst hxf; rw [if_pos (by omega), h]
    · rw [if_neg (by omega)]
theorem Gp.lay_get (G : Gp) (i f : Nat) (hi : i < G.N) : (G.lay i f)[i]? = some (G.aOb i f) := by
  unfold Gp.lay
  rw [objs_get _ hi, if_neg (by omega), if_pos rfl]
theorem Gp.lay_put (G : Gp) (i f : Nat) : (G.lay i f).set i (Ob.put (G.aOb i f) f (G.fld i f)) = G.lay i (f + 1) := by
  unfold Gp.lay
  rw [objs_set, G.aOb_put]
  apply objs_congr
  intro j _
  by_cases h : j = i
  · subst h; simp
  · simp [h]
theorem Gp.lay_skip (G : Gp) (i f : Nat) (h : G.fld i f = 0) : G.lay i (f + 1) = G.lay i f := by
  unfold Gp.lay
  apply objs_congr
  intro j _
  by_cases hj : j = i
  · subst hj; simp [G.aOb_skip _ _ h]
  · simp [hj]
theorem Gp.lay_next (G : Gp) (i : Nat) : G.lay i (G.len i) = G.lay (i + 1) 0 := by
  unfold Gp.lay
  apply objs_congr
  intro j _
  congr 1
  by_cases h : j < i
  · rw [if_pos h, if_pos (by omega)]
  · rw [if_neg h]
    by_cases h2 : j = i
    · subst h2; simp
    · rw [if_neg h2, if_neg (by omega)]; simp
/-- The first block when all is laid, some objects gone into the other in this order. -/
def ordAt (o : List Nat) (j : Nat) : Nat := o.getD j 0
def Gp.pb (G : Gp) (o : List Nat) (j : Nat) : Nat := plf (fun m => G.len (ordAt o m)) j
def Gp.aF (G : Gp) (o : List Nat) (i : Nat) : Ob := { G.aOb i (G.len i) with gone := if i ∈ o then some (G.pb o (o.idxOf i)) else none }
def Gp.aL (G : Gp) (o : List Nat) : List Ob := objs G.N (G.aF o)
/-- Which refs of the second block have been turned: those of the first s objects, and k of the next. -/
def Gp.bX (G : Gp) (o : List Nat) (s k j x : Nat) : Nat :=
  if x < G.R (ordAt o j) ∧ (j < s ∨ (j = s ∧ x < k)) then (match G.eg (ordAt o j) x with | none => 0 | some t => G.pb o (o.idxOf t)) else G.fld (ordAt o j) x
def Gp.bF (G : Gp) (o : List Nat) (s k j : Nat) : Ob := ⟨G.K (ordAt o j), G.R (ordAt o j), (List.range (G.len (ordAt o j))).map (G.bX o s k j), none⟩
def Gp.bL (G : Gp) (o : List Nat) (s k : Nat) : List Ob := objs o.length (G.bF o s k)
theorem Gp.lay_all (G : Gp) : G.lay G.N 0 = G.aL [] := by
  unfold Gp.lay Gp.aL
  apply objs_congr
  intro j hj
  rw [if_pos hj]
  rfl
theorem Gp.bL_nil (G : Gp) : G.bL [] 0 0 = [] := rfl
theorem Gp.aF_len (G : Gp) (o : List Nat) (i : Nat) : (G.aF o i).fields.length = G.len i := G.aOb_len i _
theorem Gp.bF_len (G : Gp) (o : List Nat) (s k j : Nat) : (G.bF o s k j).fields.length = G.len (ordAt o j) := by simp [Gp.bF]
theorem Gp.place_a (G : Gp) (o : List Nat) {k : Nat} (hk : k ≤ G.N) : place (G.aL o) k = G.pa k := place_objs (fun j _ => G.aF_len o j) hk
theorem Gp.place_b (G : Gp) (o : List Nat) (s k : Nat) {j : Nat} (hj : j ≤ o.length) : place (G.bL o s k) j = G.pb o j := place_objs (fun m _ => G.bF_len o s k m) hj
theorem Gp.used_b (G : Gp) (o : List Nat) (s k : Nat) : used (G.bL o s k) = G.pb o o.length := used_objs _ _ _ (fun m _ => G.bF_len o s k m)
theorem ordAt_lt {o : List Nat} {i j : Nat} (h : j < o.length) : ordAt (o ++ [i]) j = ordAt o j := by
  unfold ordAt
  rw [List.getD_eq_getElem?_getD, List.getD_eq_getElem?_getD, List.getElem?_append_left h]
theorem ordAt_last (o : List Nat) (i : Nat) : ordAt (o ++ [i]) o.length = i := by
  unfold ordAt
  rw [List.getD_eq_getElem?_getD, List.getElem?_append_right (Nat.le_refl _)]
  simp
theorem ordAt_mem {o : List Nat} {j : Nat} (h : j < o.length) : ordAt o j ∈ o := by
  unfold ordAt
  rw [List.getD_eq_getElem?_getD, List.getElem?_eq_getElem h]
  exact List.getElem_mem h
theorem ordAt_idx {o : List Nat} {i : Nat} (h : i ∈ o) : ordAt o (o.idxOf i) = i := by
  unfold ordAt
  have h1 := List.idxOf_lt_length_iff.2 h
  rw [List.getD_eq_getElem?_getD, List.getElem?_eq_getElem h1]
  simp
theorem Gp.pb_app (G : Gp) (o : List Nat) (i : Nat) {j : Nat} (h : j ≤ o.length) : G.pb (o ++ [i]) j = G.pb o j := by
  unfold Gp.pb
  exact plf_congr fun m hm => by rw [ordAt_lt (by omega)]
theorem idx_app {o : List Nat} {i t : Nat} (h : t ∈ o) : (o ++ [i]).idxOf t = o.idxOf t := by rw [List.idxOf_append, if_pos h]
theorem idx_new {o : List Nat} {i : Nat} (h : i ∉ o) : (o ++ [i]).idxOf i = o.length := by
  rw [List.idxOf_append, if_neg h]; simp
/-- The refs that have been turned lead to copies. -/
def Gp.inv (G : Gp) (o : List Nat) (s k : Nat) : Prop := ∀ j x t, j < o.length → x < G.R (ordAt o j) → (j < s ∨ (j = s ∧ x < k)) → G.eg (ordAt o j) x = some t → t ∈ o
theorem Gp.bL_app (G : Gp) {o : List Nat} {i s k : Nat} (hI : G.inv o s k) (hs : s < o.length ∨ (s = o.length ∧ k = 0)) (hi : i ∉ o) : G.bL (o ++ [i]) s k = G.bL o s k ++ [G.aF o i] := by
  unfold Gp.bL
  rw [List.length_append, List.length_singleton, objs_succ]
  congr 1
  · apply objs_congr
    intro j hj
    unfold Gp.bF
    rw [ordAt_lt hj]
    simp only [Ob.mk.injEq, true_and, and_true]
    apply List.map_congr_left
    intro x _
    unfold Gp.bX
    rw [ordAt_lt hj]
    by_cases hc : x < G.R (ordAt o j) ∧ (j < s ∨ (j = s ∧ x < k))
    · rw [if_pos hc, if_pos hc]
      cases he : G.eg (ordAt o j) x with
      | none => rfl
      | some t =>
        have ht := hI j x t hj hc.1 hc.2 he
        simp only
        rw [idx_app ht, G.pb_app o i (Nat.le_of_lt (List.idxOf_lt_length_iff.2 ht))]
    · rw [if_neg hc, if_neg hc]
  · unfold Gp.bF Gp.aF Gp.aOb
    rw [ordAt_last, if_neg hi]
    simp only [List.cons.injEq, and_true, Ob.mk.injEq, true_and]
    apply List.map_congr_left
    intro x hx
    unfold Gp.bX
    rw [ordAt_last, if_neg (by omega), if_pos (List.mem_range.1 hx)]
theorem Gp.inv_app {G : Gp} {o : List Nat} {i s k : Nat} (hI : G.inv o s k) (hs : s < o.length ∨ (s = o.length ∧ k = 0)) : G.inv (o ++ [i]) s k := by
  intro j x t hj hx hjs he
  have hjo : j < o.length := by
    rcases hjs with h | ⟨h, h2⟩ <;> rcases hs with h3 | ⟨h3, h4⟩ <;> omega
  rw [ordAt_lt hjo] at hx he
  exact List.mem_append_left _ (hI j x t hjo hx hjs he)
theorem Gp.aL_app (G : Gp) {o : List Nat} {i : Nat} (hi : i ∉ o) (hiN : i < G.N) : (G.aL o).set i (Ob.went (G.aF o i) (G.pb o o.length)) = G.aL (o ++ [i]) := by
  unfold Gp.aL
  rw [objs_set]
  apply objs_congr
  intro j _
  by_cases h : j = i
  · subst h
    simp only [if_true]
    unfold Gp.aF Ob.went
    simp only [List.mem_append, List.mem_singleton, or_true, if_true]
    rw [idx_new hi, G.pb_app o j (Nat.le_refl _)]
  · simp only [h, if_false]
    unfold Gp.aF
    simp only [List.mem_append, List.mem_singleton, h, or_false]
    by_cases hj : j ∈ o
    · rw [if_pos hj, if_pos hj, idx_app hj, G.pb_app o i (Nat.le_of_lt (List.idxOf_lt_length_iff.2 hj))]
    · rw [if_neg hj, if_neg hj]
/-- What Take answers, asked for object t of the first block. -/
theorem Gp.take_old (G : Gp) {o : List Nat} {t : Nat} (ht : t ∈ o) (htN : t < G.N) (szb : Nat) (lb : List Ob) : takR szb lb (G.aL o) (G.pa t : Int) false = (((G.pb o (o.idxOf t) : Nat) : Int), 0, lb, G.aL o) := by
  have h : (G.aL o)[t]? = some (G.aF o t) := objs_get _ htN
  have h2 := obAt_of h
  rw [G.place_a o (Nat.le_of_lt htN)] at h2
  unfold takR
  rw [h2]
  have h3 : (G.aF o t).gone = some (G.pb o (o.idxOf t)) := by unfold Gp.aF; simp [ht]
  simp only [h3]
theorem Gp.take_full (G : Gp) {o : List Nat} {t s k : Nat} (ht : t ∉ o) (htN : t < G.N) {szb : Nat} (hz : szb < G.pb o o.length + (1 + G.len t)) : takR szb (G.bL o s k) (G.aL o) (G.pa t : Int) false = (0, 22, G.bL o s k, G.aL o) := by
  have h : (G.aL o)[t]? = some (G.aF o t) := objs_get _ htN
  have h2 := obAt_of h
  rw [G.place_a o (Nat.le_of_lt htN)] at h2
  unfold takR
  rw [h2]
  have h3 : (G.aF o t).gone = none := by unfold Gp.aF; simp [ht]
  simp only [h3]
  rw [if_pos (by rw [G.used_b, G.aF_len]; exact hz)]
theorem Gp.take_new (G : Gp) {o : List Nat} {t s k : Nat} (hI : G.inv o s k) (hs : s < o.length ∨ (s = o.length ∧ k = 0)) (ht : t ∉ o) (htN : t < G.N) {szb : Nat} (hz : ¬ szb < G.pb o o.length + (1 + G.len t)) :
    takR szb (G.bL o s k) (G.aL o) (G.pa t : Int) false = (((G.pb (o ++ [t]) ((o ++ [t]).idxOf t) : Nat) : Int), 0, G.bL (o ++ [t]) s k, G.aL (o ++ [t])) := by
  have h : (G.aL o)[t]? = some (G.aF o t) := objs_get _ htN
  have h2 := obAt_of h
  rw [G.place_a o (Nat.le_of_lt htN)] at h2
  unfold takR
  rw [h2]
  have h3 : (G.aF o t).gone = none := by unfold Gp.aF; simp [ht]
  simp only [h3]
  rw [if_neg (by rw [G.used_b, G.aF_len]; exact hz), G.used_b, G.bL_app hI hs ht, idx_new ht, G.pb_app o t (Nat.le_refl _)]
  simp only [Bool.false_eq_true, if_false]
  rw [G.aL_app ht htN]
theorem Gp.b_get (G : Gp) (o : List Nat) (s k : Nat) {j : Nat} (hj : j < o.length) : (G.bL o s k)[j]? = some (G.bF o s k j) := objs_get _ hj
/-- The ref k of the object s, not turned yet. -/
theorem Gp.ref_at (G : Gp) (o : List Nat) (s k : Nat) (hk : k < G.R (ordAt o s)) : (G.bF o s k s).fields[k]? = some (match G.eg (ordAt o s) k with | none => 0 | some t => G.pa t) := by
  unfold Gp.bF
  have : k < G.len (ordAt o s) := by unfold Gp.len; omega
  simp only [List.getElem?_map, List.getElem?_range this, Option.map_some, Option.some.injEq]
  unfold Gp.bX Gp.fld
  rw [if_neg (by omega), if_pos hk]
theorem Gp.b_skip (G : Gp) {o : List Nat} {s k : Nat} (he : G.eg (ordAt o s) k = none) : G.bL o s (k + 1) = G.bL o s k := by
  unfold Gp.bL
  apply objs_congr
  intro j _
  unfold Gp.bF
  simp only [Ob.mk.injEq, true_and, and_true]
  apply List.map_congr_left
  intro x _
  unfold Gp.bX
  by_cases h : j = s ∧ x = k
  · obtain ⟨rfl, rfl⟩ := h
    by_cases hx : x < G.R (ordAt o j)
    · rw [if_pos ⟨hx, .inr ⟨rfl, by omega⟩⟩, if_neg (by omega), he]
      unfold Gp.fld
      rw [if_pos hx, he]
    · rw [if_neg (fun e => hx e.1), if_neg (fun e => hx e.1)]
  · by_cases hc : x < G.R (ordAt o j) ∧ (j < s ∨ (j = s ∧ x < k))
    · rw [if_pos hc, if_pos (by omega)]
    · rw [if_neg hc, if_neg (by omega)]
theorem Gp.b_put (G : Gp) {o : List Nat} {s k t : Nat} (hs : s < o.length) (he : G.eg (ordAt o s) k = some t) (hk : k < G.R (ordAt o s)) : (G.bL o s k).set s (Ob.put (G.bF o s k s) k (G.pb o (o.idxOf t))) = G.bL o s (k + 1) := by
  unfold Gp.bL
  rw [objs_set]
  apply objs_congr
  intro j _
  by_cases h : j = s
  · subst h
    simp only [if_true]
    unfold Gp.bF Ob.put
    simp only [Ob.mk.injEq, true_and, and_true]
    apply map_set_range
    · intro x _ hx
      unfold Gp.bX
      by_cases hc : x < G.R (ordAt o j) ∧ (j < j ∨ (j = j ∧ x < k))
      · rw [if_pos hc, if_pos (by omega)]
      · rw [if_neg hc, if_neg (by omega)]
    · intro _
      unfold Gp.bX
      rw [if_pos ⟨hk, .inr ⟨rfl, by omega⟩⟩, he]
  · simp only [h, if_false]
    unfold Gp.bF
    simp only [Ob.mk.injEq, true_and, and_true]
    apply List.map_congr_left
    intro x _
    unfold Gp.bX
    by_cases hc : x < G.R (ordAt o j) ∧ (j < s ∨ (j = s ∧ x < k))
    · rw [if_pos hc, if_pos (by omega)]
    · rw [if_neg hc, if_neg (by omega)]
theorem Gp.b_next (G : Gp) (o : List Nat) (s : Nat) : G.bL o s (G.R (ordAt o s)) = G.bL o (s + 1) 0 := by
  unfold Gp.bL
  apply objs_congr
  intro j _
  unfold Gp.bF
  simp only [Ob.mk.injEq, true_and, and_true]
  apply List.map_congr_left
  intro x _
  unfold Gp.bX
  by_cases hj : j = s
  · subst hj
    by_cases hc : x < G.R (ordAt o j)
    · rw [if_pos ⟨hc, .inr ⟨rfl, hc⟩⟩, if_pos ⟨hc, .inl (by omega)⟩]
    · rw [if_neg (fun e => hc e.1), if_neg (fun e => hc e.1)]
  · by_cases hc : x < G.R (ordAt o j) ∧ (j < s ∨ (j = s ∧ x < G.R (ordAt o s)))
    · rw [if_pos hc, if_pos (by omega)]
    · rw [if_neg hc, if_neg (by omega)]
theorem Gp.inv_step {G : Gp} {o : List Nat} {s k : Nat} (hI : G.inv o s k) (h : ∀ t, G.eg (ordAt o s) k = some t → t ∈ o) : G.inv o s (k + 1) := by
  intro j x t hj hx hjs he
  by_cases hc : j < s ∨ (j = s ∧ x < k)
  · exact hI j x t hj hx hc he
  · obtain ⟨rfl, rfl⟩ : j = s ∧ x = k := by omega
    exact h t he
theorem Gp.inv_next {G : Gp} {o : List Nat} {s : Nat} (hI : G.inv o s (G.R (ordAt o s))) : G.inv o (s + 1) 0 := by
  intro j x t hj hx hjs he
  refine hI j x t hj hx ?_ he
  by_cases h : j = s
  · subst h; exact .inr ⟨rfl, hx⟩
  · exact .inl (by omega)

/-! ### how much the objects take -/
def Gp.tot (G : Gp) (P : Nat → Bool) : Nat → Nat
  | 0 => 0
  | n + 1 => G.tot P n + (if P n then 1 + G.len n else 0)
theorem Gp.tot_mono (G : Gp) {P Q : Nat → Bool} : ∀ {n : Nat}, (∀ i, i < n → P i = true → Q i = true) → G.tot P n ≤ G.tot Q n
  | 0, _ => Nat.le_refl _
  | n + 1, h => by
    have ih := G.tot_mono (P := P) (Q := Q) (n := n) (fun i hi => h i (by omega))
    unfold Gp.tot
    cases hp : P n with
    | false => simp; omega
    | true => rw [h n (by omega) hp]; simp; omega
theorem Gp.tot_congr (G : Gp) {P Q : Nat → Bool} {n : Nat} (h : ∀ i, i < n → P i = Q i) : G.tot P n = G.tot Q n := by
  apply Nat.le_antisymm
  · exact G.tot_mono fun i hi hp => by rw [← h i hi]; exact hp
  · exact G.tot_mono fun i hi hp => by rw [h i hi]; exact hp
theorem Gp.tot_put (G : Gp) {P Q : Nat → Bool} {i : Nat} : ∀ {n : Nat}, i < n → P i = false → Q i = true → (∀ j, j ≠ i → Q j = P j) → G.tot Q n = G.tot P n + (1 + G.len i)
  | 0, h, _, _, _ => by omega
  | n + 1, h, hp, hq, hj => by
    unfold Gp.tot
    by_cases hin : i = n
    · subst hin
      rw [G.tot_congr (P := Q) (Q := P) (n := i) (fun j hj' => hj j (by omega)), hp, hq]
      simp
    · rw [G.tot_put (n := n) (by omega) hp hq hj, hj n (fun e => hin e.symm)]
      omega
theorem Gp.tot_none (G : Gp) (n : Nat) : G.tot (fun _ => false) n = 0 := by
  induction n with
  | zero => rfl
  | succ n ih => unfold Gp.tot; rw [ih]; simp
theorem Gp.tot_le {G : Gp} (h : G.ok) (P : Nat → Bool) : ∀ n, n ≤ G.N → G.tot P n ≤ 49 * n
  | 0, _ => Nat.le_refl _
  | n + 1, hn => by
    have ih := Gp.tot_le h P n (by omega)
    have h2 := h.r1 n (by omega)
    have h3 := h.s1 n (by omega)
    unfold Gp.tot
    unfold Gp.len
    split <;> omega
/-- The copies take as much as the objects that they are copies of. -/
theorem Gp.pb_tot (G : Gp) (o : List Nat) : o.Nodup → (∀ i ∈ o, i < G.N) → G.pb o o.length = 1 + G.tot (fun i => decide (i ∈ o)) G.N := by
  induction hn : o.length generalizing o with
  | zero =>
    intro _ _
    obtain rfl : o = [] := List.length_eq_zero_iff.1 hn
    have : G.tot (fun i => decide (i ∈ ([] : List Nat))) G.N = 0 := by
      rw [G.tot_congr (Q := fun _ => false) (fun i _ => by simp)]; exact G.tot_none _
    rw [this]; rfl
  | succ n ih =>
    intro hd hlt
    obtain ⟨o', i, rfl⟩ : ∃ o' i, o = o' ++ [i] := ⟨o.dropLast, o.getLast (by intro h; simp [h] at hn), (List.dropLast_concat_getLast _).symm⟩
    have hn' : o'.length = n := by simpa using hn
    rw [List.nodup_append] at hd
    have hi : i ∉ o' := fun h => hd.2.2 i h i (by simp) rfl
    have ih' := ih o' hn' hd.1 (fun j hj => hlt j (List.mem_append_left _ hj))
    have hstep : G.pb (o' ++ [i]) (n + 1) = G.pb o' n + (1 + G.len i) := by
      rw [← hn']
      show plf _ (o'.length + 1) = _
      unfold plf
      rw [ordAt_last]
      show G.pb (o' ++ [i]) o'.length + _ = _
      rw [G.pb_app o' i (Nat.le_refl _)]
    rw [hstep, ih', G.tot_put (P := fun j => decide (j ∈ o')) (Q := fun j => decide (j ∈ o' ++ [i])) (i := i) (hlt i (by simp)) (by simpa using hi) (by simp) (fun j hj => by simp [hj])]
    omega
end Go.Proofs.Ytgjcffjicbmkhaa.ColS
