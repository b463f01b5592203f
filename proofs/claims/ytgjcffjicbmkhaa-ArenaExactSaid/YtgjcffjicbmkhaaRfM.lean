/- larderref2.Arena in memory: a list of objects of six cells each, each with its fields in a block of their own. No function of the program. -/
import Derived.Test.YtgjcffjicbmkhaaGenS
import Derived.Test.YtgjcffjicbmkhaaBokA
import Derived.Test.YtgjcffjicbmkhaaArP
namespace Go.Proofs.Ytgjcffjicbmkhaa.RfM
open Go Go.RowKit Go.Proofs.YtgjcffjicbmkhaaW.PrintWords Go.Proofs.YtgjcffjicbmkhaaW.PrintLast Go.Proofs.YtgjcffjicbmkhaaW.PrintMore Go.Proofs.Ytgjcffjicbmkhaa.RowU Go.Proofs.Ytgjcffjicbmkhaa.ArS Go.Proofs.Ytgjcffjicbmkhaa.ArM Go.Proofs.Ytgjcffjicbmkhaa.ArX Go.Proofs.Ytgjcffjicbmkhaa.ArT Go.Proofs.Ytgjcffjicbmkhaa.GenM Go.Proofs.Ytgjcffjicbmkhaa.GenN Go.Proofs.Ytgjcffjicbmkhaa.GenS Go.Proofs.Ytgjcffjicbmkhaa.BokA Go.Proofs.Ytgjcffjicbmkhaa.ArP
set_option linter.unusedVariables false
set_option maxRecDepth 100000

/-- An object, and the list that its fields lie in. -/
structure RO where
  o : Ob
  v : Value
def obs (es : List RO) : List Ob := es.map RO.o
def oc (at_ : Nat) (x : RO) : List Value := [.int .i64 (at_ : Int), .int .i64 (x.o.kind : Int), .int .i64 (x.o.refs : Int), x.v, .bool x.o.gone.isSome, .int .i64 ((x.o.gone.getD 0 : Nat) : Int)]
def ocs : Nat → List RO → List Value
  | _, [] => []
  | p, x :: es => oc p x ++ ocs (p + (1 + x.o.fields.length)) es
theorem used_cons (o : Ob) (l : List Ob) : used (o :: l) = used l + (1 + o.fields.length) := by
  simp [used, words, Ob.ws]; omega
theorem obs_get {es : List RO} {i : Nat} {x : RO} (h : es[i]? = some x) : (obs es)[i]? = some x.o := by simp [obs, h]
theorem obs_len (es : List RO) : (obs es).length = es.length := by simp [obs]
theorem obs_snoc (es : List RO) (x : RO) : obs (es ++ [x]) = obs es ++ [x.o] := by simp [obs]
theorem obs_set (es : List RO) (i : Nat) (x : RO) : obs (es.set i x) = (obs es).set i x.o := by simp [obs, List.map_set]
theorem ocs_len (es : List RO) : ∀ p, (ocs p es).length = es.length * 6 := by
  induction es with
  | nil => intro p; rfl
  | cons x es ih => intro p; simp only [ocs, List.length_append, ih, List.length_cons, oc]; simp only [List.length_nil]; omega
theorem ocs_get (es : List RO) : ∀ (p i j : Nat) (x : RO), es[i]? = some x → j < 6 → (ocs p es)[i * 6 + j]? = (oc (p + (place (obs es) i - 1)) x)[j]? := by
  induction es with
  | nil => intro p i j x h; simp at h
  | cons y es ih =>
    intro p i j x h hj
    cases i with
    | zero =>
      obtain rfl : y = x := by simpa using h
      have h1 : place (obs (y :: es)) 0 = 1 := rfl
      rw [h1]
      simp only [ocs, Nat.zero_mul, Nat.zero_add, Nat.sub_self, Nat.add_zero]
      rw [List.getElem?_append_left (by simp [oc]; omega)]
    | succ i =>
      have h2 : es[i]? = some x := by simpa using h
      have h3 : place (obs (y :: es)) (i + 1) = place (obs es) i + (1 + y.o.fields.length) := by
        unfold place obs
        simp only [List.map_cons, List.take_succ_cons, used_cons]
      have h4 := place_pos (obs es) i
      simp only [ocs]
      rw [List.getElem?_append_right (by simp [oc]; omega), show (i + 1) * 6 + j - (oc p y).length = i * 6 + j by simp [oc]; omega, ih _ i j x h2 hj, h3]
      congr 2
      omega
theorem ocs_snoc (es : List RO) (x : RO) : ∀ p, ocs p (es ++ [x]) = ocs p es ++ oc (p + (used (obs es) - 1)) x := by
  induction es with
  | nil => intro p; simp [ocs, obs, used_nil]
  | cons y es ih =>
    intro p
    have h4 := used_pos (obs es)
    simp only [List.cons_append, ocs, ih, List.append_assoc]
    congr 3
    simp only [obs, List.map_cons, used_cons] at h4 ⊢
    omega
theorem ocs_same {x' : RO} (es : List RO) : ∀ (p i : Nat) (x : RO), es[i]? = some x → (∀ q, oc q x' = oc q x) → x'.o.fields.length = x.o.fields.length → ocs p (es.set i x') = ocs p es := by
  induction es with
  | nil => intro p i x h; simp at h
  | cons y es ih =>
    intro p i x h h1 h2
    cases i with
    | zero =>
      obtain rfl : y = x := by simpa using h
      simp only [List.set_cons_zero, ocs, h1, h2]
    | succ i =>
      simp only [List.set_cons_succ, ocs]
      rw [ih _ i x (by simpa using h) h1 h2]
theorem ocs_went {t : Nat} (es : List RO) : ∀ (p i : Nat) (x : RO), es[i]? = some x → ocs p (es.set i ⟨Ob.went x.o t, x.v⟩) = ((ocs p es).set (i * 6 + 4) (.bool true)).set (i * 6 + 5) (.int .i64 (t : Int)) := by
  induction es with
  | nil => intro p i x h; simp at h
  | cons y es ih =>
    intro p i x h
    cases i with
    | zero =>
      obtain rfl : y = x := by simpa using h
      simp [ocs, oc, Ob.went]
    | succ i =>
      simp only [List.set_cons_succ, ocs]
      rw [ih _ i x (by simpa using h), List.set_append_right _ _ (by simp [oc]; omega), List.set_append_right _ _ (by simp [oc]; omega)]
      congr 2
      · simp only [oc, List.length_cons, List.length_nil]; rw [show (i + 1) * 6 + 4 - (0 + 1 + 1 + 1 + 1 + 1 + 1) = i * 6 + 4 by omega]
      · simp only [oc, List.length_cons, List.length_nil]; omega
/-- An arena of the document in memory: its block g; the owner k's blocks: (k, 0) its own, (k, 1) the table, (k, 2 + i) the fields of object i. -/
structure RA (k : Nat) (W : World) (lo : Own) (g sz : Nat) (vo : Value) (es : List RO) : Prop where
  hd : W.heap[g]? = some (.cells #[.int .i64 (sz : Int), .int .i64 (used (obs es) : Int), vo] 129 (0, 0))
  tb : W.ownsRow 0 152 6 vo es.length (ocs 1 es)
  gT : lo g = some (k, 0)
  tT : ∀ b, vo.ownBlock = some b → lo b = some (k, 1)
  fl : ∀ i x, es[i]? = some x → GV 36 W x.v (x.o.fields.map u64) ∧ (∀ b, x.v.ownBlock = some b → lo b = some (k, 2 + i))
  ok : ∀ o ∈ obs es, o.ok
  fit : used (obs es) ≤ sz
  sz1 : sz ≤ 1048576
theorem RA.upd {k : Nat} {S : Nat → Prop} {W W' : World} {lo lo' : Own} {g sz : Nat} {vo : Value} {es : List RO} (h : RA k W lo g sz vo es) (hu : Upd S W W') (hS : ∀ b t, lo b = some (k, t) → ¬ S b) (hle : ∀ b t, lo b = some (k, t) → lo' b = some (k, t)) : RA k W' lo' g sz vo es :=
  ⟨blk_upd h.hd hu (hS _ _ h.gT), own_upd h.tb hu (fun b hb => hS _ _ (h.tT b hb)), hle _ _ h.gT, fun b hb => hle _ _ (h.tT b hb), fun i x hx => ⟨(h.fl i x hx).1.upd hu (fun b hb => hS _ _ ((h.fl i x hx).2 b hb)), fun b hb => hle _ _ ((h.fl i x hx).2 b hb)⟩, h.ok, h.fit, h.sz1⟩
theorem RA.below {k : Nat} {W W' : World} {lo : Own} {g sz : Nat} {vo : Value} {es : List RO} (h : RA k W lo g sz vo es) (hb : Below W.heap.size W W') : RA k W' lo g sz vo es :=
  h.upd (S := none_) (Upd.of_below hb) (fun _ _ _ h => h) (fun _ _ h => h)
theorem RA.c0 {k : Nat} {W : World} {lo : Own} {g sz : Nat} {vo : Value} {es : List RO} (h : RA k W lo g sz vo es) : W.cell? ⟨g, 0, none⟩ = some (.int .i64 (sz : Int)) := (blk_cell h.hd 0).trans rfl
theorem RA.c1 {k : Nat} {W : World} {lo : Own} {g sz : Nat} {vo : Value} {es : List RO} (h : RA k W lo g sz vo es) : W.cell? ⟨g, 1, none⟩ = some (.int .i64 (used (obs es) : Int)) := (blk_cell h.hd 1).trans rfl
theorem RA.c2 {k : Nat} {W : World} {lo : Own} {g sz : Nat} {vo : Value} {es : List RO} (h : RA k W lo g sz vo es) : W.cell? ⟨g, 2, none⟩ = some vo := (blk_cell h.hd 2).trans rfl
theorem used_ge (l : List Ob) : l.length + 1 ≤ used l := by
  induction l with
  | nil => simp [used_nil]
  | cons o l ih => rw [used_cons, List.length_cons]; omega
theorem RA.len {k : Nat} {W : World} {lo : Own} {g sz : Nat} {vo : Value} {es : List RO} (h : RA k W lo g sz vo es) : es.length < 1048576 := by
  have h1 := used_ge (obs es)
  have := h.fit; have := h.sz1
  rw [obs_len] at h1
  omega
/-- The cells of an object. -/
theorem RA.ob {k : Nat} {W : World} {lo : Own} {g sz : Nat} {vo : Value} {es : List RO} (h : RA k W lo g sz vo es) {i : Nat} {x : RO} (hx : es[i]? = some x) :
    ∃ go cap cur, vo = .slice (some ⟨go, 0, none⟩) es.length cap ∧ es.length ≤ cap ∧ W.heap[go]? = some (.cells cur 152 (0, 0)) ∧ lo go = some (k, 1) ∧ ∀ j u, (oc (place (obs es) i) x)[j]? = some u → W.cell? ⟨go, i * 6 + j, none⟩ = some u := by
  have hj : ∀ j u, (oc (place (obs es) i) x)[j]? = some u → (ocs 1 es)[i * 6 + j]? = some u := fun j u hu => by
    have hj6 : j < 6 := by have := (List.getElem?_eq_some_iff.1 hu).1; simpa [oc] using this
    have := place_pos (obs es) i
    rw [ocs_get es 1 i j x hx hj6, show 1 + (place (obs es) i - 1) = place (obs es) i by omega]
    exact hu
  obtain ⟨go, cap, cur, e, hg, _, h2, h3⟩ := own_get h.tb (hj 0 _ rfl)
  refine ⟨go, cap, cur, e, h2, hg, h.tT go (by rw [e]; rfl), fun j u hu => ?_⟩
  obtain ⟨go', cap', cur', e', _, hc, _⟩ := own_get h.tb (hj j u hu)
  rw [e] at e'
  simp only [Value.slice.injEq, Option.some.injEq, Addr.mk.injEq, and_true] at e'
  obtain ⟨rfl, _⟩ := e'
  exact hc
/-- The object's number, or -1. -/
def fiR (l : List Ob) (p : Int) : Int := match obAt l p with
  | some (k, _) => k
  | none => -1
def whR (l : List Ob) (p : Int) : Int × Int := match badOf l p with
  | some e => (0, e)
  | none => (fiR l p, 0)
theorem fiR_at {l : List Ob} {i : Nat} (hi : i < l.length) {p : Int} (h : (place l i : Int) = p) : fiR l p = i := by
  subst h
  unfold fiR
  rw [obAt_of (List.getElem?_eq_getElem hi)]
theorem fiR_no {l : List Ob} {p : Int} {lo : Nat} (h1 : ∀ i, i < lo → i < l.length → (place l i : Int) < p) (h2 : ∀ i, lo ≤ i → i < l.length → p ≤ place l i) (h3 : lo < l.length → (place l lo : Int) ≠ p) : fiR l p = -1 := by
  unfold fiR
  cases hx : obAt l p with
  | none => rfl
  | some y =>
    obtain ⟨k, o⟩ := y
    obtain ⟨h4, h5⟩ := obAt_some hx
    have hk := (List.getElem?_eq_some_iff.1 h4).1
    exfalso
    by_cases c1 : k < lo
    · have := h1 k c1 hk; omega
    · by_cases c2 : k = lo
      · subst c2; exact h3 hk h5.symm
      · have h6 := h2 lo (Nat.le_refl _) (by omega)
        have h7 := place_mono (l := l) (show lo < k by omega) (by omega)
        omega
end Go.Proofs.Ytgjcffjicbmkhaa.RfM
