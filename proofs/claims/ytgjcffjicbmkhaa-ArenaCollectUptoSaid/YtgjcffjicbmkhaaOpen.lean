/- Opening an argument: whatever can be read as data of a type has that type's kind (Kd); one combinator for each shape of type. No function of the program. -/
import Derived.Test.YtgjcffjicbmkhaaWWords
import Derived.OpenShut
import Derived.SizedLaws
import Derived.ChangeSlices
import Derived.DataElems
namespace Go.Proofs.Ytgjcffjicbmkhaa.Open
open Go Go.RowKit Go.ChangeShapes Go.Proofs.YtgjcffjicbmkhaaW.PrintWords

/-- What is read as data of type t, with at most F steps inwards, is of kind kd. -/
structure OpensAt {α : Type} (F : Nat) (P : Program) (t : TypeId) (kd : Kd α) (good : α → Prop) : Prop where
  sz : kd.sz = P.cellsOf t
  op : ∀ {H : Type} {enc : TypeId × Value → H} {W : World} {base : Nat} {spare : Nat → Bool} {held : Bool} {fuel : Nat} {cs : List Value} {x : DataW H × List MemPlace},
    fuel ≤ F → DataW.trod enc P W base spare held fuel t cs = some x → (∀ m ∈ x.1.weights P t, m ≤ reachBytes) → ∃ y : α, kd.K W y cs ∧ good y

def Opens {α : Type} (P : Program) (t : TypeId) (kd : Kd α) (good : α → Prop) : Prop := ∀ F, OpensAt F P t kd good

variable {P : Program} {t e : TypeId} {F : Nat}

theorem at_int {k : IntKind} (hu : P.underlying t = some (.int k)) (hc : P.cellsOf t = 1) : OpensAt F P t (Kd.int k) (fun x => (Lit.int k x).wf = true) where
  sz := hc.symm
  op := fun _ h _ => by
    obtain ⟨n, rfl, _, hw⟩ := DataW.trod_int hu h
    exact ⟨n, rfl, hw⟩

theorem at_bool (hu : P.underlying t = some .bool) (hc : P.cellsOf t = 1) : OpensAt F P t Kd.bool (fun _ => True) where
  sz := hc.symm
  op := fun _ h _ => by
    obtain ⟨n, rfl, _⟩ := DataW.trod_bool hu h
    exact ⟨n, rfl, trivial⟩

theorem at_string (hu : P.underlying t = some .string) (hc : P.cellsOf t = 1) : OpensAt F P t Kd.string (fun s => s.size ≤ 140737488351232) where
  sz := hc.symm
  op := fun _ h hw => by
    obtain ⟨s, rfl, hx, _⟩ := DataW.trod_string hu h
    refine ⟨s, rfl, ?_⟩
    have := hw s.data.toList.length (by rw [hx]; simp [DataW.weights])
    simpa [reachBytes] using this

theorem choose_list {β : Type} (n : Nat) (p : Nat → β → Prop) (h : ∀ i, i < n → ∃ y, p i y) : ∃ ys : List β, ys.length = n ∧ ∀ i y, ys[i]? = some y → p i y := by
  induction n with
  | zero => exact ⟨[], rfl, fun i y hy => by simp at hy⟩
  | succ n ih =>
    obtain ⟨ys, hl, hp⟩ := ih (fun i hi => h i (by omega))
    obtain ⟨y, hy⟩ := h n (by omega)
    refine ⟨ys ++ [y], by simp [hl], fun i z hz => ?_⟩
    rcases Nat.lt_or_ge i ys.length with hi | hi
    · rw [List.getElem?_append_left hi] at hz
      exact hp i z hz
    · rw [List.getElem?_append_right hi] at hz
      have : i - ys.length = 0 := by
        rcases Nat.eq_zero_or_pos (i - ys.length) with h0 | h0
        · exact h0
        · rw [List.getElem?_eq_none (by simp; omega)] at hz
          cases hz
      rw [this] at hz
      simp at hz
      subst hz
      have : i = n := by omega
      subst this
      exact hy

theorem weightsAll_mem {H : Type} {e : TypeId} : ∀ {l : List (DataW H)} {d : DataW H}, d ∈ l → ∀ m ∈ d.weights P e, m ∈ DataW.weightsAll P e l
  | [], _, h, _, _ => by simp at h
  | a :: r, d, h, m, hm => by
    simp only [DataW.weightsAll]
    rcases List.mem_cons.1 h with rfl | h
    · exact List.mem_append_left _ hm
    · exact List.mem_append_right _ (weightsAll_mem h m hm)

/-- The bound on a slice's length, and its elements. -/
def GoodL {α : Type} (B : Nat) (g : α → Prop) (ys : List α) : Prop := ys.length * B ≤ 140737488351232 ∧ ∀ y ∈ ys, g y

theorem at_slice {α : Type} {kd : Kd α} {g : α → Prop} {B : Nat} (hu : P.underlying t = some (.slice e)) (hc : P.cellsOf t = 1) (hB : P.bytesOf e = B) (he : OpensAt F P e kd g) :
    OpensAt (F + 1) P t (Kd.slice e kd) (GoodL B g) where
  sz := hc.symm
  op := by
    intro H enc W base spare held fuel cs x hf h hw
    rcases DataW.trod_slice hu h with ⟨rfl, rfl⟩ | ⟨a, len, cap, elems, rest, n, rfl, rfl, rfl, hb, hl, hm, hlen, hel, _⟩
    · exact ⟨[], ⟨none, 0, rfl, Nat.le_refl _, Kd.C_nil kd W⟩, by simp [GoodL]⟩
    · have hwt : ∀ m ∈ (elems.length + rest.length) * P.bytesOf e :: (DataW.weightsAll P e (elems.map (·.1)) ++ DataW.weightsAll P e (rest.map (·.1))), m ≤ reachBytes := by
        intro m hm'
        refine hw m ?_
        show m ∈ DataW.weights P t (DataW.slice (elems.map (·.1)) (rest.map (·.1)))
        simp only [DataW.weights, hu, List.length_map]
        exact hm'
      have each : ∀ i, i < len → ∃ y, g y ∧ ∃ c, c.length = kd.sz ∧ kd.K W y c ∧ ∀ j u, c[j]? = some u → W.cell? (a.add (i * kd.sz + j)) = some u := by
        intro i hi
        have h1 := hel i hi
        obtain ⟨x1, hx1⟩ : ∃ x1, elems[i]? = some x1 := ⟨elems[i]'(by omega), List.getElem?_eq_getElem (by omega)⟩
        rw [hx1, Option.bind_eq_some_iff] at h1
        obtain ⟨c, hcs, htr⟩ := h1
        obtain ⟨y, hy, hg⟩ := he.op (by omega) htr (fun m hm' => hwt m (List.mem_cons_of_mem _ (List.mem_append_left _
          (weightsAll_mem (List.mem_map.2 ⟨x1, List.mem_of_getElem? hx1, rfl⟩) m hm'))))
        refine ⟨y, hg, c, kd.K_len hy, hy, fun j u hj => ?_⟩
        unfold World.cells? at hcs
        split at hcs
        · have hjl : j < c.length := (List.getElem?_eq_some_iff.1 hj).1
          have hcl := kd.K_len hy
          have := mapM_some_get hcs j j (List.getElem?_range (by rw [← he.sz]; omega))
          rw [hj, Addr.add_add, ← he.sz] at this
          exact this
        · cases hcs
      obtain ⟨ys, hyl, hys⟩ := choose_list len _ each
      refine ⟨ys, ⟨some a, cap, by rw [hyl], by omega, ?_⟩, ?_, ?_⟩
      · refine ⟨rfl, by simp only [maxLen] at hm; omega, fun _ => ⟨a, rfl, fun j p hp => ?_⟩⟩
        obtain ⟨_, c, h1, h2, h3⟩ := hys j p hp
        exact ⟨c, h1, h2, h3⟩
      · have := hwt _ (List.mem_cons_self ..)
        rw [hB] at this
        rw [hyl, ← hlen]
        have h2 : elems.length * B ≤ (elems.length + rest.length) * B := Nat.mul_le_mul_right _ (by omega)
        simp only [reachBytes] at this
        omega
      · intro y hy
        obtain ⟨i, hi⟩ := List.getElem?_of_mem hy
        exact (hys i y hi).1

/-- The fields of a struct, from the cell o on. -/
def FieldsAt {α : Type} (F : Nat) (P : Program) (fs : List Field) (o : Nat) (kd : Kd α) (good : α → Prop) : Prop :=
  ∀ {H : Type} {enc : TypeId × Value → H} {W : World} {base : Nat} {spare : Nat → Bool} {held : Bool} {n : Nat} {cs : List Value} {xs : List (DataW H × List MemPlace)},
    n ≤ F → cs.length = o + kd.sz → xs.length = fs.length →
    (∀ (i : Nat) (f : Field), fs[i]? = some f → DataW.trod enc P W base spare held n f.type ((cs.drop f.offset).take (P.cellsOf f.type)) = xs[i]?) →
    (∀ m ∈ DataW.weightsEach P (fs.map (·.type)) (xs.map (·.1)), m ≤ reachBytes) → ∃ y : α, kd.K W y (cs.drop o) ∧ good y

theorem fields_one {α : Type} {f : Field} {o : Nat} {kd : Kd α} {g : α → Prop} (ho : f.offset = o) (h : OpensAt F P f.type kd g) : FieldsAt F P [f] o kd g := by
  intro H enc W base spare held n cs xs hn hl hx hf hw
  have h1 := hf 0 f rfl
  match xs, hx with
  | [x], _ =>
    rw [ho, List.take_of_length_le (by rw [List.length_drop, ← h.sz]; omega)] at h1
    exact h.op hn h1 (fun m hm => hw m (by simp only [List.map, DataW.weightsEach]; exact List.mem_append_left _ hm))

theorem fields_cons {α β : Type} {f : Field} {fs : List Field} {o : Nat} {kd : Kd α} {kd' : Kd β} {g : α → Prop} {g' : β → Prop} (ho : f.offset = o) (h : OpensAt F P f.type kd g)
    (h' : FieldsAt F P fs (o + kd.sz) kd' g') : FieldsAt F P (f :: fs) o (Kd.pair kd kd') (fun y => g y.1 ∧ g' y.2) := by
  intro H enc W base spare held n cs xs hn hl hx hf hw
  match xs, hx with
  | x :: xs, hx =>
    have h1 := hf 0 f rfl
    rw [ho] at h1
    obtain ⟨y, hy, hg⟩ := h.op hn h1 (fun m hm => hw m (by simp only [List.map, DataW.weightsEach]; exact List.mem_append_left _ hm))
    have hsz : (Kd.pair kd kd').sz = kd.sz + kd'.sz := rfl
    obtain ⟨z, hz, hg'⟩ := h' (xs := xs) hn (by rw [hl, hsz]; omega) (by simpa using hx) (fun i f' hf' => by simpa using hf (i + 1) f' (by simpa using hf'))
      (fun m hm => hw m (by simp only [List.map, DataW.weightsEach]; exact List.mem_append_right _ hm))
    refine ⟨(y, z), ⟨_, _, ?_, hy, hz⟩, hg, hg'⟩
    rw [← h.sz, ← List.drop_drop, List.take_append_drop]

theorem at_struct {α : Type} {fs : Array Field} {fl : List Field} {kd : Kd α} {g : α → Prop} (hu : P.underlying t = some (.struct fs)) (hl : fs.toList = fl) (hc : P.cellsOf t = kd.sz) (h : FieldsAt F P fl 0 kd g) : OpensAt (F + 1) P t kd g where
  sz := hc.symm
  op := by
    intro H enc W base spare held fuel cs x hf h0 hw
    obtain ⟨xs, n, rfl, rfl, hcl, hxl, hx⟩ := DataW.trod_struct hu h0
    have := h (xs := xs) (n := n) (by omega) (by rw [hcl, hc]; omega) (by rw [hxl, ← hl]; simp) (fun i f hf => hx i f (by rw [← hl] at hf; simpa using hf)) (fun m hm => hw m (by
      simp only [DataW.weights, hu]
      rw [hl]
      exact hm))
    simpa using this

theorem at_iso {α β : Type} {kd : Kd α} {g : α → Prop} (f : β → α) (inv : α → β) (hi : ∀ x, f (inv x) = x) (h : OpensAt F P t kd g) : OpensAt F P t (Kd.iso kd f) (fun b => g (f b)) where
  sz := h.sz
  op := by
    intro H enc W base spare held fuel cs x hf h0 hw
    obtain ⟨y, hy, hg⟩ := h.op hf h0 hw
    refine ⟨inv y, ?_, ?_⟩
    · show kd.K W (f (inv y)) cs
      rw [hi]
      exact hy
    · show g (f (inv y))
      rw [hi]
      exact hg

theorem OpensAt.good_imp {α : Type} {kd : Kd α} {g g' : α → Prop} (h : OpensAt F P t kd g) (hg : ∀ x, g x → g' x) : OpensAt F P t kd g' where
  sz := h.sz
  op := fun hf h0 hw => by
    obtain ⟨y, hy, hgy⟩ := h.op hf h0 hw
    exact ⟨y, hy, hg y hgy⟩

theorem OpensAt.weaken {α : Type} {kd : Kd α} {g : α → Prop} (h : OpensAt (F + 1) P t kd g) : OpensAt F P t kd g where
  sz := h.sz
  op := fun hf h0 hw => h.op (Nat.le_succ_of_le hf) h0 hw

theorem opens_int {k : IntKind} (hu : P.underlying t = some (.int k)) (hc : P.cellsOf t = 1) : Opens P t (Kd.int k) (fun x => (Lit.int k x).wf = true) := fun _ => at_int hu hc
theorem opens_bool (hu : P.underlying t = some .bool) (hc : P.cellsOf t = 1) : Opens P t Kd.bool (fun _ => True) := fun _ => at_bool hu hc
theorem opens_string (hu : P.underlying t = some .string) (hc : P.cellsOf t = 1) : Opens P t Kd.string (fun s => s.size ≤ 140737488351232) := fun _ => at_string hu hc
theorem opens_slice {α : Type} {kd : Kd α} {g : α → Prop} {B : Nat} (hu : P.underlying t = some (.slice e)) (hc : P.cellsOf t = 1) (hB : P.bytesOf e = B) (he : Opens P e kd g) :
    Opens P t (Kd.slice e kd) (GoodL B g) := fun F => (at_slice hu hc hB (he F)).weaken
def Fields {α : Type} (P : Program) (fs : List Field) (o : Nat) (kd : Kd α) (good : α → Prop) : Prop := ∀ F, FieldsAt F P fs o kd good
theorem fields1 {α : Type} {f : Field} {o : Nat} {kd : Kd α} {g : α → Prop} (ho : f.offset = o) (h : Opens P f.type kd g) : Fields P [f] o kd g := fun F => fields_one ho (h F)
theorem fields2 {α β : Type} {f : Field} {fs : List Field} {o : Nat} {kd : Kd α} {kd' : Kd β} {g : α → Prop} {g' : β → Prop} (ho : f.offset = o) (h : Opens P f.type kd g)
    (h' : Fields P fs (o + kd.sz) kd' g') : Fields P (f :: fs) o (Kd.pair kd kd') (fun y => g y.1 ∧ g' y.2) := fun F => fields_cons ho (h F) (h' F)
theorem opens_struct {α : Type} {fs : Array Field} {fl : List Field} {kd : Kd α} {g : α → Prop} (hu : P.underlying t = some (.struct fs)) (hl : fs.toList = fl) (hc : P.cellsOf t = kd.sz) (h : Fields P fl 0 kd g) : Opens P t kd g :=
  fun F => (at_struct hu hl hc (h F)).weaken

/-- An argument, opened. -/
theorem open_arg {α : Type} {kd : Kd α} {g : α → Prop} (h : ∀ F, OpensAt F P t kd g) {H : Type} {enc : TypeId × Value → H} {W : World} {base : Nat} {spare : Nat → Bool} {held : Bool} {v : Value} {d : DataW H} {ps : List MemPlace}
    {ts : List TypeId} {ds : List (DataW H)} {j : Nat} (hsz : (DataW.weightsEach P ts ds).all (· ≤ reachBytes) = true) (ht : ts[j]? = some t) (hd : ds[j]? = some d)
    (hr : DataW.Trod enc P W base spare held t v d ps) : ∃ y : α, kd.K W y v.cells.toList ∧ g y := by
  obtain ⟨fuel, hf⟩ := hr
  exact (h fuel).op (Nat.le_refl _) hf (fun m hm => by
    have := List.all_eq_true.1 hsz m (DataW.weights_mem_each ht hd m hm)
    simpa using this)

end Go.Proofs.Ytgjcffjicbmkhaa.Open
