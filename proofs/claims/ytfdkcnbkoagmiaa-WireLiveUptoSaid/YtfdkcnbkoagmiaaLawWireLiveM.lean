-- JOINED by tailmerge3.py: Open OpenB StrB BndS PAx6 PAx7 PAx8 CmpR StrR IsG ApnF ApnG LivS LivT LivF FinV FinA FinP FinW LivG LivW LawWireLive
import Derived.Test.YtfdkcnbkoagmiaaWWords
import Derived.OpenShut
import Derived.SizedLaws
import Derived.ChangeSlices
import Derived.DataElems
import Derived.Test.YtfdkcnbkoagmiaaRows
import Derived.Test.YtfdkcnbkoagmiaaLinS
import Derived.Test.YtfdkcnbkoagmiaaChkS
import Derived.Test.YtfdkcnbkoagmiaaPAx0
import Derived.Test.YtfdkcnbkoagmiaaProg
import Derived.Laws.BytesArg
import Derived.Laws.Concat
import Derived.Lib.ConvBytes
import Derived.Lib.SmallJoins
import Derived.RowKit3
import Derived.Test.YtfdkcnbkoagmiaaRowU
import Derived.WalkMore
import Derived.Test.YtfdkcnbkoagmiaaCopL
import Derived.Lib.SlBytesConst
import Derived.ArgAppend
import Derived.Laws.IdiomCopy
import Derived.Lib.AppendStr
import Derived.Deep.DeepMust
import Derived.Test.YtfdkcnbkoagmiaaFedX
import Derived.WalkKit
import Derived.ProofKit
import Derived.ShutString
import Derived.ChangeOld
import Derived.Below
import Derived.Deep.DeepHandedRow
import Derived.Lib.LaidTab

section
namespace Go.Proofs.Ytfdkcnbkoagmiaa.Open
open Go Go.RowKit Go.ChangeShapes Go.Proofs.YtfdkcnbkoagmiaaW.PrintWords
structure OpensAt {α : Type} (F : Nat) (P : Program) (t : TypeId) (kd : Kd α) (good : α → Prop) : Prop where
  sz : kd.sz = P.cellsOf t
  op : ∀ {H : Type} {enc : TypeId × Value → H} {W : World} {base : Nat} {spare : Nat → Bool} {held : Bool} {fuel : Nat} {cs : List Value} {x : DataW H × List MemPlace},
    fuel ≤ F → DataW.trod enc P W base spare held fuel t cs = some x → (∀ m ∈ x.1.weights P t, m ≤ reachBytes) → ∃ y : α, kd.K W y cs ∧ good y
def Opens {α : Type} (P : Program) (t : TypeId) (kd : Kd α) (good : α → Prop) : Prop := ∀ F, OpensAt F P t kd good
variable {P : Program} {t e : TypeId} {F : Nat}
theorem at_int {k : IntKind} (hu : P.underlying t = some (.int k)) (hc : P.cellsOf t = 1) : OpensAt F P t (Kd.int k) (fun x => (Lit.int k x).wf = true) where
  sz := hc.symm
  op := fun _ h _ => by
    obtain ⟨n, rfl, _, hw⟩ := DataW.trod_int hu h
    exact ⟨n, rfl, hw⟩
theorem at_bool (hu : P.underlying t = some .bool) (hc : P.cellsOf t = 1) : OpensAt F P t Kd.bool (fun _ => True) where
  sz := hc.symm
  op := fun _ h _ => by
    obtain ⟨n, rfl, _⟩ := DataW.trod_bool hu h
    exact ⟨n, rfl, trivial⟩
theorem at_string (hu : P.underlying t = some .string) (hc : P.cellsOf t = 1) : OpensAt F P t Kd.string (fun s => s.size ≤ 140737488351232) where
  sz := hc.symm
  op := fun _ h hw => by
    obtain ⟨s, rfl, hx, _⟩ := DataW.trod_string hu h
    refine ⟨s, rfl, ?_⟩
    have := hw s.data.toList.length (by rw [hx]; simp [DataW.weights])
    simpa [reachBytes] using this
theorem choose_list {β : Type} (n : Nat) (p : Nat → β → Prop) (h : ∀ i, i < n → ∃ y, p i y) : ∃ ys : List β, ys.length = n ∧ ∀ i y, ys[i]? = some y → p i y := by
  induction n with
  | zero => exact ⟨[], rfl, fun i y hy => by simp at hy⟩
  | succ n ih =>
    obtain ⟨ys, hl, hp⟩ := ih (fun i hi => h i (by omega))
    obtain ⟨y, hy⟩ := h n (by omega)
    refine ⟨ys ++ [y], by simp [hl], fun i z hz => ?_⟩
    rcases Nat.lt_or_ge i ys.length with hi | hi
    · rw [List.getElem?_append_left hi] at hz
      exact hp i z hz
    · rw [List.getElem?_append_right hi] at hz
      have : i - ys.length = 0 := by
        rcases Nat.eq_zero_or_pos (i - ys.length) with h0 | h0
        · exact h0
        · rw [List.getElem?_eq_none (by simp; omega)] at hz
          cases hz
      rw [this] at hz
      simp at hz
      subst hz
      have : i = n := by omega
      subst this
      exact hy
theorem weightsAll_mem {H : Type} {e : TypeId} : ∀ {l : List (DataW H)} {d : DataW H}, d ∈ l → ∀ m ∈ d.weights P e, m ∈ DataW.weightsAll P e l
  | [], _, h, _, _ => by simp at h
  | a :: r, d, h, m, hm => by
    simp only [DataW.weightsAll]
    rcases List.mem_cons.1 h with rfl | h
    · exact List.mem_append_left _ hm
    · exact List.mem_append_right _ (weightsAll_mem h m hm)
def GoodL {α : Type} (B : Nat) (g : α → Prop) (ys : List α) : Prop := ys.length * B ≤ 140737488351232 ∧ ∀ y ∈ ys, g y
theorem at_slice {α : Type} {kd : Kd α} {g : α → Prop} {B : Nat} (hu : P.underlying t = some (.slice e)) (hc : P.cellsOf t = 1) (hB : P.bytesOf e = B) (he : OpensAt F P e kd g) :
    OpensAt (F + 1) P t (Kd.slice e kd) (GoodL B g) where
  sz := hc.symm
  op := by
    intro H enc W base spare held fuel cs x hf h hw
    rcases DataW.trod_slice hu h with ⟨rfl, rfl⟩ | ⟨a, len, cap, elems, rest, n, rfl, rfl, rfl, hb, hl, hm, hlen, hel, _⟩
    · exact ⟨[], ⟨none, 0, rfl, Nat.le_refl _, Kd.C_nil kd W⟩, by simp [GoodL]⟩
    · have hwt : ∀ m ∈ (elems.length + rest.length) * P.bytesOf e :: (DataW.weightsAll P e (elems.map (·.1)) ++ DataW.weightsAll P e (rest.map (·.1))), m ≤ reachBytes := by
        intro m hm'
        refine hw m ?_
        show m ∈ DataW.weights P t (DataW.slice (elems.map (·.1)) (rest.map (·.1)))
        simp only [DataW.weights, hu, List.length_map]
        exact hm'
      have each : ∀ i, i < len → ∃ y, g y ∧ ∃ c, c.length = kd.sz ∧ kd.K W y c ∧ ∀ j u, c[j]? = some u → W.cell? (a.add (i * kd.sz + j)) = some u := by
        intro i hi
        have h1 := hel i hi
        obtain ⟨x1, hx1⟩ : ∃ x1, elems[i]? = some x1 := ⟨elems[i]'(by omega), List.getElem?_eq_getElem (by omega)⟩
        rw [hx1, Option.bind_eq_some_iff] at h1
        obtain ⟨c, hcs, htr⟩ := h1
        obtain ⟨y, hy, hg⟩ := he.op (by omega) htr (fun m hm' => hwt m (List.mem_cons_of_mem _ (List.mem_append_left _
          (weightsAll_mem (List.mem_map.2 ⟨x1, List.mem_of_getElem? hx1, rfl⟩) m hm'))))
        refine ⟨y, hg, c, kd.K_len hy, hy, fun j u hj => ?_⟩
        unfold World.cells? at hcs
        split at hcs
        · have hjl : j < c.length := (List.getElem?_eq_some_iff.1 hj).1
          have hcl := kd.K_len hy
          have := mapM_some_get hcs j j (List.getElem?_range (by rw [← he.sz]; omega))
          rw [hj, Addr.add_add, ← he.sz] at this
          exact this
        · cases hcs
      obtain ⟨ys, hyl, hys⟩ := choose_list len _ each
      refine ⟨ys, ⟨some a, cap, by rw [hyl], by omega, ?_⟩, ?_, ?_⟩
      · refine ⟨rfl, by simp only [maxLen] at hm; omega, fun _ => ⟨a, rfl, fun j p hp => ?_⟩⟩
        obtain ⟨_, c, h1, h2, h3⟩ := hys j p hp
        exact ⟨c, h1, h2, h3⟩
      · have := hwt _ (List.mem_cons_self ..)
        rw [hB] at this
        rw [hyl, ← hlen]
        have h2 : elems.length * B ≤ (elems.length + rest.length) * B := Nat.mul_le_mul_right _ (by omega)
        simp only [reachBytes] at this
        omega
      · intro y hy
        obtain ⟨i, hi⟩ := List.getElem?_of_mem hy
        exact (hys i y hi).1
def FieldsAt {α : Type} (F : Nat) (P : Program) (fs : List Field) (o : Nat) (kd : Kd α) (good : α → Prop) : Prop :=
  ∀ {H : Type} {enc : TypeId × Value → H} {W : World} {base : Nat} {spare : Nat → Bool} {held : Bool} {n : Nat} {cs : List Value} {xs : List (DataW H × List MemPlace)},
    n ≤ F → cs.length = o + kd.sz → xs.length = fs.length →
    (∀ (i : Nat) (f : Field), fs[i]? = some f → DataW.trod enc P W base spare held n f.type ((cs.drop f.offset).take (P.cellsOf f.type)) = xs[i]?) →
    (∀ m ∈ DataW.weightsEach P (fs.map (·.type)) (xs.map (·.1)), m ≤ reachBytes) → ∃ y : α, kd.K W y (cs.drop o) ∧ good y
theorem fields_one {α : Type} {f : Field} {o : Nat} {kd : Kd α} {g : α → Prop} (ho : f.offset = o) (h : OpensAt F P f.type kd g) : FieldsAt F P [f] o kd g := by
  intro H enc W base spare held n cs xs hn hl hx hf hw
  have h1 := hf 0 f rfl
  match xs, hx with
  | [x], _ =>
    rw [ho, List.take_of_length_le (by rw [List.length_drop, ← h.sz]; omega)] at h1
    exact h.op hn h1 (fun m hm => hw m (by simp only [List.map, DataW.weightsEach]; exact List.mem_append_left _ hm))
theorem fields_cons {α β : Type} {f : Field} {fs : List Field} {o : Nat} {kd : Kd α} {kd' : Kd β} {g : α → Prop} {g' : β → Prop} (ho : f.offset = o) (h : OpensAt F P f.type kd g)
    (h' : FieldsAt F P fs (o + kd.sz) kd' g') : FieldsAt F P (f :: fs) o (Kd.pair kd kd') (fun y => g y.1 ∧ g' y.2) := by
  intro H enc W base spare held n cs xs hn hl hx hf hw
  match xs, hx with
  | x :: xs, hx =>
    have h1 := hf 0 f rfl
    rw [ho] at h1
    obtain ⟨y, hy, hg⟩ := h.op hn h1 (fun m hm => hw m (by simp only [List.map, DataW.weightsEach]; exact List.mem_append_left _ hm))
    have hsz : (Kd.pair kd kd').sz = kd.sz + kd'.sz := rfl
    obtain ⟨z, hz, hg'⟩ := h' (xs := xs) hn (by rw [hl, hsz]; omega) (by simpa using hx) (fun i f' hf' => by simpa using hf (i + 1) f' (by simpa using hf'))
      (fun m hm => hw m (by simp only [List.map, DataW.weightsEach]; exact List.mem_append_right _ hm))
    refine ⟨(y, z), ⟨_, _, ?_, hy, hz⟩, hg, hg'⟩
    rw [← h.sz, ← List.drop_drop, List.take_append_drop]
theorem at_struct {α : Type} {fs : Array Field} {fl : List Field} {kd : Kd α} {g : α → Prop} (hu : P.underlying t = some (.struct fs)) (hl : fs.toList = fl) (hc : P.cellsOf t = kd.sz) (h : FieldsAt F P fl 0 kd g) : OpensAt (F + 1) P t kd g where
  sz := hc.symm
  op := by
    intro H enc W base spare held fuel cs x hf h0 hw
    obtain ⟨xs, n, rfl, rfl, hcl, hxl, hx⟩ := DataW.trod_struct hu h0
    have := h (xs := xs) (n := n) (by omega) (by rw [hcl, hc]; omega) (by rw [hxl, ← hl]; simp) (fun i f hf => hx i f (by rw [← hl] at hf; simpa using hf)) (fun m hm => hw m (by
      simp only [DataW.weights, hu]
      rw [hl]
      exact hm))
    simpa using this
theorem at_iso {α β : Type} {kd : Kd α} {g : α → Prop} (f : β → α) (inv : α → β) (hi : ∀ x, f (inv x) = x) (h : OpensAt F P t kd g) : OpensAt F P t (Kd.iso kd f) (fun b => g (f b)) where
  sz := h.sz
  op := by
    intro H enc W base spare held fuel cs x hf h0 hw
    obtain ⟨y, hy, hg⟩ := h.op hf h0 hw
    refine ⟨inv y, ?_, ?_⟩
    · show kd.K W (f (inv y)) cs
      rw [hi]
      exact hy
    · show g (f (inv y))
      rw [hi]
      exact hg
theorem OpensAt.good_imp {α : Type} {kd : Kd α} {g g' : α → Prop} (h : OpensAt F P t kd g) (hg : ∀ x, g x → g' x) : OpensAt F P t kd g' where
  sz := h.sz
  op := fun hf h0 hw => by
    obtain ⟨y, hy, hgy⟩ := h.op hf h0 hw
    exact ⟨y, hy, hg y hgy⟩
theorem OpensAt.weaken {α : Type} {kd : Kd α} {g : α → Prop} (h : OpensAt (F + 1) P t kd g) : OpensAt F P t kd g where
  sz := h.sz
  op := fun hf h0 hw => h.op (Nat.le_succ_of_le hf) h0 hw
theorem opens_int {k : IntKind} (hu : P.underlying t = some (.int k)) (hc : P.cellsOf t = 1) : Opens P t (Kd.int k) (fun x => (Lit.int k x).wf = true) := fun _ => at_int hu hc
theorem opens_bool (hu : P.underlying t = some .bool) (hc : P.cellsOf t = 1) : Opens P t Kd.bool (fun _ => True) := fun _ => at_bool hu hc
theorem opens_string (hu : P.underlying t = some .string) (hc : P.cellsOf t = 1) : Opens P t Kd.string (fun s => s.size ≤ 140737488351232) := fun _ => at_string hu hc
theorem opens_slice {α : Type} {kd : Kd α} {g : α → Prop} {B : Nat} (hu : P.underlying t = some (.slice e)) (hc : P.cellsOf t = 1) (hB : P.bytesOf e = B) (he : Opens P e kd g) :
    Opens P t (Kd.slice e kd) (GoodL B g) := fun F => (at_slice hu hc hB (he F)).weaken
def Fields {α : Type} (P : Program) (fs : List Field) (o : Nat) (kd : Kd α) (good : α → Prop) : Prop := ∀ F, FieldsAt F P fs o kd good
theorem fields1 {α : Type} {f : Field} {o : Nat} {kd : Kd α} {g : α → Prop} (ho : f.offset = o) (h : Opens P f.type kd g) : Fields P [f] o kd g := fun F => fields_one ho (h F)
theorem fields2 {α β : Type} {f : Field} {fs : List Field} {o : Nat} {kd : Kd α} {kd' : Kd β} {g : α → Prop} {g' : β → Prop} (ho : f.offset = o) (h : Opens P f.type kd g)
    (h' : Fields P fs (o + kd.sz) kd' g') : Fields P (f :: fs) o (Kd.pair kd kd') (fun y => g y.1 ∧ g' y.2) := fun F => fields_cons ho (h F) (h' F)
theorem opens_struct {α : Type} {fs : Array Field} {fl : List Field} {kd : Kd α} {g : α → Prop} (hu : P.underlying t = some (.struct fs)) (hl : fs.toList = fl) (hc : P.cellsOf t = kd.sz) (h : Fields P fl 0 kd g) : Opens P t kd g :=
  fun F => (at_struct hu hl hc (h F)).weaken
theorem open_arg {α : Type} {kd : Kd α} {g : α → Prop} (h : ∀ F, OpensAt F P t kd g) {H : Type} {enc : TypeId × Value → H} {W : World} {base : Nat} {spare : Nat → Bool} {held : Bool} {v : Value} {d : DataW H} {ps : List MemPlace}
    {ts : List TypeId} {ds : List (DataW H)} {j : Nat} (hsz : (DataW.weightsEach P ts ds).all (· ≤ reachBytes) = true) (ht : ts[j]? = some t) (hd : ds[j]? = some d)
    (hr : DataW.Trod enc P W base spare held t v d ps) : ∃ y : α, kd.K W y v.cells.toList ∧ g y := by
  obtain ⟨fuel, hf⟩ := hr
  exact (h fuel).op (Nat.le_refl _) hf (fun m hm => by
    have := List.all_eq_true.1 hsz m (DataW.weights_mem_each ht hd m hm)
    simpa using this)
end Go.Proofs.Ytfdkcnbkoagmiaa.Open
end

section
namespace Go.Proofs.Ytfdkcnbkoagmiaa.OpenB
open Go Go.RowKit Go.ChangeShapes Go.Proofs.YtfdkcnbkoagmiaaW.PrintWords Go.Proofs.Ytfdkcnbkoagmiaa.Open
structure OpensAt {α : Type} (F : Nat) (P : Program) (t : TypeId) (kd : Kd α) (good : α → Prop) : Prop where
  sz : kd.sz = P.cellsOf t
  op : ∀ {H : Type} {enc : TypeId × Value → H} {W : World} {base : Nat} {spare : Nat → Bool} {held : Bool} {fuel : Nat} {cs : List Value} {x : DataW H × List MemPlace},
    fuel ≤ F → DataW.trod enc P W base spare held fuel t cs = some x → (∀ m ∈ x.1.weights P t, m ≤ reachBytes) → Rows.uptoBulk x.1 ≤ 1048576 → ∃ y : α, kd.K W y cs ∧ good y
def Opens {α : Type} (P : Program) (t : TypeId) (kd : Kd α) (good : α → Prop) : Prop := ∀ F, OpensAt F P t kd good
theorem one_le {H : Type} (d : DataW H) : 1 ≤ Rows.uptoBulk d := by
  cases d with
  | lit l => cases l <;> simp [Rows.uptoBulk]
  | nil => simp [Rows.uptoBulk]
  | ptr d => simp [Rows.uptoBulk]
  | slice elems spare => simp [Rows.uptoBulk]
  | agg parts => simp [Rows.uptoBulk]
  | iface t d => simp [Rows.uptoBulk]
  | map entries => simp [Rows.uptoBulk]
  | held h => simp [Rows.uptoBulk]
theorem part_le {H : Type} {d : DataW H} {l : List (DataW H)} (h : d ∈ l) : Rows.uptoBulk d ≤ Rows.uptoBulkAll l := by
  induction l with
  | nil => cases h
  | cons x r ih =>
    simp only [Rows.uptoBulkAll]
    cases List.mem_cons.1 h with
    | inl e => subst e; omega
    | inr e => have := ih e; omega
theorem length_le {H : Type} (l : List (DataW H)) : l.length ≤ Rows.uptoBulkAll l := by
  induction l with
  | nil => simp [Rows.uptoBulkAll]
  | cons x r ih => have := one_le x; simp only [Rows.uptoBulkAll, List.length_cons]; omega
theorem slice_le {H : Type} (elems spare : List (DataW H)) : Rows.uptoBulkAll elems + 1 ≤ Rows.uptoBulk (.slice elems spare) := by
  simp only [Rows.uptoBulk]
  omega
theorem bound {H : Type} {l : List (DataW H)} (hk : Rows.uptoSmall H l = true) : Rows.uptoBulkAll l ≤ 1048576 := of_decide_eq_true hk
variable {P : Program} {t e : TypeId} {F : Nat}
theorem at_int {k : IntKind} (hu : P.underlying t = some (.int k)) (hc : P.cellsOf t = 1) : OpensAt F P t (Kd.int k) (fun x => (Lit.int k x).wf = true) where
  sz := hc.symm
  op := fun _ h _ _ => by
    obtain ⟨n, rfl, _, hw⟩ := DataW.trod_int hu h
    exact ⟨n, rfl, hw⟩
theorem at_bool (hu : P.underlying t = some .bool) (hc : P.cellsOf t = 1) : OpensAt F P t Kd.bool (fun _ => True) where
  sz := hc.symm
  op := fun _ h _ _ => by
    obtain ⟨n, rfl, _⟩ := DataW.trod_bool hu h
    exact ⟨n, rfl, trivial⟩
def GoodB {α : Type} (B : Nat) (g : α → Prop) (ys : List α) : Prop := ys.length ≤ 1048576 ∧ GoodL B g ys
theorem at_slice {α : Type} {kd : Kd α} {g : α → Prop} {B : Nat} (hu : P.underlying t = some (.slice e)) (hc : P.cellsOf t = 1) (hB : P.bytesOf e = B) (he : OpensAt F P e kd g) :
    OpensAt (F + 1) P t (Kd.slice e kd) (GoodB B g) where
  sz := hc.symm
  op := by
    intro H enc W base spare held fuel cs x hf h hw hk
    rcases DataW.trod_slice hu h with ⟨rfl, rfl⟩ | ⟨a, len, cap, elems, rest, n, rfl, rfl, rfl, hb, hl, hm, hlen, hel, _⟩
    · exact ⟨[], ⟨none, 0, rfl, Nat.le_refl _, Kd.C_nil kd W⟩, by simp [GoodB, GoodL]⟩
    · have hwt : ∀ m ∈ (elems.length + rest.length) * P.bytesOf e :: (DataW.weightsAll P e (elems.map (·.1)) ++ DataW.weightsAll P e (rest.map (·.1))), m ≤ reachBytes := by
        intro m hm'
        refine hw m ?_
        show m ∈ DataW.weights P t (DataW.slice (elems.map (·.1)) (rest.map (·.1)))
        simp only [DataW.weights, hu, List.length_map]
        exact hm'
      have each : ∀ i, i < len → ∃ y, g y ∧ ∃ c, c.length = kd.sz ∧ kd.K W y c ∧ ∀ j u, c[j]? = some u → W.cell? (a.add (i * kd.sz + j)) = some u := by
        intro i hi
        have h1 := hel i hi
        obtain ⟨x1, hx1⟩ : ∃ x1, elems[i]? = some x1 := ⟨elems[i]'(by omega), List.getElem?_eq_getElem (by omega)⟩
        rw [hx1, Option.bind_eq_some_iff] at h1
        obtain ⟨c, hcs, htr⟩ := h1
        obtain ⟨y, hy, hg⟩ := he.op (by omega) htr (fun m hm' => hwt m (List.mem_cons_of_mem _ (List.mem_append_left _
          (weightsAll_mem (List.mem_map.2 ⟨x1, List.mem_of_getElem? hx1, rfl⟩) m hm'))))
          (Nat.le_trans (part_le (List.mem_map.2 ⟨x1, List.mem_of_getElem? hx1, rfl⟩)) (Nat.le_of_succ_le (Nat.le_trans (slice_le _ _) hk)))
        refine ⟨y, hg, c, kd.K_len hy, hy, fun j u hj => ?_⟩
        unfold World.cells? at hcs
        split at hcs
        · have hjl : j < c.length := (List.getElem?_eq_some_iff.1 hj).1
          have hcl := kd.K_len hy
          have := mapM_some_get hcs j j (List.getElem?_range (by rw [← he.sz]; omega))
          rw [hj, Addr.add_add, ← he.sz] at this
          exact this
        · cases hcs
      obtain ⟨ys, hyl, hys⟩ := choose_list len _ each
      refine ⟨ys, ⟨some a, cap, by rw [hyl], by omega, ?_⟩, ?_, ?_, ?_⟩
      · refine ⟨rfl, by simp only [maxLen] at hm; omega, fun _ => ⟨a, rfl, fun j p hp => ?_⟩⟩
        obtain ⟨_, c, h1, h2, h3⟩ := hys j p hp
        exact ⟨c, h1, h2, h3⟩
      · have h1 := length_le (elems.map (·.1))
        have h2 := slice_le (elems.map (·.1)) (rest.map (·.1))
        rw [List.length_map] at h1
        have hk' : Rows.uptoBulk (DataW.slice (elems.map (·.1)) (rest.map (·.1))) ≤ 1048576 := hk
        omega
      · have := hwt _ (List.mem_cons_self ..)
        rw [hB] at this
        rw [hyl, ← hlen]
        have h2 : elems.length * B ≤ (elems.length + rest.length) * B := Nat.mul_le_mul_right _ (by omega)
        simp only [reachBytes] at this
        omega
      · intro y hy
        obtain ⟨i, hi⟩ := List.getElem?_of_mem hy
        exact (hys i y hi).1
def FieldsAt {α : Type} (F : Nat) (P : Program) (fs : List Field) (o : Nat) (kd : Kd α) (good : α → Prop) : Prop :=
  ∀ {H : Type} {enc : TypeId × Value → H} {W : World} {base : Nat} {spare : Nat → Bool} {held : Bool} {n : Nat} {cs : List Value} {xs : List (DataW H × List MemPlace)},
    n ≤ F → cs.length = o + kd.sz → xs.length = fs.length →
    (∀ (i : Nat) (f : Field), fs[i]? = some f → DataW.trod enc P W base spare held n f.type ((cs.drop f.offset).take (P.cellsOf f.type)) = xs[i]?) →
    (∀ m ∈ DataW.weightsEach P (fs.map (·.type)) (xs.map (·.1)), m ≤ reachBytes) → Rows.uptoBulkAll (xs.map (·.1)) ≤ 1048576 → ∃ y : α, kd.K W y (cs.drop o) ∧ good y
theorem fields_one {α : Type} {f : Field} {o : Nat} {kd : Kd α} {g : α → Prop} (ho : f.offset = o) (h : OpensAt F P f.type kd g) : FieldsAt F P [f] o kd g := by
  intro H enc W base spare held n cs xs hn hl hx hf hw hk
  have h1 := hf 0 f rfl
  match xs, hx with
  | [x], _ =>
    rw [ho, List.take_of_length_le (by rw [List.length_drop, ← h.sz]; omega)] at h1
    exact h.op hn h1 (fun m hm => hw m (by simp only [List.map, DataW.weightsEach]; exact List.mem_append_left _ hm)) (Nat.le_trans (part_le (by simp)) hk)
theorem fields_cons {α β : Type} {f : Field} {fs : List Field} {o : Nat} {kd : Kd α} {kd' : Kd β} {g : α → Prop} {g' : β → Prop} (ho : f.offset = o) (h : OpensAt F P f.type kd g)
    (h' : FieldsAt F P fs (o + kd.sz) kd' g') : FieldsAt F P (f :: fs) o (Kd.pair kd kd') (fun y => g y.1 ∧ g' y.2) := by
  intro H enc W base spare held n cs xs hn hl hx hf hw hk
  match xs, hx with
  | x :: xs, hx =>
    have h1 := hf 0 f rfl
    rw [ho] at h1
    obtain ⟨y, hy, hg⟩ := h.op hn h1 (fun m hm => hw m (by simp only [List.map, DataW.weightsEach]; exact List.mem_append_left _ hm)) (Nat.le_trans (part_le (by simp)) hk)
    have hsz : (Kd.pair kd kd').sz = kd.sz + kd'.sz := rfl
    obtain ⟨z, hz, hg'⟩ := h' (xs := xs) hn (by rw [hl, hsz]; omega) (by simpa using hx) (fun i f' hf' => by simpa using hf (i + 1) f' (by simpa using hf'))
      (fun m hm => hw m (by simp only [List.map, DataW.weightsEach]; exact List.mem_append_right _ hm)) (by
      simp only [List.map, Rows.uptoBulkAll] at hk
      omega)
    refine ⟨(y, z), ⟨_, _, ?_, hy, hz⟩, hg, hg'⟩
    rw [← h.sz, ← List.drop_drop, List.take_append_drop]
theorem at_struct {α : Type} {fs : Array Field} {fl : List Field} {kd : Kd α} {g : α → Prop} (hu : P.underlying t = some (.struct fs)) (hl : fs.toList = fl) (hc : P.cellsOf t = kd.sz) (h : FieldsAt F P fl 0 kd g) : OpensAt (F + 1) P t kd g where
  sz := hc.symm
  op := by
    intro H enc W base spare held fuel cs x hf h0 hw hk
    obtain ⟨xs, n, rfl, rfl, hcl, hxl, hx⟩ := DataW.trod_struct hu h0
    have := h (xs := xs) (n := n) (by omega) (by rw [hcl, hc]; omega) (by rw [hxl, ← hl]; simp) (fun i f hf => hx i f (by rw [← hl] at hf; simpa using hf)) (fun m hm => hw m (by
      simp only [DataW.weights, hu]
      rw [hl]
      exact hm)) (by
      simp only [Rows.uptoBulk] at hk
      omega)
    simpa using this
theorem OpensAt.good_imp {α : Type} {kd : Kd α} {g g' : α → Prop} (h : OpensAt F P t kd g) (hg : ∀ x, g x → g' x) : OpensAt F P t kd g' where
  sz := h.sz
  op := fun hf h0 hw hk => by
    obtain ⟨y, hy, hgy⟩ := h.op hf h0 hw hk
    exact ⟨y, hy, hg y hgy⟩
theorem OpensAt.weaken {α : Type} {kd : Kd α} {g : α → Prop} (h : OpensAt (F + 1) P t kd g) : OpensAt F P t kd g where
  sz := h.sz
  op := fun hf h0 hw hk => h.op (Nat.le_succ_of_le hf) h0 hw hk
theorem opens_int {k : IntKind} (hu : P.underlying t = some (.int k)) (hc : P.cellsOf t = 1) : Opens P t (Kd.int k) (fun x => (Lit.int k x).wf = true) := fun _ => at_int hu hc
theorem opens_bool (hu : P.underlying t = some .bool) (hc : P.cellsOf t = 1) : Opens P t Kd.bool (fun _ => True) := fun _ => at_bool hu hc
theorem opens_slice {α : Type} {kd : Kd α} {g : α → Prop} {B : Nat} (hu : P.underlying t = some (.slice e)) (hc : P.cellsOf t = 1) (hB : P.bytesOf e = B) (he : Opens P e kd g) :
    Opens P t (Kd.slice e kd) (GoodB B g) := fun F => (at_slice hu hc hB (he F)).weaken
def Fields {α : Type} (P : Program) (fs : List Field) (o : Nat) (kd : Kd α) (good : α → Prop) : Prop := ∀ F, FieldsAt F P fs o kd good
theorem fields1 {α : Type} {f : Field} {o : Nat} {kd : Kd α} {g : α → Prop} (ho : f.offset = o) (h : Opens P f.type kd g) : Fields P [f] o kd g := fun F => fields_one ho (h F)
theorem fields2 {α β : Type} {f : Field} {fs : List Field} {o : Nat} {kd : Kd α} {kd' : Kd β} {g : α → Prop} {g' : β → Prop} (ho : f.offset = o) (h : Opens P f.type kd g)
    (h' : Fields P fs (o + kd.sz) kd' g') : Fields P (f :: fs) o (Kd.pair kd kd') (fun y => g y.1 ∧ g' y.2) := fun F => fields_cons ho (h F) (h' F)
theorem opens_struct {α : Type} {fs : Array Field} {fl : List Field} {kd : Kd α} {g : α → Prop} (hu : P.underlying t = some (.struct fs)) (hl : fs.toList = fl) (hc : P.cellsOf t = kd.sz) (h : Fields P fl 0 kd g) : Opens P t kd g :=
  fun F => (at_struct hu hl hc (h F)).weaken
theorem open_arg {α : Type} {kd : Kd α} {g : α → Prop} (h : ∀ F, OpensAt F P t kd g) {H : Type} {enc : TypeId × Value → H} {W : World} {base : Nat} {spare : Nat → Bool} {held : Bool} {v : Value} {d : DataW H} {ps : List MemPlace}
    {ts : List TypeId} {ds : List (DataW H)} {j : Nat} (hsz : (DataW.weightsEach P ts ds).all (· ≤ reachBytes) = true) (ht : ts[j]? = some t) (hd : ds[j]? = some d) (hk : Rows.uptoBulkAll ds ≤ 1048576)
    (hr : DataW.Trod enc P W base spare held t v d ps) : ∃ y : α, kd.K W y v.cells.toList ∧ g y := by
  obtain ⟨fuel, hf⟩ := hr
  exact (h fuel).op (Nat.le_refl _) hf (fun m hm => by
    have := List.all_eq_true.1 hsz m (DataW.weights_mem_each ht hd m hm)
    simpa using this) (Nat.le_trans (part_le (List.mem_of_getElem? hd)) hk)
end Go.Proofs.Ytfdkcnbkoagmiaa.OpenB
end

section
namespace Go.Proofs.Ytfdkcnbkoagmiaa.StrB
open Go Go.RowKit Go.Proofs.YtfdkcnbkoagmiaaW.PrintWords Go.Proofs.Ytfdkcnbkoagmiaa.Open Go.Proofs.Ytfdkcnbkoagmiaa.OpenB
open Go.Proofs.Ytfdkcnbkoagmiaa.LinS (inB)
def gB (x : Int) : Prop := (Lit.int .u8 x).wf = true
def gI (x : Int) : Prop := (Lit.int .i64 x).wf = true
theorem b_u8 : OpenB.Opens Try.prog 5 (Kd.int .u8) gB := OpenB.opens_int Try.underlying5 (by kernel_rfl)
theorem b_int : OpenB.Opens Try.prog 3 (Kd.int .i64) gI := OpenB.opens_int Try.underlying3 (by kernel_rfl)
def kStr : Kd (List Int × List Int) := Kd.pair (Kd.slice 5 (Kd.int .u8)) (Kd.slice 3 (Kd.int .i64))
def gStr (y : List Int × List Int) : Prop := GoodB 1 gB y.1 ∧ GoodB 8 gI y.2
theorem b_str : OpenB.Opens Try.prog 73 kStr gStr :=
  OpenB.opens_struct Try.underlying73 rfl (by kernel_rfl) (OpenB.fields2 rfl (OpenB.opens_slice Try.underlying26 (by kernel_rfl) (by kernel_rfl) b_u8) (OpenB.fields1 rfl (OpenB.opens_slice Try.underlying23 (by kernel_rfl) (by kernel_rfl) b_int)))
theorem in_of {l : List Int} (h : ∀ x ∈ l, gB x) : inB l := fun x hx => by
  have := h x hx
  simp [gB, Lit.wf, IntKind.min, IntKind.max, IntKind.signed, IntKind.bits] at this
  omega
theorem str_open {w : World} {y : List Int × List Int} {cs : List Value} (h : kStr.K w y cs) : ∃ A c A2 c2, cs = [.slice A y.1.length c, .slice A2 y.2.length c2] ∧ y.1.length ≤ c ∧ (Kd.int .u8).C w A y.1.length y.1 ∧ y.2.length ≤ c2 ∧ (Kd.int .i64).C w A2 y.2.length y.2 := by
  obtain ⟨c1, c2, rfl, ⟨A, c, rfl, h1, h2⟩, ⟨A2, c2', rfl, h3, h4⟩⟩ := h
  exact ⟨A, c, A2, c2', rfl, h1, h2, h3, h4⟩
end Go.Proofs.Ytfdkcnbkoagmiaa.StrB
end

section
namespace Go.Proofs.Ytfdkcnbkoagmiaa.BndS
open Go.Proofs.Ytfdkcnbkoagmiaa.LinS Go.Proofs.Ytfdkcnbkoagmiaa.ParS
set_option linter.unusedVariables false
def Sml (l : List (List Int)) : Prop := l.length ≤ 5000 ∧ ∀ y ∈ l, y.length ≤ 5000
theorem ln_sml : ∀ (n : Nat) (l : List Int) (out ws : List (List Int)), l.length ≤ n → ln l out = some ws → ∀ y ∈ ws, y ∈ out ∨ y.length ≤ l.length := by
  intro n
  induction n with
  | zero => intro l out ws hl h y hy; obtain rfl : l = [] := List.length_eq_zero_iff.1 (by omega); rw [ln_nil] at h; obtain rfl := Option.some.inj h; exact .inl hy
  | succ n ih =>
    intro l out ws hl h y hy
    cases l with
    | nil => rw [ln_nil] at h; obtain rfl := Option.some.inj h; exact .inl hy
    | cons c r =>
      simp only [List.length_cons] at hl ⊢
      by_cases hb : LinS.blank c = true
      · rw [ln_blank r out hb] at h
        rcases ih r out ws (by omega) h y hy with h1 | h1
        · exact .inl h1
        · exact .inr (by omega)
      · have hb' : LinS.blank c = false := Bool.eq_false_iff.2 hb
        cases hw : wd (c :: r) [] with
        | none => rw [ln_none hb' hw] at h; cases h
        | some pr =>
          obtain ⟨w, rest⟩ := pr
          rw [ln_word hb' hw] at h
          obtain ⟨k1, k2, _, k4⟩ := wd_le _ _ _ _ hw
          simp only [List.length_cons, List.length_nil] at k1 k2 k4
          have k5 := k4 ⟨c, r, rfl, hb'⟩
          rcases ih rest _ ws (by omega) h y hy with h1 | h1
          · rcases List.mem_append.1 h1 with h1 | h1
            · exact .inl h1
            · rw [List.mem_singleton.1 h1]; exact .inr (by omega)
          · exact .inr (by omega)
theorem line_sml (b : List Int) (hb : b.length ≤ 5000) : Sml (LinS.line b).1 := by
  refine ⟨by have := line_len b; omega, fun y hy => ?_⟩
  unfold LinS.line at hy
  split at hy
  · cases hy
  · split at hy
    · cases hy
    · next out he =>
      split at hy
      · cases hy
      · rcases ln_sml b.length b [] out (Nat.le_refl _) he y hy with h | h
        · cases h
        · omega
structure Bnd (p : PS) : Prop where
  args : ∀ y ∈ p.args, y.length ≤ 5000
  out : ∀ x ∈ p.out, Sml x
theorem Bnd.whole {p : PS} {l : List (List Int)} {s : St} (h : Bnd p) (hl : Sml l) : Bnd (whole { p with args := l, st := s }) := by
  refine ⟨fun y hy => by simp [ParS.whole] at hy, fun x hx => ?_⟩
  unfold ParS.whole at hx
  dsimp only at hx
  split at hx
  · exact h.out x hx
  · rcases List.mem_append.1 hx with hx | hx
    · exact h.out x hx
    · rw [List.mem_singleton.1 hx]; exact hl
theorem Bnd.lineB {p : PS} {c : Int} (h : Bnd p) (hc : p.cur.length ≤ 5000) : Bnd (lineB p c).1 := by
  unfold ParS.lineB
  split
  · exact ⟨h.args, h.out⟩
  · split
    · exact h
    · exact h.whole (s := p.st) (line_sml _ hc)
theorem Bnd.step {p : PS} {c : Int} (h : Bnd p) (hi : Inv p) : Bnd (ParS.step p c).1 := by
  have hal := hi.args
  have hcl := hi.cur
  have hsm : Sml p.args := ⟨by omega, h.args⟩
  unfold ParS.step
  cases p.st <;> dsimp only
  · split
    · exact ⟨h.args, h.out⟩
    · exact Bnd.lineB (p := { p with cur := [], st := .line }) ⟨h.args, h.out⟩ (by simp)
  · unfold ParS.digitB; repeat' split
    all_goals exact ⟨h.args, h.out⟩
  · exact ⟨h.args, h.out⟩
  · exact ⟨h.args, h.out⟩
  · unfold ParS.numFB
    split
    · exact h
    · split
      · exact ⟨h.args, h.out⟩
      · split
        · exact h.whole (l := p.args) (s := p.st) hsm
        · exact ⟨fun y hy => (by cases hy), h.out⟩
  · exact ⟨h.args, h.out⟩
  · exact ⟨h.args, h.out⟩
  · exact ⟨h.args, h.out⟩
  · have ha2 : ∀ y ∈ p.args ++ [p.cur], y.length ≤ 5000 := fun y hy => by
      rcases List.mem_append.1 hy with hy | hy
      · exact h.args y hy
      · rw [List.mem_singleton.1 hy]; omega
    unfold ParS.contFB
    split
    · exact h
    · split
      · exact h.whole (l := p.args ++ [p.cur]) (s := .dollar) ⟨by rw [List.length_append, List.length_singleton]; omega, ha2⟩
      · exact ⟨ha2, h.out⟩
  · exact h.lineB (by omega)
theorem Bnd.runB {p : PS} {c : Int} (h : Bnd p) (hi : Inv p) : Bnd (runB p c) := by
  unfold ParS.runB
  split
  · exact h
  · next hb =>
    have hb0 : p.broken = 0 := Decidable.not_not.1 hb
    have hs := Bnd.step (p := { p with held := p.held + 1 }) (c := c) ⟨h.args, h.out⟩ (hi.held hb0 _)
    unfold step1
    split
    · exact ⟨fun y hy => (by cases hy), hs.out⟩
    · exact hs
theorem Bnd.run : ∀ (b : List Int) {p : PS}, Bnd p → Inv p → Bnd (run p b) := by
  intro b
  induction b with
  | nil => intro p h _; exact h
  | cons c b ih => intro p h hi; rw [run_cons]; exact ih (h.runB hi) (hi.runB c)
theorem bnd_new (b : List Int) : ∀ x ∈ (run new b).out, Sml x := (Bnd.run b (p := new) ⟨fun y hy => by simp [new] at hy, fun x hx => by simp [new] at hx⟩ inv_new).out
end Go.Proofs.Ytfdkcnbkoagmiaa.BndS
end

section
namespace Go.Proofs.Ytfdkcnbkoagmiaa.PA
open Go.RowKit Go.Proofs.YtfdkcnbkoagmiaaW.PrintWords Go.Proofs.YtfdkcnbkoagmiaaW.PrintLast Go.Proofs.YtfdkcnbkoagmiaaW.PrintMore
attribute [local go_sem] max2_int min2_int max_two min_two max_three min_three max_four min_four   -- for this text's walks alone
set_option linter.unusedVariables false
set_option linter.unusedSimpArgs false
mutual
def larderref0_Cmp.l0 : Nat → List Int → List Int → Int → Option (Int)
  | 0, _, _, _ => none
  | k + 1, x0, x1, x5 => if x5 < (x0.length : Int) then (larderref0_Cmp.j1 k x0 x1 x5 (decide (x5 < (x1.length : Int)))) else (larderref0_Cmp.j1 k x0 x1 x5 false)
def larderref0_Cmp.j1 : Nat → List Int → List Int → Int → Bool → Option (Int)
  | 0, _, _, _, _ => none
  | k + 1, x0, x1, x5, x15 => if x15 = true then (if 0 ≤ x5 then (if x5 < (x0.length : Int) then (if x5 < (x1.length : Int) then (if (rd x0 x5) < (rd x1 x5) then (some (-1)) else (if (rd x0 x5) > (rd x1 x5) then (some 1) else (larderref0_Cmp.l0 k x0 x1 (wrap64 (x5 + 1))))) else (none)) else (none)) else (none)) else (if (x0.length : Int) < (x1.length : Int) then (some (-1)) else (if (x0.length : Int) > (x1.length : Int) then (some 1) else (some 0)))
end
def larderref0_Cmp.f (k : Nat) (l0 : List Int) (l1 : List Int) : Option (Int) := larderref0_Cmp.l0 k l0 l1 0
theorem larderref0_Cmp.mono_l : ∀ k, (∀ y0 y1 y2, LeO (larderref0_Cmp.l0 k y0 y1 y2) (larderref0_Cmp.l0 (k + 1) y0 y1 y2)) ∧ (∀ y0 y1 y2 y3, LeO (larderref0_Cmp.j1 k y0 y1 y2 y3) (larderref0_Cmp.j1 (k + 1) y0 y1 y2 y3))
  | 0 => ⟨fun _ _ _ r h => by simp [larderref0_Cmp.l0] at h, fun _ _ _ _ r h => by simp [larderref0_Cmp.j1] at h⟩
  | k + 1 => by
    obtain ⟨ih0, ih1⟩ := larderref0_Cmp.mono_l k
    refine ⟨?_, ?_⟩
    · intro y0 y1 y2
      unfold larderref0_Cmp.l0
      repeat' first
      | (with_reducible exact ih0 _ _ _)
      | (with_reducible exact ih1 _ _ _ _)
      | (with_reducible exact LeO.refl _)
      | (with_reducible exact LeO.none _)
      | (with_reducible refine LeO.ite ?_ ?_)
      | (with_reducible refine LeO.bind ?_ (fun _ => ?_))
      | exact ih0 _ _ _
      | exact ih1 _ _ _ _
      | exact LeO.none _
      | refine LeO.ite ?_ ?_
      | refine LeO.bind ?_ (fun _ => ?_)
    · intro y0 y1 y2 y3
      unfold larderref0_Cmp.j1
      repeat' first
      | (with_reducible exact ih0 _ _ _)
      | (with_reducible exact ih1 _ _ _ _)
      | (with_reducible exact LeO.refl _)
      | (with_reducible exact LeO.none _)
      | (with_reducible refine LeO.ite ?_ ?_)
      | (with_reducible refine LeO.bind ?_ (fun _ => ?_))
      | exact ih0 _ _ _
      | exact ih1 _ _ _ _
      | exact LeO.none _
      | refine LeO.ite ?_ ?_
      | refine LeO.bind ?_ (fun _ => ?_)
theorem larderref0_Cmp.mono : ∀ a0 a1 k, LeO (larderref0_Cmp.f k a0 a1) (larderref0_Cmp.f (k + 1) a0 a1) := by
  intro a0 a1 k
  obtain ⟨ih0, ih1⟩ := larderref0_Cmp.mono_l k
  unfold larderref0_Cmp.f
  repeat' first
      | (with_reducible exact ih0 _ _ _)
      | (with_reducible exact ih1 _ _ _ _)
      | (with_reducible exact LeO.refl _)
      | (with_reducible exact LeO.none _)
      | (with_reducible refine LeO.ite ?_ ?_)
      | (with_reducible refine LeO.bind ?_ (fun _ => ?_))
      | exact ih0 _ _ _
      | exact ih1 _ _ _ _
      | exact LeO.none _
      | refine LeO.ite ?_ ?_
      | refine LeO.bind ?_ (fun _ => ?_)
set_option maxHeartbeats 8000000 in
set_option maxRecDepth 100000 in
theorem larderref0_Cmp.calls (k : Nat) (A0 : Option Addr) (c0 : Nat) (l0 : List Int) (A1 : Option Addr) (c1 : Nat) (l1 : List Int) (r : Int) (w : World) (hr0 : Kd.C (Kd.int .u8) w A0 l0.length l0) (hc0 : l0.length ≤ c0) (hr1 : Kd.C (Kd.int .u8) w A1 l1.length l1) (hc1 : l1.length ≤ c1) (h : larderref0_Cmp.f k l0 l1 = some r) :
    Calls Try.prog 31 #[.slice A0 l0.length c0, .slice A1 l1.length c1] w fun e w' => e = .returned (.int .i64 r) ∧ Drawn0 w w' := by
  have HR0 := Aside0.mk hr0
  have HC0 := Aside0.mk hc0
  clear hr0 hc0
  have HR1 := Aside0.mk hr1
  have HC1 := Aside0.mk hc1
  clear hr1 hc1
  have H : (larderref0_Cmp.l0 k l0 l1 0) = some r := h
  clear h
  have H' := Aside0.mk H
  clear H
  go_enter Try.func31, Try.ntmps31
  go_wp2
  repeat (go_quiet (fail); try go_wp2)
  go_loopg [5] k (fun kq v5 w' => ∃ (x5_1 : Int), v5 = .int .i64 x5_1 ∧ Aside0 (larderref0_Cmp.l0 kq l0 l1 x5_1 = some r) ∧ Aside0 (kq ≤ k) ∧ Drawn0 w w')
  case atStart => exact ⟨(0), (by first | rfl | (simp; done) | (simp [*]; done)), H', ⟨Nat.le_refl _⟩, by repeat (first | exact Drawn0.refl _ | apply Drawn0.step)⟩
  case round =>
    clear H'
    try clear c1
    try clear p2
    obtain ⟨x5_1, rfl, HA, HK1, ⟨m1, rfl⟩⟩ := hrel
    cases gk with
    | zero => exact absurd HA.out (by simp [larderref0_Cmp.l0])
    | succ k1 =>
      have H := HA.out
      clear HA
      simp only [larderref0_Cmp.l0] at H
      have HC3 := Aside0.mk H
      clear H
      go_upto_region 2 with (fail)
      repeat (go_quiet (fail); go_upto_region 2 with (fail))
      go_cut [15] (fun v15 wc => ∃ (kq : Nat) (x15_2 : Bool), v15 = .bool x15_2 ∧ Aside0 (larderref0_Cmp.j1 kq l0 l1 x5_1 x15_2 = some r) ∧ Aside0 (kq ≤ k1) ∧ Drawn0 w wc)
      case first =>
        have H := HC3.out
        clear HC3
        by_cases c4 : x5_1 < (l0.length : Int)
        · rw [if_pos c4] at H
          have c4b0 : decide (x5_1 < (l0.length : Int)) = true := decide_eq_true c4
          clear c4
          (first | rw [c4b0] | (simp only [i64_w, i32_w]; rw [c4b0]) | skip)
          have H' := Aside0.mk H
          clear H
          go_wp2
          repeat (go_quiet (fail); try go_wp2)
          go_meet
          case rel => exact ⟨_, (decide (x5_1 < (l1.length : Int))), (by first | rfl | (simp; done) | (simp [*]; done)), H', ⟨by have := HK1.out; first | omega | exact Nat.le_refl _⟩, by repeat (first | exact Drawn0.refl _ | apply Drawn0.step)⟩
        · rw [if_neg c4] at H
          have c4b0 : decide (x5_1 < (l0.length : Int)) = false := decide_eq_false c4
          clear c4
          (first | rw [c4b0] | (simp only [i64_w, i32_w]; rw [c4b0]) | skip)
          have H' := Aside0.mk H
          clear H
          go_wp2
          repeat (go_quiet (fail); try go_wp2)
          go_meet
          case rel => exact ⟨_, (false), (by first | rfl | (simp; done) | (simp [*]; done)), H', ⟨by have := HK1.out; first | omega | exact Nat.le_refl _⟩, by repeat (first | exact Drawn0.refl _ | apply Drawn0.step)⟩
      case rest =>
        clear HC3
        try clear c1
        try clear p2
        try clear c3
        try clear c4
        try clear c4b0
        try clear p2
        obtain ⟨kq, x15_2, rfl, HA, HJ2, ⟨mc2, rfl⟩⟩ := hcut
        cases kq with
        | zero => exact absurd HA.out (by simp [larderref0_Cmp.j1])
        | succ kj2 =>
          have H := HA.out
          clear HA
          simp only [larderref0_Cmp.j1] at H
          by_cases c5 : x15_2 = true
          · subst c5
            have H1 : (if 0 ≤ x5_1 then (if x5_1 < (l0.length : Int) then (if x5_1 < (l1.length : Int) then (if (rd l0 x5_1) < (rd l1 x5_1) then (some (-1)) else (if (rd l0 x5_1) > (rd l1 x5_1) then (some 1) else (larderref0_Cmp.l0 kj2 l0 l1 (wrap64 (x5_1 + 1))))) else (none)) else (none)) else (none)) = some r := by rw [if_pos rfl] at H; exact H
            clear H
            have H := H1
            clear H1
            by_cases c6 : 0 ≤ x5_1
            · rw [if_pos c6] at H
              have c6b0 : decide (0 ≤ x5_1) = true := decide_eq_true c6
              clear c6
              by_cases c7 : x5_1 < (l0.length : Int)
              · rw [if_pos c7] at H
                have c7b0 : decide (x5_1 < (l0.length : Int)) = true := decide_eq_true c7
                clear c7
                by_cases c8 : x5_1 < (l1.length : Int)
                · rw [if_pos c8] at H
                  have c8b0 : decide (x5_1 < (l1.length : Int)) = true := decide_eq_true c8
                  clear c8
                  by_cases c9 : (rd l0 x5_1) < (rd l1 x5_1)
                  · rw [if_pos c9] at H
                    have c9b0 : decide ((rd l0 x5_1) < (rd l1 x5_1)) = true := decide_eq_true c9
                    clear c9
                    obtain rfl := Option.some.inj H
                    have p131 : 0 ≤ (x5_1 : Int) := of_decide_eq_true (by first | (with_reducible assumption) | assumption)
                    have q131 : x5_1 < (l0.length : Int) := of_decide_eq_true (by first | (with_reducible assumption) | assumption)
                    obtain ⟨ad131, e131, hx131_0⟩ := Kd.at_int HR0.out x5_1 p131 q131
                    cases e131
                    replace p131 := eq_true p131
                    replace q131 := eq_true q131
                    have p132 : 0 ≤ (x5_1 : Int) := of_decide_eq_true (by first | (with_reducible assumption) | assumption)
                    have q132 : x5_1 < (l1.length : Int) := of_decide_eq_true (by first | (with_reducible assumption) | assumption)
                    obtain ⟨ad132, e132, hx132_0⟩ := Kd.at_int HR1.out x5_1 p132 q132
                    cases e132
                    replace p132 := eq_true p132
                    replace q132 := eq_true q132
                    go_wp2
                    repeat (go_quiet (fail); try go_wp2)
                    go_ret
                    exact ⟨by first | rfl | (simp; done) | (simp [*]; done), by repeat (first | exact Drawn0.refl _ | apply Drawn0.step)⟩
                  · rw [if_neg c9] at H
                    have c9b0 : decide ((rd l0 x5_1) < (rd l1 x5_1)) = false := decide_eq_false c9
                    clear c9
                    by_cases c10 : (rd l0 x5_1) > (rd l1 x5_1)
                    · rw [if_pos c10] at H
                      have c10b0 : decide ((rd l1 x5_1) < (rd l0 x5_1)) = true := decide_eq_true c10
                      clear c10
                      obtain rfl := Option.some.inj H
                      have p131 : 0 ≤ (x5_1 : Int) := of_decide_eq_true (by first | (with_reducible assumption) | assumption)
                      have q131 : x5_1 < (l0.length : Int) := of_decide_eq_true (by first | (with_reducible assumption) | assumption)
                      obtain ⟨ad131, e131, hx131_0⟩ := Kd.at_int HR0.out x5_1 p131 q131
                      cases e131
                      replace p131 := eq_true p131
                      replace q131 := eq_true q131
                      have p132 : 0 ≤ (x5_1 : Int) := of_decide_eq_true (by first | (with_reducible assumption) | assumption)
                      have q132 : x5_1 < (l1.length : Int) := of_decide_eq_true (by first | (with_reducible assumption) | assumption)
                      obtain ⟨ad132, e132, hx132_0⟩ := Kd.at_int HR1.out x5_1 p132 q132
                      cases e132
                      replace p132 := eq_true p132
                      replace q132 := eq_true q132
                      have p133 : 0 ≤ (x5_1 : Int) := of_decide_eq_true (by first | (with_reducible assumption) | assumption)
                      have q133 : x5_1 < (l0.length : Int) := of_decide_eq_true (by first | (with_reducible assumption) | assumption)
                      obtain ⟨ad133, e133, hx133_0⟩ := Kd.at_int HR0.out x5_1 p133 q133
                      obtain rfl : ad131 = ad133 := (by injection e133)
                      replace p133 := eq_true p133
                      replace q133 := eq_true q133
                      have p134 : 0 ≤ (x5_1 : Int) := of_decide_eq_true (by first | (with_reducible assumption) | assumption)
                      have q134 : x5_1 < (l1.length : Int) := of_decide_eq_true (by first | (with_reducible assumption) | assumption)
                      obtain ⟨ad134, e134, hx134_0⟩ := Kd.at_int HR1.out x5_1 p134 q134
                      obtain rfl : ad132 = ad134 := (by injection e134)
                      replace p134 := eq_true p134
                      replace q134 := eq_true q134
                      go_wp2
                      repeat (go_quiet (fail); try go_wp2)
                      go_ret
                      exact ⟨by first | rfl | (simp; done) | (simp [*]; done), by repeat (first | exact Drawn0.refl _ | apply Drawn0.step)⟩
                    · rw [if_neg c10] at H
                      have c10b0 : decide ((rd l1 x5_1) < (rd l0 x5_1)) = false := decide_eq_false c10
                      clear c10
                      have H' := Aside0.mk H
                      clear H
                      have p131 : 0 ≤ (x5_1 : Int) := of_decide_eq_true (by first | (with_reducible assumption) | assumption)
                      have q131 : x5_1 < (l0.length : Int) := of_decide_eq_true (by first | (with_reducible assumption) | assumption)
                      obtain ⟨ad131, e131, hx131_0⟩ := Kd.at_int HR0.out x5_1 p131 q131
                      cases e131
                      replace p131 := eq_true p131
                      replace q131 := eq_true q131
                      have p132 : 0 ≤ (x5_1 : Int) := of_decide_eq_true (by first | (with_reducible assumption) | assumption)
                      have q132 : x5_1 < (l1.length : Int) := of_decide_eq_true (by first | (with_reducible assumption) | assumption)
                      obtain ⟨ad132, e132, hx132_0⟩ := Kd.at_int HR1.out x5_1 p132 q132
                      cases e132
                      replace p132 := eq_true p132
                      replace q132 := eq_true q132
                      have p133 : 0 ≤ (x5_1 : Int) := of_decide_eq_true (by first | (with_reducible assumption) | assumption)
                      have q133 : x5_1 < (l0.length : Int) := of_decide_eq_true (by first | (with_reducible assumption) | assumption)
                      obtain ⟨ad133, e133, hx133_0⟩ := Kd.at_int HR0.out x5_1 p133 q133
                      obtain rfl : ad131 = ad133 := (by injection e133)
                      replace p133 := eq_true p133
                      replace q133 := eq_true q133
                      have p134 : 0 ≤ (x5_1 : Int) := of_decide_eq_true (by first | (with_reducible assumption) | assumption)
                      have q134 : x5_1 < (l1.length : Int) := of_decide_eq_true (by first | (with_reducible assumption) | assumption)
                      obtain ⟨ad134, e134, hx134_0⟩ := Kd.at_int HR1.out x5_1 p134 q134
                      obtain rfl : ad132 = ad134 := (by injection e134)
                      replace p134 := eq_true p134
                      replace q134 := eq_true q134
                      go_wp2
                      repeat (go_quiet (fail); try go_wp2)
                      go_roundg kj2
                      case measure => have := HK1.out; have := HJ2.out; omega
                      case rel => exact ⟨(wrap64 (x5_1 + 1)), (by first | rfl | (simp; done) | (simp [*]; done)), H', ⟨by have := HK1.out; have := HJ2.out; omega⟩, by repeat (first | exact Drawn0.refl _ | apply Drawn0.step)⟩
                · rw [if_neg c8] at H
                  exact absurd H (by simp)
              · rw [if_neg c7] at H
                exact absurd H (by simp)
            · rw [if_neg c6] at H
              exact absurd H (by simp)
          · replace c5 := Bool.eq_false_iff.mpr c5
            subst c5
            have H1 : (if (l0.length : Int) < (l1.length : Int) then (some (-1)) else (if (l0.length : Int) > (l1.length : Int) then (some 1) else (some 0))) = some r := by rw [if_neg (show ¬ (false = true) by decide)] at H; exact H
            clear H
            have H := H1
            clear H1
            by_cases c11 : (l0.length : Int) < (l1.length : Int)
            · rw [if_pos c11] at H
              have c11b0 : decide ((l0.length : Int) < (l1.length : Int)) = true := decide_eq_true c11
              have c11b1 : decide (l0.length < l1.length) = true := decide_eq_true (Int.ofNat_lt.mp c11)
              clear c11
              obtain rfl := Option.some.inj H
              go_wp2
              repeat (go_quiet (fail); try go_wp2)
              go_ret
              exact ⟨by first | rfl | (simp; done) | (simp [*]; done), by repeat (first | exact Drawn0.refl _ | apply Drawn0.step)⟩
            · rw [if_neg c11] at H
              have c11b0 : decide ((l0.length : Int) < (l1.length : Int)) = false := decide_eq_false c11
              have c11b1 : decide (l0.length < l1.length) = false := decide_eq_false (fun h => c11 (Int.ofNat_lt.mpr h))
              clear c11
              by_cases c12 : (l0.length : Int) > (l1.length : Int)
              · rw [if_pos c12] at H
                have c12b0 : decide ((l1.length : Int) < (l0.length : Int)) = true := decide_eq_true c12
                have c12b1 : decide (l1.length < l0.length) = true := decide_eq_true (Int.ofNat_lt.mp c12)
                clear c12
                obtain rfl := Option.some.inj H
                go_wp2
                repeat (go_quiet (fail); try go_wp2)
                go_ret
                exact ⟨by first | rfl | (simp; done) | (simp [*]; done), by repeat (first | exact Drawn0.refl _ | apply Drawn0.step)⟩
              · rw [if_neg c12] at H
                have c12b0 : decide ((l1.length : Int) < (l0.length : Int)) = false := decide_eq_false c12
                have c12b1 : decide (l1.length < l0.length) = false := decide_eq_false (fun h => c12 (Int.ofNat_lt.mpr h))
                clear c12
                obtain rfl := Option.some.inj H
                go_wp2
                repeat (go_quiet (fail); try go_wp2)
                go_ret
                exact ⟨by first | rfl | (simp; done) | (simp [*]; done), by repeat (first | exact Drawn0.refl _ | apply Drawn0.step)⟩
end Go.Proofs.Ytfdkcnbkoagmiaa.PA
end

section
namespace Go.Proofs.Ytfdkcnbkoagmiaa.PA
open Go.RowKit Go.Proofs.YtfdkcnbkoagmiaaW.PrintWords Go.Proofs.YtfdkcnbkoagmiaaW.PrintLast Go.Proofs.YtfdkcnbkoagmiaaW.PrintMore
attribute [local go_sem] max2_int min2_int max_two min_two max_three min_three max_four min_four   -- for this text's walks alone
set_option linter.unusedVariables false
set_option linter.unusedSimpArgs false
def larderref0_Eq.f (k : Nat) (l0 : List Int) (l1 : List Int) : Option (Bool) := (larderref0_Cmp.f k l0 l1).bind fun t135 => (some (t135 == 0))
theorem larderref0_Eq.mono : ∀ a0 a1 k, LeO (larderref0_Eq.f k a0 a1) (larderref0_Eq.f (k + 1) a0 a1) := by
  intro a0 a1 k
  unfold larderref0_Eq.f
  repeat' first
      | (with_reducible exact larderref0_Cmp.mono _ _ _)
      | (with_reducible exact LeO.refl _)
      | (with_reducible exact LeO.none _)
      | (with_reducible refine LeO.ite ?_ ?_)
      | (with_reducible refine LeO.bind ?_ (fun _ => ?_))
      | exact larderref0_Cmp.mono _ _ _
      | exact LeO.none _
      | refine LeO.ite ?_ ?_
      | refine LeO.bind ?_ (fun _ => ?_)
set_option maxHeartbeats 8000000 in
set_option maxRecDepth 100000 in
theorem larderref0_Eq.calls (k : Nat) (A0 : Option Addr) (c0 : Nat) (l0 : List Int) (A1 : Option Addr) (c1 : Nat) (l1 : List Int) (r : Bool) (w : World) (hr0 : Kd.C (Kd.int .u8) w A0 l0.length l0) (hc0 : l0.length ≤ c0) (hr1 : Kd.C (Kd.int .u8) w A1 l1.length l1) (hc1 : l1.length ≤ c1) (h : larderref0_Eq.f k l0 l1 = some r) :
    Calls Try.prog 37 #[.slice A0 l0.length c0, .slice A1 l1.length c1] w fun e w' => e = .returned (.bool r) ∧ Drawn0 w w' := by
  have HR0 := Aside0.mk hr0
  have HC0 := Aside0.mk hc0
  clear hr0 hc0
  have HR1 := Aside0.mk hr1
  have HC1 := Aside0.mk hc1
  clear hr1 hc1
  have H : ((larderref0_Cmp.f k l0 l1).bind fun t135 => (some (t135 == 0))) = some r := h
  clear h
  replace H := Option.bind_eq_some_iff.mp H
  obtain ⟨t135, A30, H⟩ := H
  replace H : (some (t135 == 0)) = some r := H
  have A3 := Aside0.mk A30
  clear A30
  obtain rfl := Option.some.inj H
  go_enter Try.func37, Try.ntmps37
  go_wp2_with (first | ((with_reducible refine gate_callee (f := 31) rfl ?_); refine goesL_ (some 7) rfl rfl Try.func31 (by kernel_rfl) rfl #[.slice A0 l0.length c0, .slice A1 l1.length c1] rfl (by (try simp only [List.map_toArray, List.map_cons, List.map_nil]); first | done | rfl | (simp only [List.length_drop, List.length_take]; rfl)) ?_; (with_reducible refine (larderref0_Cmp.calls k _ _ l0 _ _ l1 t135 _ ?side1 ?side2 ?side3 ?side4 A3.out).mono ?_); (case side1 => repeat (first | exact HR0.out | (with_reducible refine Kd.C_alloc ?_ _) | (with_reducible refine Kd.C_drewN ?_ _) | (with_reducible refine Kd.C_drew ?_))); (case side2 => exact HC0.out); (case side3 => repeat (first | exact HR1.out | (with_reducible refine Kd.C_alloc ?_ _) | (with_reducible refine Kd.C_drewN ?_ _) | (with_reducible refine Kd.C_drew ?_))); (case side4 => exact HC1.out); rintro e w' ⟨rfl, ⟨nd, rfl⟩⟩; refine ⟨_, rfl, ?_⟩))
  go_ret
  exact ⟨by first | rfl | (simp; done) | (simp [*]; done), by repeat (first | exact Drawn0.refl _ | apply Drawn0.step)⟩
end Go.Proofs.Ytfdkcnbkoagmiaa.PA
end

section
namespace Go.Proofs.Ytfdkcnbkoagmiaa.PA
open Go.RowKit Go.Proofs.YtfdkcnbkoagmiaaW.PrintWords Go.Proofs.YtfdkcnbkoagmiaaW.PrintLast Go.Proofs.YtfdkcnbkoagmiaaW.PrintMore
attribute [local go_sem] max2_int min2_int max_two min_two max_three min_three max_four min_four   -- for this text's walks alone
set_option linter.unusedVariables false
set_option linter.unusedSimpArgs false
def larderref0_EqLists.l0 : Nat → List (List Int) → List (List Int) → Int → Option (Bool)
  | 0, _, _, _ => none
  | k + 1, x0, x1, x5 => if x5 < (x0.length : Int) then (if 0 ≤ x5 then (if x5 < (x1.length : Int) then ((larderref0_Cmp.f k (rd_L1 x0 x5) (rd_L1 x1 x5)).bind fun t138 => (if t138 = 0 then (larderref0_EqLists.l0 k x0 x1 (wrap64 (x5 + 1))) else (some false))) else (none)) else (none)) else (some true)
def larderref0_EqLists.f (k : Nat) (l0 : List (List Int)) (l1 : List (List Int)) : Option (Bool) := if (l0.length : Int) = (l1.length : Int) then (larderref0_EqLists.l0 k l0 l1 0) else (some false)
theorem larderref0_EqLists.mono_l : ∀ k, (∀ y0 y1 y2, LeO (larderref0_EqLists.l0 k y0 y1 y2) (larderref0_EqLists.l0 (k + 1) y0 y1 y2))
  | 0 => fun _ _ _ r h => by simp [larderref0_EqLists.l0] at h
  | k + 1 => by
    have ih0 := larderref0_EqLists.mono_l k
    · intro y0 y1 y2
      unfold larderref0_EqLists.l0
      repeat' first
      | (with_reducible exact ih0 _ _ _)
      | (with_reducible exact larderref0_Cmp.mono _ _ _)
      | (with_reducible exact LeO.refl _)
      | (with_reducible exact LeO.none _)
      | (with_reducible refine LeO.ite ?_ ?_)
      | (with_reducible refine LeO.bind ?_ (fun _ => ?_))
      | exact ih0 _ _ _
      | exact larderref0_Cmp.mono _ _ _
      | exact LeO.none _
      | refine LeO.ite ?_ ?_
      | refine LeO.bind ?_ (fun _ => ?_)
theorem larderref0_EqLists.mono : ∀ a0 a1 k, LeO (larderref0_EqLists.f k a0 a1) (larderref0_EqLists.f (k + 1) a0 a1) := by
  intro a0 a1 k
  have ih0 := larderref0_EqLists.mono_l k
  unfold larderref0_EqLists.f
  repeat' first
      | (with_reducible exact ih0 _ _ _)
      | (with_reducible exact larderref0_Cmp.mono _ _ _)
      | (with_reducible exact LeO.refl _)
      | (with_reducible exact LeO.none _)
      | (with_reducible refine LeO.ite ?_ ?_)
      | (with_reducible refine LeO.bind ?_ (fun _ => ?_))
      | exact ih0 _ _ _
      | exact larderref0_Cmp.mono _ _ _
      | exact LeO.none _
      | refine LeO.ite ?_ ?_
      | refine LeO.bind ?_ (fun _ => ?_)
set_option maxHeartbeats 8000000 in
set_option maxRecDepth 100000 in
theorem larderref0_EqLists.calls (k : Nat) (A0 : Option Addr) (c0 : Nat) (l0 : List (List Int)) (A1 : Option Addr) (c1 : Nat) (l1 : List (List Int)) (r : Bool) (w : World) (hr0 : Kd.C (Kd.slice 5 (Kd.int .u8)) w A0 l0.length l0) (hc0 : l0.length ≤ c0) (hr1 : Kd.C (Kd.slice 5 (Kd.int .u8)) w A1 l1.length l1) (hc1 : l1.length ≤ c1) (h : larderref0_EqLists.f k l0 l1 = some r) :
    Calls Try.prog 11 #[.slice A0 l0.length c0, .slice A1 l1.length c1] w fun e w' => e = .returned (.bool r) ∧ Drawn0 w w' := by
  have HR0 := Aside0.mk hr0
  have HC0 := Aside0.mk hc0
  clear hr0 hc0
  have HR1 := Aside0.mk hr1
  have HC1 := Aside0.mk hc1
  clear hr1 hc1
  have H : (if (l0.length : Int) = (l1.length : Int) then (larderref0_EqLists.l0 k l0 l1 0) else (some false)) = some r := h
  clear h
  by_cases c3 : (l0.length : Int) = (l1.length : Int)
  · rw [if_pos c3] at H
    have c3b0 : ((l0.length : Int) == (l1.length : Int)) = true := beq_iff_eq.mpr c3
    have c3b1 : ((l0.length : Int) != (l1.length : Int)) = false := bne_eq_false_iff_eq.mpr c3
    have c3b2 : (l0.length == l1.length) = true := by first | simpa using c3 | (simp at c3 ⊢; omega)
    clear c3
    have H' := Aside0.mk H
    clear H
    go_enter Try.func11, Try.ntmps11
    go_wp2
    repeat (go_quiet (fail); try go_wp2)
    go_loopg [5] k (fun kq v5 w' => ∃ (x5_1 : Int), v5 = .int .i64 x5_1 ∧ Aside0 (larderref0_EqLists.l0 kq l0 l1 x5_1 = some r) ∧ Aside0 (kq ≤ k) ∧ Drawn0 w w')
    case atStart => exact ⟨(0), (by first | rfl | (simp; done) | (simp [*]; done)), H', ⟨Nat.le_refl _⟩, by repeat (first | exact Drawn0.refl _ | apply Drawn0.step)⟩
    case round =>
      clear H'
      try clear c1
      try clear p2
      try clear c3
      try clear c3b0
      try clear c3b1
      try clear c3b2
      obtain ⟨x5_1, rfl, HA, HK1, ⟨m1, rfl⟩⟩ := hrel
      cases gk with
      | zero => exact absurd HA.out (by simp [larderref0_EqLists.l0])
      | succ k1 =>
        have H := HA.out
        clear HA
        simp only [larderref0_EqLists.l0] at H
        by_cases c4 : x5_1 < (l0.length : Int)
        · rw [if_pos c4] at H
          have c4b0 : decide (x5_1 < (l0.length : Int)) = true := decide_eq_true c4
          clear c4
          by_cases c5 : 0 ≤ x5_1
          · rw [if_pos c5] at H
            have c5b0 : decide (0 ≤ x5_1) = true := decide_eq_true c5
            clear c5
            by_cases c6 : x5_1 < (l1.length : Int)
            · rw [if_pos c6] at H
              have c6b0 : decide (x5_1 < (l1.length : Int)) = true := decide_eq_true c6
              clear c6
              replace H := Option.bind_eq_some_iff.mp H
              obtain ⟨t138, A70, H⟩ := H
              replace H : (if t138 = 0 then (larderref0_EqLists.l0 k1 l0 l1 (wrap64 (x5_1 + 1))) else (some false)) = some r := H
              have A7 := Aside0.mk A70
              clear A70
              by_cases c8 : t138 = 0
              · rw [if_pos c8] at H
                have c8b0 : (t138 == 0) = true := beq_iff_eq.mpr c8
                have c8b1 : (t138 != 0) = false := bne_eq_false_iff_eq.mpr c8
                clear c8
                have H' := Aside0.mk H
                clear H
                have p136 : 0 ≤ (x5_1 : Int) := of_decide_eq_true (by first | (with_reducible assumption) | assumption)
                have q136 : x5_1 < (l0.length : Int) := of_decide_eq_true (by first | (with_reducible assumption) | assumption)
                obtain ⟨ad136, A136_0, c136_0, e136, hx136_0, hl136_0, hi136_0⟩ := at_L1 HR0.out x5_1 p136 q136
                cases e136
                have HR136_0 := Aside0.mk hi136_0
                have HC136_0 := Aside0.mk hl136_0
                clear hi136_0 hl136_0
                replace p136 := eq_true p136
                replace q136 := eq_true q136
                have p137 : 0 ≤ (x5_1 : Int) := of_decide_eq_true (by first | (with_reducible assumption) | assumption)
                have q137 : x5_1 < (l1.length : Int) := of_decide_eq_true (by first | (with_reducible assumption) | assumption)
                obtain ⟨ad137, A137_0, c137_0, e137, hx137_0, hl137_0, hi137_0⟩ := at_L1 HR1.out x5_1 p137 q137
                cases e137
                have HR137_0 := Aside0.mk hi137_0
                have HC137_0 := Aside0.mk hl137_0
                clear hi137_0 hl137_0
                replace p137 := eq_true p137
                replace q137 := eq_true q137
                go_wp2_with (first | (go_at_call 31; (with_reducible refine (larderref0_Cmp.calls k1 _ _ (rd_L1 l0 x5_1) _ _ (rd_L1 l1 x5_1) t138 _ ?side1 ?side2 ?side3 ?side4 A7.out).mono ?_); (case side1 => repeat (first | exact HR136_0.out | (with_reducible refine Kd.C_alloc ?_ _) | (with_reducible refine Kd.C_drewN ?_ _) | (with_reducible refine Kd.C_drew ?_))); (case side2 => exact HC136_0.out); (case side3 => repeat (first | exact HR137_0.out | (with_reducible refine Kd.C_alloc ?_ _) | (with_reducible refine Kd.C_drewN ?_ _) | (with_reducible refine Kd.C_drew ?_))); (case side4 => exact HC137_0.out); rintro e w' ⟨rfl, ⟨nd, rfl⟩⟩; (try first | exact ⟨rfl, _, World.drewN_drewN _ _ _⟩ | exact ⟨rfl, _, Eq.trans (World.drewN_drewN _ _ _) (congrArg (World.drewN _) (Nat.add_assoc _ _ _))⟩)))
                repeat (go_quiet (first | (go_at_call 31; (with_reducible refine (larderref0_Cmp.calls k1 _ _ (rd_L1 l0 x5_1) _ _ (rd_L1 l1 x5_1) t138 _ ?side1 ?side2 ?side3 ?side4 A7.out).mono ?_); (case side1 => repeat (first | exact HR136_0.out | (with_reducible refine Kd.C_alloc ?_ _) | (with_reducible refine Kd.C_drewN ?_ _) | (with_reducible refine Kd.C_drew ?_))); (case side2 => exact HC136_0.out); (case side3 => repeat (first | exact HR137_0.out | (with_reducible refine Kd.C_alloc ?_ _) | (with_reducible refine Kd.C_drewN ?_ _) | (with_reducible refine Kd.C_drew ?_))); (case side4 => exact HC137_0.out); rintro e w' ⟨rfl, ⟨nd, rfl⟩⟩; (try first | exact ⟨rfl, _, World.drewN_drewN _ _ _⟩ | exact ⟨rfl, _, Eq.trans (World.drewN_drewN _ _ _) (congrArg (World.drewN _) (Nat.add_assoc _ _ _))⟩))); try go_wp2_with (first | (go_at_call 31; (with_reducible refine (larderref0_Cmp.calls k1 _ _ (rd_L1 l0 x5_1) _ _ (rd_L1 l1 x5_1) t138 _ ?side1 ?side2 ?side3 ?side4 A7.out).mono ?_); (case side1 => repeat (first | exact HR136_0.out | (with_reducible refine Kd.C_alloc ?_ _) | (with_reducible refine Kd.C_drewN ?_ _) | (with_reducible refine Kd.C_drew ?_))); (case side2 => exact HC136_0.out); (case side3 => repeat (first | exact HR137_0.out | (with_reducible refine Kd.C_alloc ?_ _) | (with_reducible refine Kd.C_drewN ?_ _) | (with_reducible refine Kd.C_drew ?_))); (case side4 => exact HC137_0.out); rintro e w' ⟨rfl, ⟨nd, rfl⟩⟩; (try first | exact ⟨rfl, _, World.drewN_drewN _ _ _⟩ | exact ⟨rfl, _, Eq.trans (World.drewN_drewN _ _ _) (congrArg (World.drewN _) (Nat.add_assoc _ _ _))⟩))))
                go_roundg k1
                case measure => have := HK1.out; omega
                case rel => exact ⟨(wrap64 (x5_1 + 1)), (by first | rfl | (simp; done) | (simp [*]; done)), H', ⟨by have := HK1.out; omega⟩, by repeat (first | exact Drawn0.refl _ | apply Drawn0.step)⟩
              · rw [if_neg c8] at H
                have c8b0 : (t138 == 0) = false := beq_eq_false_iff_ne.mpr c8
                have c8b1 : (t138 != 0) = true := bne_iff_ne.mpr c8
                obtain rfl := Option.some.inj H
                have p136 : 0 ≤ (x5_1 : Int) := of_decide_eq_true (by first | (with_reducible assumption) | assumption)
                have q136 : x5_1 < (l0.length : Int) := of_decide_eq_true (by first | (with_reducible assumption) | assumption)
                obtain ⟨ad136, A136_0, c136_0, e136, hx136_0, hl136_0, hi136_0⟩ := at_L1 HR0.out x5_1 p136 q136
                cases e136
                have HR136_0 := Aside0.mk hi136_0
                have HC136_0 := Aside0.mk hl136_0
                clear hi136_0 hl136_0
                replace p136 := eq_true p136
                replace q136 := eq_true q136
                have p137 : 0 ≤ (x5_1 : Int) := of_decide_eq_true (by first | (with_reducible assumption) | assumption)
                have q137 : x5_1 < (l1.length : Int) := of_decide_eq_true (by first | (with_reducible assumption) | assumption)
                obtain ⟨ad137, A137_0, c137_0, e137, hx137_0, hl137_0, hi137_0⟩ := at_L1 HR1.out x5_1 p137 q137
                cases e137
                have HR137_0 := Aside0.mk hi137_0
                have HC137_0 := Aside0.mk hl137_0
                clear hi137_0 hl137_0
                replace p137 := eq_true p137
                replace q137 := eq_true q137
                go_wp2_with (first | (go_at_call 31; (with_reducible refine (larderref0_Cmp.calls k1 _ _ (rd_L1 l0 x5_1) _ _ (rd_L1 l1 x5_1) t138 _ ?side1 ?side2 ?side3 ?side4 A7.out).mono ?_); (case side1 => repeat (first | exact HR136_0.out | (with_reducible refine Kd.C_alloc ?_ _) | (with_reducible refine Kd.C_drewN ?_ _) | (with_reducible refine Kd.C_drew ?_))); (case side2 => exact HC136_0.out); (case side3 => repeat (first | exact HR137_0.out | (with_reducible refine Kd.C_alloc ?_ _) | (with_reducible refine Kd.C_drewN ?_ _) | (with_reducible refine Kd.C_drew ?_))); (case side4 => exact HC137_0.out); rintro e w' ⟨rfl, ⟨nd, rfl⟩⟩; (try first | exact ⟨rfl, _, World.drewN_drewN _ _ _⟩ | exact ⟨rfl, _, Eq.trans (World.drewN_drewN _ _ _) (congrArg (World.drewN _) (Nat.add_assoc _ _ _))⟩)))
                repeat (go_quiet (first | (go_at_call 31; (with_reducible refine (larderref0_Cmp.calls k1 _ _ (rd_L1 l0 x5_1) _ _ (rd_L1 l1 x5_1) t138 _ ?side1 ?side2 ?side3 ?side4 A7.out).mono ?_); (case side1 => repeat (first | exact HR136_0.out | (with_reducible refine Kd.C_alloc ?_ _) | (with_reducible refine Kd.C_drewN ?_ _) | (with_reducible refine Kd.C_drew ?_))); (case side2 => exact HC136_0.out); (case side3 => repeat (first | exact HR137_0.out | (with_reducible refine Kd.C_alloc ?_ _) | (with_reducible refine Kd.C_drewN ?_ _) | (with_reducible refine Kd.C_drew ?_))); (case side4 => exact HC137_0.out); rintro e w' ⟨rfl, ⟨nd, rfl⟩⟩; (try first | exact ⟨rfl, _, World.drewN_drewN _ _ _⟩ | exact ⟨rfl, _, Eq.trans (World.drewN_drewN _ _ _) (congrArg (World.drewN _) (Nat.add_assoc _ _ _))⟩))); try go_wp2_with (first | (go_at_call 31; (with_reducible refine (larderref0_Cmp.calls k1 _ _ (rd_L1 l0 x5_1) _ _ (rd_L1 l1 x5_1) t138 _ ?side1 ?side2 ?side3 ?side4 A7.out).mono ?_); (case side1 => repeat (first | exact HR136_0.out | (with_reducible refine Kd.C_alloc ?_ _) | (with_reducible refine Kd.C_drewN ?_ _) | (with_reducible refine Kd.C_drew ?_))); (case side2 => exact HC136_0.out); (case side3 => repeat (first | exact HR137_0.out | (with_reducible refine Kd.C_alloc ?_ _) | (with_reducible refine Kd.C_drewN ?_ _) | (with_reducible refine Kd.C_drew ?_))); (case side4 => exact HC137_0.out); rintro e w' ⟨rfl, ⟨nd, rfl⟩⟩; (try first | exact ⟨rfl, _, World.drewN_drewN _ _ _⟩ | exact ⟨rfl, _, Eq.trans (World.drewN_drewN _ _ _) (congrArg (World.drewN _) (Nat.add_assoc _ _ _))⟩))))
                go_ret
                exact ⟨by first | rfl | (simp; done) | (simp [*]; done), by repeat (first | exact Drawn0.refl _ | apply Drawn0.step)⟩
            · rw [if_neg c6] at H
              exact absurd H (by simp)
          · rw [if_neg c5] at H
            exact absurd H (by simp)
        · rw [if_neg c4] at H
          have c4b0 : decide (x5_1 < (l0.length : Int)) = false := decide_eq_false c4
          clear c4
          obtain rfl := Option.some.inj H
          go_wp2
          repeat (go_quiet (fail); try go_wp2)
          go_ret
          exact ⟨by first | rfl | (simp; done) | (simp [*]; done), by repeat (first | exact Drawn0.refl _ | apply Drawn0.step)⟩
  · rw [if_neg c3] at H
    have c3b0 : ((l0.length : Int) == (l1.length : Int)) = false := beq_eq_false_iff_ne.mpr c3
    have c3b1 : ((l0.length : Int) != (l1.length : Int)) = true := bne_iff_ne.mpr c3
    have c3b2 : (l0.length == l1.length) = false := by first | simpa using c3 | (simp at c3 ⊢; omega)
    obtain rfl := Option.some.inj H
    go_enter Try.func11, Try.ntmps11
    go_wp2
    repeat (go_quiet (fail); try go_wp2)
    go_ret
    exact ⟨by first | rfl | (simp; done) | (simp [*]; done), by repeat (first | exact Drawn0.refl _ | apply Drawn0.step)⟩
end Go.Proofs.Ytfdkcnbkoagmiaa.PA
end

section
namespace Go.Proofs.Ytfdkcnbkoagmiaa.CmpR
open Go Go.RowKit Go.Proofs.YtfdkcnbkoagmiaaW.PrintWords Go.Proofs.YtfdkcnbkoagmiaaW.PrintLast Go.Proofs.YtfdkcnbkoagmiaaW.PrintMore Go.Proofs.Ytfdkcnbkoagmiaa.PA
set_option linter.unusedVariables false
set_option maxRecDepth 100000
theorem rd_get {l : List Int} {i : Nat} (h : i < l.length) : rd l (i : Int) = l[i] := by
  unfold rd
  rw [Int.toNat_natCast, List.getD_eq_getElem?_getD, List.getElem?_eq_getElem h]
  rfl
theorem w1 (i : Nat) (h : i < 9223372036854775807) : wrap64 ((i : Int) + 1) = ((i + 1 : Nat) : Int) := by unfold wrap64; omega
def cmpL : List Int → List Int → Int
  | [], [] => 0
  | [], _ :: _ => -1
  | _ :: _, [] => 1
  | x :: a, y :: b => if x < y then -1 else if x > y then 1 else cmpL a b
theorem cmpL_zero : ∀ a b : List Int, cmpL a b = 0 ↔ a = b
  | [], [] => by simp [cmpL]
  | [], _ :: _ => by simp [cmpL]
  | _ :: _, [] => by simp [cmpL]
  | x :: a, y :: b => by
    have := cmpL_zero a b
    unfold cmpL
    split
    · simp; omega
    · split
      · simp; omega
      · rw [this]; simp; omega
theorem cmp_at (a b : List Int) (hn : a.length ≤ 140737488355328) (d : Nat) : ∀ i : Nat, i + d = a.length → i ≤ b.length → Ev (fun k => larderref0_Cmp.l0 k a b i) (cmpL (a.drop i) (b.drop i)) := by
  induction d with
  | zero =>
    intro i hi hb
    have ea : a.drop i = [] := List.drop_eq_nil_of_le (by omega)
    by_cases hl : i < b.length
    · refine Ev.step (f := fun k => larderref0_Cmp.j1 k a b i false) (fun k => by simp only [larderref0_Cmp.l0]; rw [if_neg (by omega)]) (Ev.step (f := fun _ => some (-1)) (fun k => by simp only [larderref0_Cmp.j1]; rw [if_neg (by simp), if_pos (by omega)]) ?_)
      rw [ea, List.drop_eq_getElem_cons hl]
      exact Ev.now _
    · have eb : b.drop i = [] := List.drop_eq_nil_of_le (by omega)
      refine Ev.step (f := fun k => larderref0_Cmp.j1 k a b i false) (fun k => by simp only [larderref0_Cmp.l0]; rw [if_neg (by omega)]) (Ev.step (f := fun _ => some 0) (fun k => by simp only [larderref0_Cmp.j1]; rw [if_neg (by simp), if_neg (by omega), if_neg (by omega)]) ?_)
      rw [ea, eb]
      exact Ev.now _
  | succ d ih =>
    intro i hi hb
    have hia : i < a.length := by omega
    by_cases hl : i < b.length
    · rw [List.drop_eq_getElem_cons hia, List.drop_eq_getElem_cons hl]
      refine Ev.step (f := fun k => larderref0_Cmp.j1 k a b i true) (fun k => by simp only [larderref0_Cmp.l0]; rw [if_pos (by omega), decide_eq_true (show (i : Int) < b.length by omega)]) ?_
      by_cases h1 : a[i] < b[i]
      · refine Ev.step (f := fun _ => some (-1)) (fun k => by simp only [larderref0_Cmp.j1, if_true]; rw [if_pos (by omega), if_pos (by omega), if_pos (by omega), rd_get hia, rd_get hl, if_pos h1]) ?_
        unfold cmpL; rw [if_pos h1]; exact Ev.now _
      · by_cases h2 : a[i] > b[i]
        · refine Ev.step (f := fun _ => some 1) (fun k => by simp only [larderref0_Cmp.j1, if_true]; rw [if_pos (by omega), if_pos (by omega), if_pos (by omega), rd_get hia, rd_get hl, if_neg h1, if_pos h2]) ?_
          unfold cmpL; rw [if_neg h1, if_pos h2]; exact Ev.now _
        · refine Ev.step (f := fun k => larderref0_Cmp.l0 k a b ((i + 1 : Nat) : Int)) (fun k => by simp only [larderref0_Cmp.j1, if_true]; rw [if_pos (by omega), if_pos (by omega), if_pos (by omega), rd_get hia, rd_get hl, if_neg h1, if_neg h2, w1 i (by omega)]) ?_
          have := ih (i + 1) (by omega) (by omega)
          rw [show cmpL (a[i] :: a.drop (i + 1)) (b[i] :: b.drop (i + 1)) = cmpL (a.drop (i + 1)) (b.drop (i + 1)) by rw [cmpL, if_neg h1, if_neg h2]]
          exact this
    · have eb : b.drop i = [] := List.drop_eq_nil_of_le (by omega)
      refine Ev.step (f := fun k => larderref0_Cmp.j1 k a b i false) (fun k => by simp only [larderref0_Cmp.l0]; rw [if_pos (by omega), decide_eq_false (show ¬ (i : Int) < b.length by omega)]) (Ev.step (f := fun _ => some 1) (fun k => by simp only [larderref0_Cmp.j1]; rw [if_neg (by simp), if_neg (by omega), if_pos (by omega)]) ?_)
      rw [eb, List.drop_eq_getElem_cons hia]
      exact Ev.now _
theorem cmp (a b : List Int) (hn : a.length ≤ 140737488355328) : Ev (fun k => larderref0_Cmp.f k a b) (cmpL a b) := by
  have := cmp_at a b hn a.length 0 (by omega) (by omega)
  rw [List.drop_zero, List.drop_zero] at this
  exact this
theorem eq (a b : List Int) (hn : a.length ≤ 140737488355328) : Ev (fun k => larderref0_Eq.f k a b) (decide (a = b)) := by
  have h := cmp a b hn
  refine Ev.congr (fun k => rfl) (Ev.bind h ?_)
  refine Ev.congr (fun k => ?_) (Ev.now _)
  congr 1
  rw [Bool.eq_iff_iff]
  simp [cmpL_zero]
theorem lists_at (xs ys : List (List Int)) (hn : xs.length ≤ 140737488355328) (hl : xs.length = ys.length) (hx : ∀ x ∈ xs, x.length ≤ 140737488355328) (d : Nat) : ∀ i : Nat, i + d = xs.length → Ev (fun k => larderref0_EqLists.l0 k xs ys i) (decide (xs.drop i = ys.drop i)) := by
  induction d with
  | zero =>
    intro i hi
    refine Ev.step (f := fun _ => some true) (fun k => by simp only [larderref0_EqLists.l0]; rw [if_neg (by omega)]) ?_
    rw [List.drop_of_length_le (by omega), List.drop_of_length_le (by omega), decide_eq_true rfl]
    exact Ev.now _
  | succ d ih =>
    intro i hi
    have hia : i < xs.length := by omega
    have hib : i < ys.length := by omega
    have r1 : rd_L1 xs (i : Int) = xs[i] := by
      unfold rd_L1
      rw [Int.toNat_natCast, List.getD_eq_getElem?_getD, List.getElem?_eq_getElem hia]; rfl
    have r2 : rd_L1 ys (i : Int) = ys[i] := by
      unfold rd_L1
      rw [Int.toNat_natCast, List.getD_eq_getElem?_getD, List.getElem?_eq_getElem hib]; rfl
    have hc := cmp xs[i] ys[i] (hx _ (List.getElem_mem hia))
    refine Ev.step (f := fun k => (larderref0_Cmp.f k xs[i] ys[i]).bind (fun v => if v = 0 then larderref0_EqLists.l0 k xs ys ((i + 1 : Nat) : Int) else some false)) (fun k => ?_) (Ev.bind hc ?_)
    · simp only [larderref0_EqLists.l0]
      rw [if_pos (show (i : Int) < (xs.length : Int) by omega), if_pos (show (0 : Int) ≤ (i : Int) by omega)]
      first
        | rw [if_pos (show (i : Int) < (ys.length : Int) by omega), r1, r2, w1 i (by omega)]
        | rw [r1, r2, w1 i (by omega)]
      try (congr 1; funext v; by_cases hv : v = 0 <;> simp [hv])
    · rw [List.drop_eq_getElem_cons hia, List.drop_eq_getElem_cons hib]
      by_cases he : cmpL xs[i] ys[i] = 0
      · refine Ev.congr (fun k => if_pos he) ?_
        have h1 := (cmpL_zero _ _).1 he
        rw [show decide (xs[i] :: xs.drop (i + 1) = ys[i] :: ys.drop (i + 1)) = decide (xs.drop (i + 1) = ys.drop (i + 1)) from decide_eq_decide.2 (by rw [List.cons.injEq]; exact ⟨And.right, fun h => ⟨h1, h⟩⟩)]
        exact ih (i + 1) (by omega)
      · refine Ev.congr (fun k => if_neg he) ?_
        have h1 : ¬ xs[i] = ys[i] := fun e => he ((cmpL_zero _ _).2 e)
        rw [show decide (xs[i] :: xs.drop (i + 1) = ys[i] :: ys.drop (i + 1)) = false from decide_eq_false (by rw [List.cons.injEq]; exact fun h => h1 h.1)]
        exact Ev.now _
theorem lists (xs ys : List (List Int)) (hn : xs.length ≤ 140737488355328) (hm : ys.length ≤ 140737488355328) (hx : ∀ x ∈ xs, x.length ≤ 140737488355328) : Ev (fun k => larderref0_EqLists.f k xs ys) (decide (xs = ys)) := by
  by_cases hl : xs.length = ys.length
  · have := lists_at xs ys hn hl hx xs.length 0 (by omega)
    rw [List.drop_zero, List.drop_zero] at this
    refine Ev.congr (fun k => ?_) this
    unfold larderref0_EqLists.f
    rw [if_pos (by omega)]
    rfl
  · rw [decide_eq_false (fun e => hl (by rw [e]))]
    refine Ev.congr (fun k => ?_) (Ev.now false)
    unfold larderref0_EqLists.f
    rw [if_neg (by omega)]
end Go.Proofs.Ytfdkcnbkoagmiaa.CmpR
end

section
namespace Go.Proofs.Ytfdkcnbkoagmiaa.StrR
open Go Go.RowKit Go.Proofs.YtfdkcnbkoagmiaaW.PrintWords
set_option linter.unusedVariables false
set_option maxRecDepth 100000
theorem str_append (a b : List Int) : strOfNums a ++ strOfNums b = strOfNums (a ++ b) := by
  apply ByteArray.ext
  simp [strOfNums]
theorem str_drop (l : List Int) (n : Nat) : (strOfNums l).extract n (strOfNums l).size = strOfNums (l.drop n) := by
  apply ByteArray.ext
  apply Array.toList_inj.1
  rw [ByteArray.data_extract, Array.toList_extract, strOfNums_size, strOfNums_data, strOfNums_data, List.extract_eq_take_drop, List.map_drop]
  rw [List.take_of_length_le]
  rw [List.length_drop, List.length_map]
  omega
theorem conv_C (W : World) (l : List Int) (hl : ∀ c ∈ l, 0 ≤ c ∧ c < 256) (hn : l.length ≤ 9223372036854775807) : (Kd.int .u8).C (Lib.bytesWorld W 5 (strOfNums l)) (some ⟨W.heap.size, 0, none⟩) l.length l := by
  refine ⟨rfl, hn, fun _ => ⟨_, rfl, fun i p hp => ⟨[.int .u8 p], rfl, rfl, fun u x hx => ?_⟩⟩⟩
  obtain ⟨hi, hp'⟩ := List.getElem?_eq_some_iff.1 hp
  cases u with
  | zero =>
    injection hx with hx
    subst hx
    have := Lib.bytesWorld_cell W 5 (strOfNums l) i (by rw [strOfNums_size]; exact hi)
    rw [show (Kd.int .u8).sz = 1 from rfl, Nat.mul_one, Nat.add_zero, show (⟨W.heap.size, 0, none⟩ : Addr).add i = ⟨W.heap.size, 0 + i, none⟩ from by rw [Addr.add_lit], Nat.zero_add, this]
    rw [strOfNums_data, List.getD_eq_getElem?_getD, List.getElem?_map, hp]
    have h2 := hl p (hp' ▸ List.getElem_mem hi)
    simp only [Option.map_some, Option.getD_some, UInt8.toNat_ofNat']
    rw [show ((p.toNat % 2 ^ 8 : Nat) : Int) = p by omega]
  | succ u => simp at hx
theorem conv_run (W : World) (s : ByteArray) : (convert 9 26 (.string s)).run Try.prog W = .ok (.slice (some ⟨W.heap.size, 0, none⟩) s.size (grownCap W s.size 0 5)) (Lib.bytesWorld W 5 s) :=
  Lib.run_convert_string_bytes (P := Try.prog) W 9 26 5 s Try.underlying9 Try.underlying26 Try.underlying5
theorem conv_cap (W : World) (l : List Int) : l.length ≤ grownCap W (strOfNums l).size 0 5 := by
  have := grownCap_ge W (strOfNums l).size 0 5
  rw [strOfNums_size] at this ⊢
  exact this
theorem conv_below (W : World) (s : ByteArray) : Below W.heap.size W (Lib.bytesWorld W 5 s) := Joins.below_bytesWorld _ W _ _ (Nat.le_refl _)
theorem str_run {w : World} {A : Option Addr} {l : List Int} {c : Nat} (h : (Kd.int .u8).C w A l.length l) : (convert 26 9 (.slice A l.length c)).run Try.prog w = .ok (.string (strOfNums l)) w :=
  Kd.C_string (P := Try.prog) (c := c) Try.underlying26 Try.underlying5 Try.underlying9 h
end Go.Proofs.Ytfdkcnbkoagmiaa.StrR
end

section
namespace Go.Proofs.Ytfdkcnbkoagmiaa.IsG
open Go Go.RowKit Go.Proofs.YtfdkcnbkoagmiaaW.PrintWords Go.Proofs.YtfdkcnbkoagmiaaW.PrintLast Go.Proofs.YtfdkcnbkoagmiaaW.PrintMore Go.Proofs.Ytfdkcnbkoagmiaa.PA Go.Proofs.Ytfdkcnbkoagmiaa.RowU
set_option linter.unusedVariables false
set_option maxRecDepth 100000
theorem eqG.calls {A0 A1 : Option Addr} {c0 c1 : Nat} {a b : List Int} {w : World} (h0 : (Kd.int .u8).C w A0 a.length a) (hc0 : a.length ≤ c0) (h1 : (Kd.int .u8).C w A1 b.length b) (hc1 : b.length ≤ c1) (hn : a.length ≤ 140737488355328) :
    Calls Try.prog 37 #[.slice A0 a.length c0, .slice A1 b.length c1] w fun e w' => e = .returned (.bool (decide (a = b))) ∧ Drawn0 w w' := by
  obtain ⟨k, hk⟩ := CmpR.eq a b hn
  exact larderref0_Eq.calls k A0 c0 a A1 c1 b _ w h0 hc0 h1 hc1 (hk k (Nat.le_refl _))
theorem listsG.calls {A0 A1 : Option Addr} {c0 c1 : Nat} {a b : List (List Int)} {w : World} (h0 : Kd.C (Kd.slice 5 (Kd.int .u8)) w A0 a.length a) (hc0 : a.length ≤ c0) (h1 : Kd.C (Kd.slice 5 (Kd.int .u8)) w A1 b.length b) (hc1 : b.length ≤ c1) (hn : a.length ≤ 140737488355328) (hm : b.length ≤ 140737488355328) (hx : ∀ x ∈ a, x.length ≤ 140737488355328) :
    Calls Try.prog 11 #[.slice A0 a.length c0, .slice A1 b.length c1] w fun e w' => e = .returned (.bool (decide (a = b))) ∧ Drawn0 w w' := by
  obtain ⟨k, hk⟩ := CmpR.lists a b hn hm hx
  exact larderref0_EqLists.calls k A0 c0 a A1 c1 b _ w h0 hc0 h1 hc1 (hk k (Nat.le_refl _))
set_option maxHeartbeats 4000000 in
theorem isG.calls (A : Option Addr) (c : Nat) (l s : List Int) (w : World) (hr : (Kd.int .u8).C w A l.length l) (hc : l.length ≤ c) (hs : ∀ x ∈ s, 0 ≤ x ∧ x < 256) (hn : l.length ≤ 140737488355328) (hm : s.length ≤ 140737488355328) :
    Calls Try.prog 27 #[.slice A l.length c, .string (strOfNums s)] w fun e w' => e = .returned (.bool (decide (l = s))) ∧ Below w.heap.size w w' := by
  have kb := StrR.conv_run w (strOfNums s)
  have hB := StrR.conv_below w (strOfNums s)
  have hg := StrR.conv_cap w s
  have hC := StrR.conv_C w s hs (by omega)
  have HE : Aside0 (Calls Try.prog 37 #[.slice A l.length c, .slice (some ⟨w.heap.size, 0, none⟩) s.length (grownCap w (strOfNums s).size 0 5)] (Lib.bytesWorld w 5 (strOfNums s)) fun e w' => e = .returned (.bool (decide (l = s))) ∧ Drawn0 (Lib.bytesWorld w 5 (strOfNums s)) w') := ⟨eqG.calls (Kd.C_below hr hB) hc hC hg hn⟩
  have HB := Aside0.mk hB
  have hsz := strOfNums_size s
  generalize hS : strOfNums s = S at *
  rw [hsz] at kb HE
  clear hB hr hg hC hn hm
  go_enter Try.func27, Try.ntmps27
  go_wp2_with (go_at_call 37; refine HE.out.mono ?_; rintro e w2 ⟨rfl, hd⟩; have HD := Aside0.mk hd; clear hd)
  go_ret
  exact ⟨rfl, below_next HB.out HD.out.below⟩
end Go.Proofs.Ytfdkcnbkoagmiaa.IsG
end

section
namespace Go.Proofs.Ytfdkcnbkoagmiaa.ApnF
open Go Go.RowKit Go.Proofs.YtfdkcnbkoagmiaaW.PrintWords Go.Proofs.YtfdkcnbkoagmiaaW.PrintLast Go.Proofs.YtfdkcnbkoagmiaaW.PrintMore Go.Proofs.Ytfdkcnbkoagmiaa.CopL
set_option linter.unusedVariables false
set_option maxRecDepth 100000
theorem conv_at {w : World} (g : Nat) (hg : w.heap.size = g) (C : Array Value) (n c : Nat) :
    (convert 26 26 (.slice (some ⟨g, 0, none⟩) n c)).run Try.prog (w.alloc (.cells C 5)) = .ok (.slice (some ⟨g, 0, none⟩) n c) (w.alloc (.cells C 5 (C.size, C.size + 1))) := by
  subst hg
  exact Lib.run_convert_bytes_const (P := Try.prog) w 26 5 C n c Try.underlying26 Try.underlying5
theorem got_const (W : World) (g : Nat) (hg : W.heap.size = g) (l : List Int) (f : Nat × Nat) (hl : l.length ≤ 9223372036854775807) : Kd.C (Kd.int .u8) (W.alloc (.cells (l.map (Value.int .u8)).toArray 5 f)) (some ⟨g, 0, none⟩) l.length l := by
  subst hg
  refine ⟨rfl, hl, fun _ => ⟨_, rfl, fun i p hp => ⟨[.int .u8 p], rfl, rfl, fun u x hx => ?_⟩⟩⟩
  obtain ⟨hi, hp'⟩ := List.getElem?_eq_some_iff.1 hp
  cases u with
  | zero =>
    injection hx with hx
    subst hx
    rw [show (Kd.int .u8).sz = 1 from rfl, Nat.mul_one, Nat.add_zero, show (⟨W.heap.size, 0, none⟩ : Addr).add i = ⟨W.heap.size, 0 + i, none⟩ from by unfold Addr.add; split <;> simp_all, Nat.zero_add]
    have hb : (W.alloc (.cells (l.map (Value.int .u8)).toArray 5 f)).heap[W.heap.size]? = some (.cells (l.map (Value.int .u8)).toArray 5 f) := heap_alloc_new W _
    rw [cell_of_row _ _ _ _ _ _ hb]
    simp [hp]
  | succ u => simp at hx
theorem cells_of {w : World} {ad : Addr} {n : Nat} {l : List Int} (h : Kd.C (Kd.int .u8) w (some ad) n l) : ∀ j u, (l.map (Value.int .u8))[j]? = some u → w.cell? (ad.add j) = some u := by
  intro j u hu
  have hl : l.length = n := h.1
  rw [List.getElem?_map, Option.map_eq_some_iff] at hu
  obtain ⟨x, hx, rfl⟩ := hu
  obtain ⟨hj, hx'⟩ := List.getElem?_eq_some_iff.1 hx
  obtain ⟨ad', hh, hc⟩ := Kd.at_int h (j : Int) (by omega) (by omega)
  obtain rfl : ad = ad' := Option.some.inj hh
  rw [Int.toNat_natCast] at hc
  rw [hc]
  unfold rd
  rw [Int.toNat_natCast, List.getD_eq_getElem?_getD, hx]
  rfl
theorem run_empty (w : World) (ty : TypeId) (As : Addr) (n c : Nat) (Ax : Option Addr) :
    (Builtin.append_ #[26, 26] ty #[.slice (some As) n n, .slice Ax 0 c]).run Try.prog w = .ok (.slice (some As) n n) w := by
  obtain ⟨i, hi, h0, h1, h2⟩ := infoB
  have hu := Try.underlying26
  cases Ax <;> simp [Builtin.append_, run_underlying hu, sizeOf, typeInfo, hi, Builtin.lenOf, Builtin.firstCells, storeCells, loadCells, loadCellsFrom]
theorem wpList_append_full {ops : Array Oper} {rest : List Oper} {o : Oper} {a : Act} {w : World} {Q : Exit → Act → World → Prop}
    (hg : o.guard = none) (s x : Operand) (hop : o.op = Op.call { callee := Callee.builtin Builtin.append, args := #[s, x], argTypes := #[26, 26] })
    (As : Addr) (l1 : List Int) (hs : a.eval s = .slice (some As) l1.length l1.length) (hC1 : Kd.C (Kd.int .u8) w (some As) l1.length l1)
    (Ax : Option Addr) (c : Nat) (l2 : List Int) (hx : a.eval x = .slice Ax l2.length c) (hC2 : Kd.C (Kd.int .u8) w Ax l2.length l2) (hb : l1.length + l2.length ≤ 100000000000000) (l3 : List Int) (h3 : l3 = l1 ++ l2)
    (hK : ∀ A' c' w', Kd.C (Kd.int .u8) w' A' l3.length l3 → l3.length ≤ c' → Below w.heap.size w w' → wpList Try.prog ops Q rest (a.put o.dst (.slice A' l3.length c')) w') :
    wpList Try.prog ops Q (o :: rest) a w := by
  subst h3
  by_cases h0 : l2.length = 0
  · obtain rfl : l2 = [] := List.eq_nil_of_length_eq_zero h0
    refine wpList_plain hg fun K hK' => ?_
    have hrun := run_empty w o.type As l1.length c Ax
    unfold Oper.wp
    simp only [List.length_nil] at hx
    simp [execOp, hop, resolve, invoke, builtin, hs, hx, hrun, Result.andThen]
    refine hK' _ _ ?_
    have := hK (some As) l1.length w (by rw [List.append_nil]; exact hC1) (by rw [List.append_nil]; exact Nat.le_refl _) (Below.refl _ _)
    rw [List.append_nil] at this
    exact this
  · obtain ⟨ad, hAx, _⟩ := Kd.at_int hC2 (0 : Int) (by omega) (by omega)
    subst hAx
    obtain ⟨i, hi, z0, z1, z2⟩ := infoB
    refine wpList_append_grows w hg s x 26 hop 5 i (.int .u8 0) 1 1 Try.underlying26 hi z0 z1 z2 rfl (by decide) (some As) l1.length l1.length (l1.map (Value.int .u8)) hs (fun h => by cases h) (by simp) (fun b hb' => by obtain rfl := Option.some.inj hb'; exact cells_of hC1)
      ad l2.length c (l2.map (Value.int .u8)) hx (by simp) (cells_of hC2) (fun u hu => by obtain ⟨y, _, rfl⟩ := List.mem_map.1 hu; rfl) (by omega) (by unfold maxLen; omega) (by omega) ?_
    intro v' w' ho hgr
    have hB : Below w.heap.size w w' := (Below.refl _ w).grown hgr (Nat.le_refl _) (by intro k hk; simp at hk)
    have ho' : w'.ownsRow w.heap.size 5 1 v' (l1 ++ l2).length (encs (Value.int .u8) (l1 ++ l2)) := by
      rw [List.length_append, show encs (Value.int .u8) (l1 ++ l2) = l1.map (Value.int .u8) ++ l2.map (Value.int .u8) by simp [encs]]
      exact ho
    obtain ⟨A', c', rfl, hl, hC⟩ := Kd.R_reads (Kd.R_of_own (h1 := fun _ => rfl) ho' (ok := fun _ => True) (fun _ _ => trivial))
    exact hK A' c' w' hC hl hB
end Go.Proofs.Ytfdkcnbkoagmiaa.ApnF
end

section
namespace Go.Proofs.Ytfdkcnbkoagmiaa.ApnG
open Go Go.RowKit Go.Proofs.YtfdkcnbkoagmiaaW.PrintWords Go.Proofs.YtfdkcnbkoagmiaaW.PrintLast Go.Proofs.YtfdkcnbkoagmiaaW.PrintMore Go.Proofs.Ytfdkcnbkoagmiaa.CopL Go.Proofs.Ytfdkcnbkoagmiaa.RowU
set_option linter.unusedVariables false
set_option maxRecDepth 100000
def RowF (w : World) (g cap : Nat) (l : List Int) : Prop :=
  ∃ cur : List Value, w.heap[g]? = some (.cells cur.toArray 5 (cap, cap + 1)) ∧ cur.length = cap ∧ l.length ≤ cap ∧ cap ≤ maxLen ∧ cur.take l.length = l.map (Value.int .u8)
variable {w w' : World} {g cap : Nat} {l : List Int}
theorem RowF.lt (h : RowF w g cap l) : g < w.heap.size := by
  obtain ⟨cur, h1, _⟩ := h
  exact (Array.getElem?_eq_some_iff.1 h1).1
theorem RowF.below (h : RowF w g cap l) (hb : Below w.heap.size w w') : RowF w' g cap l := by
  have hl := h.lt
  obtain ⟨cur, h1, h2⟩ := h
  exact ⟨cur, by rw [hb.block g hl]; exact h1, h2⟩
theorem RowF.get (h : RowF w g cap l) (j : Nat) (x : Int) (hx : l[j]? = some x) : w.cell? ⟨g, j, none⟩ = some (.int .u8 x) := by
  obtain ⟨cur, h1, h2, h3, _, h4⟩ := h
  have hj : j < l.length := (List.getElem?_eq_some_iff.1 hx).1
  have h5 := congrArg (fun r => r[j]?) h4
  simp only [List.getElem?_take, if_pos hj, List.getElem?_map, hx, Option.map_some] at h5
  rw [cell_of_row w g j _ _ _ h1]
  simpa using h5
theorem C_of (w : World) (g : Nat) (l : List Int) (hl : l.length ≤ 9223372036854775807) (h : ∀ (j : Nat) (x : Int), l[j]? = some x → w.cell? ⟨g, j, none⟩ = some (.int .u8 x)) : (Kd.int .u8).C w (some ⟨g, 0, none⟩) l.length l := by
  refine ⟨rfl, hl, fun _ => ⟨_, rfl, fun j p hp => ⟨[.int .u8 p], rfl, rfl, fun i u hu => ?_⟩⟩⟩
  cases i with
  | zero =>
    obtain rfl : Value.int .u8 p = u := by simpa using hu
    rw [show (Kd.int .u8).sz = 1 from rfl, Nat.mul_one, Nat.add_zero, Addr.add_lit, Nat.zero_add]
    exact h j p hp
  | succ i => simp at hu
theorem RowF.C (h : RowF w g cap l) : (Kd.int .u8).C w (some ⟨g, 0, none⟩) l.length l := by
  have h' := h
  obtain ⟨cur, h1, h2, h3, h4, _⟩ := h
  exact C_of w g l (by unfold maxLen at h4; omega) (fun j x hx => h'.get j x hx)
theorem RowF.le (h : RowF w g cap l) : l.length ≤ cap := by
  obtain ⟨cur, h1, h2, h3, _⟩ := h
  exact h3
theorem RowF.const (w : World) (g : Nat) (hg : w.heap.size = g) (l : List Int) (hl : l.length ≤ 1000000) : RowF (w.alloc (.cells (l.map (Value.int .u8)).toArray 5 (l.length, l.length + 1))) g l.length l := by
  subst hg
  exact ⟨l.map (Value.int .u8), heap_alloc_new w _, by simp, Nat.le_refl _, by unfold maxLen; omega, by rw [List.take_of_length_le (by simp)]⟩
theorem strCells_of {l : List Int} (hl : ∀ c ∈ l, 0 ≤ c ∧ c < 256) : (strOfNums l).data.toList.map (fun b => Value.int .u8 b.toNat) = l.map (Value.int .u8) := by
  rw [strOfNums_data, List.map_map]
  refine List.map_congr_left fun c hc => ?_
  have := hl c hc
  simp only [Function.comp, UInt8.toNat_ofNat']
  congr 1
  omega
theorem RowF.bytes (w : World) (l : List Int) (hl : ∀ c ∈ l, 0 ≤ c ∧ c < 256) (hn : l.length ≤ 1000000000) : RowF (Lib.bytesWorld w 5 (strOfNums l)) w.heap.size (grownCap w (strOfNums l).size 0 5) l := by
  have hsz := strOfNums_size l
  have hge := grownCap_ge w (strOfNums l).size 0 5
  have hcs : (Lib.bytesCells w 5 (strOfNums l)).size = grownCap w (strOfNums l).size 0 5 := by
    unfold Lib.bytesCells
    rw [Array.size_append, Array.size_map, Array.size_replicate]
    have : (strOfNums l).data.size = (strOfNums l).size := rfl
    omega
  have h1 := Lib.bytesWorld_at_new w 5 (strOfNums l)
  rw [hcs] at h1
  refine ⟨(Lib.bytesCells w 5 (strOfNums l)).toList, by simpa using h1, by simpa using hcs, by omega, grownCap_le_maxLen w _ 0 5 (by unfold maxLen; omega), ?_⟩
  unfold Lib.bytesCells
  rw [Array.toList_append, Array.toList_map, strCells_of hl, List.take_left' (by simp)]
def Apd (base : Nat) (w w' : World) (v : Value) (l : List Int) : Prop := ∃ A c, v = .slice A l.length c ∧ l.length ≤ c ∧ (Kd.int .u8).C w' A l.length l ∧ (∀ ad, A = some ad → base ≤ ad.block ∧ ad.block < w'.heap.size ∧ ad.off = 0 ∧ ad.spot = none) ∧ Below base w w'
theorem C_block {A : Option Addr} (h : (Kd.int .u8).C w A l.length l) (h0 : 0 < l.length) : ∀ ad, A = some ad → ad.block < w.heap.size := by
  intro ad e
  obtain ⟨ad', e', hc⟩ := h.2.2 h0
  rw [e] at e'
  obtain rfl := Option.some.inj e'
  obtain ⟨cs, c1, c2, c3⟩ := hc 0 l[0] (by simp [h0])
  have c4 : cs = [Value.int .u8 l[0]] := c2
  subst c4
  have := c3 0 _ rfl
  have hb := World.block_lt_of_cell? _ _ this
  have eb : (ad.add (0 * (Kd.int .u8).sz + 0)).block = ad.block := by unfold Addr.add; split <;> rfl
  rw [eb] at hb
  exact hb
theorem below_setCells {base g : Nat} (hb : Below base w w') (hg : base ≤ g) (o : Nat) (vs : List Value) : Below base w (w'.setCells g o vs) := by
  induction vs generalizing w' o with
  | nil => exact hb
  | cons v r ih => exact ih (below_put hb hg o v) (o + 1)
theorem wpList_append_rowF {ops : Array Oper} {rest : List Oper} {o : Oper} {a : Act} {w : World} {Q : Exit → Act → World → Prop}
    (hg : o.guard = none) (s x : Operand) (hop : o.op = Op.call { callee := Callee.builtin Builtin.append, args := #[s, x], argTypes := #[26, 26] })
    (base g cap : Nat) (hbg : base ≤ g) (l1 : List Int) (hs : a.eval s = .slice (some ⟨g, 0, none⟩) l1.length cap) (hR : RowF w g cap l1)
    (Ax : Option Addr) (c : Nat) (l2 : List Int) (hx : a.eval x = .slice Ax l2.length c) (hC2 : Kd.C (Kd.int .u8) w Ax l2.length l2) (hb : l1.length + l2.length ≤ 1000000000)
    (hK : ∀ v w', Apd base w w' v (l1 ++ l2) → wpList Try.prog ops Q rest (a.put o.dst v) w') :
    wpList Try.prog ops Q (o :: rest) a w := by
  refine wpList_plain hg fun K hK' => ?_
  have hlt := hR.lt
  have hbs : base ≤ w.heap.size := by omega
  have hRC := hR.C
  have hle := hR.le
  by_cases h0 : l2.length = 0
  · obtain rfl : l2 = [] := List.eq_nil_of_length_eq_zero h0
    have hrun : (Builtin.append_ #[26, 26] o.type #[.slice (some ⟨g, 0, none⟩) l1.length cap, .slice Ax 0 c]).run Try.prog w = .ok (.slice (some ⟨g, 0, none⟩) l1.length cap) w := by
      obtain ⟨i, hi, h0, h1, h2⟩ := infoB
      have hu := Try.underlying26
      cases Ax <;> simp [Builtin.append_, run_underlying hu, sizeOf, typeInfo, hi, Builtin.lenOf, Builtin.firstCells, storeCells, loadCells, loadCellsFrom, hle]
    unfold Oper.wp
    simp only [List.length_nil] at hx
    simp [execOp, hop, resolve, invoke, builtin, hs, hx, hrun, Result.andThen]
    refine hK' _ _ (hK _ _ ⟨_, _, by rw [List.append_nil], by rw [List.append_nil]; exact hle, by rw [List.append_nil]; exact hRC, fun ad e => by obtain rfl := Option.some.inj e; exact ⟨hbg, hlt, rfl, rfl⟩, Below.refl _ _⟩)
  · obtain ⟨ad, hAx, _⟩ := Kd.at_int hC2 (0 : Int) (by omega) (by omega)
    subst hAx
    obtain ⟨i, hi, z0, z1, z2⟩ := infoB
    have hnews : ∀ j u, (l2.map (Value.int .u8))[j]? = some u → w.cell? (ad.add j) = some u := ApnF.cells_of hC2
    have hone : ∀ u ∈ l2.map (Value.int .u8), u.oneCell' = true := fun u hu => by obtain ⟨y, _, rfl⟩ := List.mem_map.1 hu; rfl
    by_cases hroom : l1.length + l2.length ≤ cap
    · obtain ⟨cur, r1, r2, r3, r4, r5⟩ := hR
      have hthere : ∀ j, j < (l2.map (Value.int .u8)).length → (w.cell? ⟨g, 0 + l1.length * i.size + j, none⟩).isSome = true := fun j hj => by
        rw [z1, cell_of_row w g _ _ _ _ r1]
        rw [List.length_map] at hj
        have : 0 + l1.length * 1 + j < cur.toArray.size := by simp; omega
        rw [Array.getElem?_eq_getElem this]
        rfl
      have hfz : ∀ j, j < (l2.map (Value.int .u8)).length → w.frozen? ⟨g, 0 + l1.length * i.size + j, none⟩ = false := fun j hj => by
        rw [List.length_map] at hj
        rw [z1]
        simp [World.frozen?, r1]
        omega
      have hrun := run_append_room_cells (P := Try.prog) w 26 o.type 5 i Try.underlying26 hi g 0 l1.length cap ad l2.length c (l2.map (Value.int .u8)) (by rw [z1]; simp) hnews hone hroom hthere hfz
      unfold Oper.wp
      simp [execOp, hop, resolve, invoke, builtin, hs, hx, hrun, Result.andThen]
      refine hK' _ _ (hK _ _ ⟨_, _, by rw [List.length_append], by rw [List.length_append]; exact hroom, ?_, fun ad e => by obtain rfl := Option.some.inj e; exact ⟨hbg, Nat.lt_of_lt_of_le hlt (below_setCells (base := 0) (g := g) (Below.refl 0 w) (Nat.zero_le _) _ _).size, rfl, rfl⟩, ?_⟩)
      · refine C_of _ g _ (by rw [List.length_append]; omega) (fun j x hx => ?_)
        rw [z1] at hthere ⊢
        rw [Nat.mul_one, Nat.zero_add] at hthere
        rw [Nat.mul_one]
        by_cases hj : j < l1.length
        · rw [World.cell?_setCells_out g _ _ w _ (fun _ _ => .inl (by simpa using hj))]
          rw [List.getElem?_append_left hj] at hx
          exact RowF.get ⟨cur, r1, r2, r3, r4, r5⟩ j x hx
        · rw [List.getElem?_append_right (by omega)] at hx
          have hj2 : j - l1.length < l2.length := (List.getElem?_eq_some_iff.1 hx).1
          have := World.cell?_setCells_in g (l2.map (Value.int .u8)) l1.length w hthere (j - l1.length) (by rw [List.length_map]; exact hj2)
          rw [show l1.length + (j - l1.length) = j by omega] at this
          rw [this]
          obtain ⟨_, e⟩ := List.getElem?_eq_some_iff.1 hx
          simp [e]
      · exact below_setCells (Below.refl _ _) hbg _ _
    · obtain ⟨v', w', hrun, ho, hgr⟩ := run_append_arg_grows (P := Try.prog) w 26 o.type 5 i (.int .u8 0) 1 1 Try.underlying26 hi z0 z1 z2 rfl (by decide) ⟨g, 0, none⟩ l1.length cap (l1.map (Value.int .u8)) (by simp) (fun j u hu => by
        rw [Addr.add_lit, Nat.zero_add]
        rw [List.getElem?_map] at hu
        obtain ⟨q, hq, rfl⟩ := Option.map_eq_some_iff.1 hu
        exact hR.get j q hq) ad l2.length c (l2.map (Value.int .u8)) (by simp) hnews (by omega) (by unfold maxLen; omega) (by omega)
      have hB : Below w.heap.size w w' := (Below.refl _ w).grown hgr (Nat.le_refl _) (by intro k hk; simp at hk)
      have ho' : w'.ownsRow w.heap.size 5 1 v' (l1 ++ l2).length (encs (Value.int .u8) (l1 ++ l2)) := by
        rw [List.length_append, show encs (Value.int .u8) (l1 ++ l2) = l1.map (Value.int .u8) ++ l2.map (Value.int .u8) by simp [encs]]
        exact ho
      have hblk : ∀ k, v'.ownBlock = some k → w.heap.size ≤ k := by
        intro k hk
        rcases ho.2 with ⟨rfl, _⟩ | ⟨g', cap', cur', rfl, hb', _⟩
        · cases hk
        · obtain rfl := Option.some.inj hk; exact hb'
      obtain ⟨A', c', rfl, hl, hC⟩ := Kd.R_reads (Kd.R_of_own (h1 := fun _ => rfl) ho' (ok := fun _ => True) (fun _ _ => trivial))
      unfold Oper.wp
      simp [execOp, hop, resolve, invoke, builtin, hs, hx, hrun, Result.andThen]
      refine hK' _ _ (hK _ _ ⟨A', c', by rw [List.length_append], hl, hC, fun ad e => ?_, Joins.below_le hB hbs⟩)
      have hb2 := C_block hC (by rw [List.length_append]; omega) ad e
      subst e
      rcases ho.2 with ⟨h1, _⟩ | ⟨g', cap', cur', h1, hb', _⟩
      · cases h1
      · simp only [Value.slice.injEq, Option.some.injEq] at h1
        rw [h1.1] at hb2 ⊢
        exact ⟨by show base ≤ g'; omega, hb2, rfl, rfl⟩
end Go.Proofs.Ytfdkcnbkoagmiaa.ApnG
end

section
namespace Go.Proofs.Ytfdkcnbkoagmiaa.LivS
open Go.Proofs.Ytfdkcnbkoagmiaa.LinS Go.Proofs.Ytfdkcnbkoagmiaa.ParS
set_option linter.unusedVariables false
def val (l : List Int) : Int := l.foldl (fun v c => 10 * v + (c - 48)) 0
def digs (l : List Int) : Prop := ∀ c ∈ l, 48 ≤ c ∧ c ≤ 57
theorem val_snoc (l : List Int) (c : Int) : val (l ++ [c]) = 10 * val l + (c - 48) := by simp [val, List.foldl_append]
structure Nm (l : List Int) (v : Int) : Prop where
  d : digs l
  v : val l = v
  len : l.length ≤ 4
  one : 2 ≤ l.length → ∃ c r, l = c :: r ∧ c ≠ 48
def argB (x : List Int × List Int) : List Int := 36 :: (x.1 ++ 13 :: 10 :: (x.2 ++ [13, 10]))
structure ArgOk (x : List Int × List Int) : Prop where
  n : Nm x.1 x.2.length
  ne : x.1 ≠ []
def argsB (l : List (List Int × List Int)) : List Int := l.flatMap argB
def headB (ds : List Int) (l : List (List Int × List Int)) : List Int := 42 :: (ds ++ 13 :: 10 :: argsB l)
inductive Sh : List Int → PS → Prop
  | begin {p : PS} (s : p.st = .begin) (a : p.args = []) (c : p.cur = []) : Sh [] p
  | line {p : PS} (c : Int) (r : List Int) (s : p.st = .line) (e : p.cur = c :: r) (hc : c ≠ 42) (hn : (10 : Int) ∉ p.cur) (a : p.args = []) : Sh (c :: r) p
  | dig0 {p : PS} (ds : List Int) (s : p.st = .digit) (h : p.head = 0) (m : p.most = 128) (a : p.args = []) (n : Nm ds p.num) (l : (ds.length : Int) = p.digits) (nm : p.num ≤ 128) : Sh (42 :: ds) p
  | minus {p : PS} (s : p.st = .minus) (h : p.head = 0) (a : p.args = []) (n : p.num = 0) : Sh [42, 45] p
  | minusR {p : PS} (s : p.st = .minusR) (h : p.head = 0) (a : p.args = []) (n : p.num = 0) : Sh [42, 45, 49] p
  | num0 {p : PS} (ds : List Int) (s : p.st = .numF) (h : p.head = 0) (a : p.args = []) (n : Nm ds p.num) (ne : ds ≠ []) (m : p.num ≤ 128) : Sh (42 :: (ds ++ [13])) p
  | numM {p : PS} (s : p.st = .numF) (h : p.head = 0) (a : p.args = []) (n : p.num = 0) : Sh [42, 45, 49, 13] p
  | dollar {p : PS} (ds : List Int) (l : List (List Int × List Int)) (s : p.st = .dollar) (n : Nm ds p.want) (ne : ds ≠ []) (m : p.want ≤ 128) (w : (p.args.length : Int) < p.want) (a : p.args = l.map Prod.snd) (ok : ∀ x ∈ l, ArgOk x) : Sh (headB ds l) p
  | dig1 {p : PS} (ds : List Int) (l : List (List Int × List Int)) (dn : List Int) (s : p.st = .digit) (h : p.head = 1) (mo : p.most = 4096) (n : Nm ds p.want) (ne : ds ≠ []) (m : p.want ≤ 128) (w : (p.args.length : Int) < p.want) (a : p.args = l.map Prod.snd) (ok : ∀ x ∈ l, ArgOk x) (nn : Nm dn p.num) (dl : (dn.length : Int) = p.digits) : Sh (headB ds l ++ 36 :: dn) p
  | num1 {p : PS} (ds : List Int) (l : List (List Int × List Int)) (dn : List Int) (s : p.st = .numF) (h : p.head = 1) (n : Nm ds p.want) (ne : ds ≠ []) (m : p.want ≤ 128) (w : (p.args.length : Int) < p.want) (a : p.args = l.map Prod.snd) (ok : ∀ x ∈ l, ArgOk x) (nn : Nm dn p.num) (dne : dn ≠ []) (nm : p.num ≤ 4096) : Sh (headB ds l ++ 36 :: (dn ++ [13])) p
  | cont {p : PS} (ds : List Int) (l : List (List Int × List Int)) (dn : List Int) (s : p.st = .content ∧ 1 ≤ p.left ∨ p.st = .contR ∧ p.left = 0) (n : Nm ds p.want) (ne : ds ≠ []) (m : p.want ≤ 128) (w : (p.args.length : Int) < p.want) (a : p.args = l.map Prod.snd) (ok : ∀ x ∈ l, ArgOk x) (nn : Nm dn (p.cur.length + p.left)) (dne : dn ≠ []) (nm : p.cur.length + p.left ≤ 4096) : Sh (headB ds l ++ 36 :: (dn ++ 13 :: 10 :: p.cur)) p
  | contF {p : PS} (ds : List Int) (l : List (List Int × List Int)) (dn : List Int) (s : p.st = .contF) (n : Nm ds p.want) (ne : ds ≠ []) (m : p.want ≤ 128) (w : (p.args.length : Int) < p.want) (a : p.args = l.map Prod.snd) (ok : ∀ x ∈ l, ArgOk x) (nn : Nm dn p.cur.length) (dne : dn ≠ []) (nm : (p.cur.length : Int) ≤ 4096) : Sh (headB ds l ++ 36 :: (dn ++ 13 :: 10 :: (p.cur ++ [13]))) p
theorem Nm.nil : Nm [] 0 := ⟨fun _ h => (by cases h), rfl, by simp, fun h => (by simp at h)⟩
theorem snoc_ind {P : List Int → Prop} (h0 : P []) (h1 : ∀ l c, P l → P (l ++ [c])) (l : List Int) : P l := by
  rw [← List.reverse_reverse l]
  induction l.reverse with
  | nil => exact h0
  | cons c r ih => rw [List.reverse_cons]; exact h1 _ _ ih
theorem val_nonneg {l : List Int} : digs l → 0 ≤ val l := by
  refine snoc_ind (P := fun l => digs l → 0 ≤ val l) (fun _ => by simp [val]) (fun l c ih h => ?_) l
  rw [val_snoc]
  have := ih (fun x hx => h x (by simp [hx]))
  have := h c (by simp)
  omega
theorem val_pos {l : List Int} : digs l → (∃ c r, l = c :: r ∧ c ≠ 48) → 1 ≤ val l := by
  refine snoc_ind (P := fun l => digs l → (∃ c r, l = c :: r ∧ c ≠ 48) → 1 ≤ val l) (fun _ ⟨c, r, h, _⟩ => by cases h) (fun l x ih h => ?_) l
  rintro ⟨c, r, e, hc⟩
  rw [val_snoc]
  have hx := h x (by simp)
  cases l with
  | nil =>
    obtain ⟨rfl, _⟩ : x = c ∧ [] = r := by simpa using e
    simp only [val, List.foldl_nil]
    omega
  | cons y l =>
    obtain ⟨rfl, _⟩ : y = c ∧ l ++ [x] = r := by simpa using e
    have := ih (fun x hx => h x (by simp at hx ⊢; rcases hx with h | h <;> simp [h])) ⟨y, l, rfl, hc⟩
    omega
theorem Nm.snoc {l : List Int} {v c m : Int} (h : Nm l v) (hc : 48 ≤ c ∧ c ≤ 57) (hz : ¬ (0 < (l.length : Int) ∧ v = 0)) (hm : v * 10 + (c - 48) ≤ m) (h4 : m ≤ 4096) (hl : l.length = 4 → 1000 ≤ v) : Nm (l ++ [c]) (v * 10 + (c - 48)) := by
  have hv := h.v
  refine ⟨fun x hx => ?_, by rw [val_snoc]; omega, ?_, fun h2 => ?_⟩
  · rcases List.mem_append.1 hx with hx | hx
    · exact h.d x hx
    · rw [List.mem_singleton.1 hx]; exact hc
  · have := h.len
    rw [List.length_append, List.length_singleton]
    by_cases e : l.length = 4
    · have := hl e; omega
    · omega
  · cases l with
    | nil => simp at h2
    | cons y r =>
      refine ⟨y, r ++ [c], rfl, fun e => ?_⟩
      by_cases hr : 2 ≤ (y :: r).length
      · obtain ⟨y', r', e', hne⟩ := h.one hr
        cases e'
        exact hne e
      · have hr0 : r = [] := List.length_eq_zero_iff.1 (by simp only [List.length_cons] at hr; omega)
        subst hr0
        subst e
        have : v = 0 := by rw [← hv]; rfl
        exact hz ⟨by simp, this⟩
theorem whole_sh {p : PS} : Sh [] (whole p) ∧ (whole p).held = 0 := ⟨.begin rfl rfl rfl, rfl⟩
theorem argsB_append (l : List (List Int × List Int)) (x : List Int × List Int) : argsB (l ++ [x]) = argsB l ++ argB x := by simp [argsB]
theorem headB_append (ds : List Int) (l : List (List Int × List Int)) (x : List Int × List Int) : headB ds (l ++ [x]) = headB ds l ++ argB x := by simp [headB, argsB_append]
theorem ne_of_len {l : List Int} (h : 0 < (l.length : Int)) : l ≠ [] := by
  rintro rfl
  simp at h
theorem lineB_sh {p : PS} {c : Int} (s : p.st = .line) (hn : (10 : Int) ∉ p.cur) (a : p.args = []) (hc : ∀ r, p.cur ++ [c] = r → ∃ d u, r = d :: u ∧ (c ≠ 10 → d ≠ 42)) (he : (lineB p c).2 = 0) : (Sh [] (lineB p c).1 ∧ (lineB p c).1.held = 0) ∨ (Sh (p.cur ++ [c]) (lineB p c).1 ∧ (lineB p c).1.held = p.held) := by
  unfold lineB at he ⊢
  by_cases h : c ≠ 10
  · rw [if_pos h]
    obtain ⟨d, u, e, hd⟩ := hc _ rfl
    refine .inr ⟨?_, rfl⟩
    have hx : (10 : Int) ∉ p.cur ++ [c] := fun hx => by
      rcases List.mem_append.1 hx with hx | hx
      · exact hn hx
      · exact h (List.mem_singleton.1 hx).symm
    have := Sh.line (p := { p with cur := p.cur ++ [c] }) d u s e (hd h) hx a
    rw [← e] at this
    exact this
  · rw [if_neg h] at he ⊢
    split
    · next h2 => rw [if_pos h2] at he; exact absurd he h2
    · exact .inl whole_sh
theorem Sh.step {t : List Int} {p : PS} {c : Int} (hi : Inv p) (h : Sh t p) (he : (ParS.step p c).2 = 0) : (Sh [] (ParS.step p c).1 ∧ (ParS.step p c).1.held = 0) ∨ (Sh (t ++ [c]) (ParS.step p c).1 ∧ (ParS.step p c).1.held = p.held) := by
  have hdg := hi.dg
  have hdg4 : p.digits = 4 → 1000 ≤ p.num := by omega
  cases h with
  | begin s a cc =>
    unfold ParS.step at he ⊢
    rw [s] at he ⊢
    dsimp only at he ⊢
    by_cases h : c = 42
    · rw [if_pos h]
      subst h
      exact .inr ⟨.dig0 [] rfl rfl rfl a Nm.nil rfl (by show (0 : Int) ≤ 128; omega), rfl⟩
    · rw [if_neg h] at he ⊢
      exact lineB_sh (p := { p with cur := [], st := .line }) rfl (by simp) a (fun r e => ⟨c, [], e.symm, fun _ => h⟩) he
  | line d r s e hd hn a =>
    unfold ParS.step at he ⊢
    rw [s] at he ⊢
    dsimp only at he ⊢
    have := lineB_sh s hn a (fun r' e' => ⟨d, r ++ [c], by rw [← e', e]; rfl, fun _ => hd⟩) he
    rw [e] at this
    exact this
  | dig0 ds s hh m a n l nm =>
    unfold ParS.step at he ⊢
    rw [s] at he ⊢
    dsimp only at he ⊢
    unfold digitB at he ⊢
    split
    · next hc =>
      rw [if_pos hc] at he
      split
      · next hd => rw [if_pos hd] at he; unfold numErr at he; rw [hh] at he; cases he
      · next hd =>
        refine .inr ⟨.dig0 (ds ++ [c]) s hh m a (n.snoc hc ?_ (m := 128) ?_ (by omega) (fun h => hdg4 ?_)) ?_ ?_, rfl⟩
        · intro hz; exact hd (.inl ⟨by omega, hz.2⟩)
        · omega
        · omega
        · show ((ds ++ [c]).length : Int) = p.digits + 1
          rw [List.length_append, List.length_singleton]
          omega
        · show p.num * 10 + (c - 48) ≤ 128
          omega
    · next hc =>
      rw [if_neg hc] at he
      split
      · next hd =>
        obtain ⟨rfl, hd0⟩ := hd
        exact .inr ⟨.num0 ds rfl hh a n (ne_of_len (by omega)) nm, rfl⟩
      · next hd =>
        rw [if_neg hd] at he
        split
        · next hf =>
          obtain ⟨rfl, hf0, _⟩ := hf
          obtain rfl : ds = [] := List.length_eq_zero_iff.1 (by omega)
          have hz : val [] = p.num := n.v
          exact .inr ⟨.minus rfl hh a hz.symm, rfl⟩
        · next hf => rw [if_neg hf] at he; unfold numErr at he; rw [hh] at he; cases he
  | minus s hh a n =>
    unfold ParS.step at he ⊢
    rw [s] at he ⊢
    dsimp only at he ⊢
    split at he
    · next hc => subst hc; exact .inr ⟨.minusR rfl hh a n, rfl⟩
    · cases he
  | minusR s hh a n =>
    unfold ParS.step at he ⊢
    rw [s] at he ⊢
    dsimp only at he ⊢
    split at he
    · next hc => subst hc; exact .inr ⟨.numM rfl hh a n, rfl⟩
    · cases he
  | num0 ds s hh a n ne m =>
    have hn0 := val_nonneg n.d
    rw [n.v] at hn0
    unfold ParS.step at he ⊢
    rw [s] at he ⊢
    dsimp only at he ⊢
    unfold numFB at he ⊢
    by_cases hc : c ≠ 10
    · rw [if_pos hc] at he; cases he
    · rw [if_neg hc, if_neg (by omega)] at he ⊢
      by_cases hz : p.num = 0
      · rw [if_pos hz]; exact .inl whole_sh
      · rw [if_neg hz]
        obtain rfl : c = 10 := Decidable.not_not.1 hc
        have := Sh.dollar (p := { p with want := p.num, args := [], st := .dollar }) ds [] rfl n ne m (by show (0 : Int) < p.num; omega) rfl (fun _ h => (by cases h))
        refine .inr ⟨?_, rfl⟩
        simpa [headB, argsB] using this
  | numM s hh a n =>
    unfold ParS.step at he ⊢
    rw [s] at he ⊢
    dsimp only at he ⊢
    unfold numFB at he ⊢
    by_cases hc : c ≠ 10
    · rw [if_pos hc] at he; cases he
    · rw [if_neg hc, if_neg (by omega), if_pos n]; exact .inl whole_sh
  | dollar ds l s n ne m w a ok =>
    unfold ParS.step at he ⊢
    rw [s] at he ⊢
    dsimp only at he ⊢
    split at he
    · next hc =>
      subst hc
      exact .inr ⟨.dig1 ds l [] rfl rfl rfl n ne m w a ok Nm.nil rfl, rfl⟩
    · cases he
  | dig1 ds l dn s hh mo n ne m w a ok nn dl =>
    unfold ParS.step at he ⊢
    rw [s] at he ⊢
    dsimp only at he ⊢
    unfold digitB at he ⊢
    split
    · next hc =>
      rw [if_pos hc] at he
      split
      · next hd => rw [if_pos hd] at he; unfold numErr at he; rw [hh] at he; cases he
      · next hd =>
        have := Sh.dig1 (p := { p with num := p.num * 10 + (c - 48), digits := p.digits + 1 }) ds l (dn ++ [c]) s hh mo n ne m w a ok (nn.snoc hc (fun hz => hd (.inl ⟨by omega, hz.2⟩)) (m := 4096) (by omega) (by omega) (fun h => hdg4 (by omega))) (by rw [List.length_append, List.length_singleton]; show ((dn.length + 1 : Nat) : Int) = p.digits + 1; omega)
        refine .inr ⟨?_, rfl⟩
        simpa using this
    · next hc =>
      rw [if_neg hc] at he
      split
      · next hd =>
        obtain ⟨rfl, hd0⟩ := hd
        have := Sh.num1 (p := { p with st := .numF }) ds l dn rfl hh n ne m w a ok nn (ne_of_len (by omega)) hi.args0.2
        refine .inr ⟨?_, rfl⟩
        simpa using this
      · next hd =>
        rw [if_neg hd] at he
        split
        · next hf => exact absurd hf.2.2 (by omega)
        · next hf => rw [if_neg hf] at he; unfold numErr at he; rw [hh] at he; cases he
  | num1 ds l dn s hh n ne m w a ok nn dne nm =>
    have hn0 := val_nonneg nn.d
    rw [nn.v] at hn0
    unfold ParS.step at he ⊢
    rw [s] at he ⊢
    dsimp only at he ⊢
    unfold numFB at he ⊢
    by_cases hc : c ≠ 10
    · rw [if_pos hc] at he; cases he
    · rw [if_neg hc, if_pos hh] at he ⊢
      obtain rfl : c = 10 := Decidable.not_not.1 hc
      have e0 : ((([] : List Int).length : Nat) : Int) + p.num = p.num := by simp
      have := Sh.cont (p := { p with cur := [], left := p.num, st := if p.num = 0 then .contR else .content }) ds l dn ?_ n ne m w a ok (by show Nm dn ((([] : List Int).length : Nat) + p.num); rw [e0]; exact nn) dne (by show ((([] : List Int).length : Nat) : Int) + p.num ≤ 4096; rw [e0]; exact nm)
      · refine .inr ⟨?_, rfl⟩
        simpa using this
      · dsimp only
        by_cases hz : p.num = 0
        · rw [if_pos hz]; exact .inr ⟨rfl, hz⟩
        · rw [if_neg hz]; exact .inl ⟨rfl, by omega⟩
  | cont ds l dn s n ne m w a ok nn dne nm =>
    rcases s with ⟨s, hl⟩ | ⟨s, hl⟩
    · unfold ParS.step at he ⊢
      rw [s] at he ⊢
      dsimp only at he ⊢
      have e0 : (((p.cur ++ [c]).length : Nat) : Int) + (p.left - 1) = p.cur.length + p.left := by rw [List.length_append, List.length_singleton]; omega
      have := Sh.cont (p := { p with cur := p.cur ++ [c], left := p.left - 1, st := if p.left - 1 = 0 then .contR else .content }) ds l dn ?_ n ne m w a ok (by show Nm dn (((p.cur ++ [c]).length : Nat) + (p.left - 1)); rw [e0]; exact nn) dne (by show (((p.cur ++ [c]).length : Nat) : Int) + (p.left - 1) ≤ 4096; rw [e0]; exact nm)
      · refine .inr ⟨?_, rfl⟩
        simpa using this
      · dsimp only
        by_cases hz : p.left - 1 = 0
        · rw [if_pos hz]; exact .inr ⟨rfl, hz⟩
        · rw [if_neg hz]; exact .inl ⟨rfl, by omega⟩
    · unfold ParS.step at he ⊢
      rw [s] at he ⊢
      dsimp only at he ⊢
      split at he
      · next hc =>
        subst hc
        have e0 : ((p.cur.length : Nat) : Int) + p.left = p.cur.length := by omega
        rw [e0] at nn nm
        have := Sh.contF (p := { p with st := .contF }) ds l dn rfl n ne m w a ok nn dne nm
        refine .inr ⟨?_, rfl⟩
        simpa using this
      · cases he
  | contF ds l dn s n ne m w a ok nn dne nm =>
    unfold ParS.step at he ⊢
    rw [s] at he ⊢
    dsimp only at he ⊢
    unfold contFB at he ⊢
    by_cases hc : c ≠ 10
    · rw [if_pos hc] at he; cases he
    · rw [if_neg hc] at he ⊢
      obtain rfl : c = 10 := Decidable.not_not.1 hc
      by_cases hz : ((p.args.length + 1 : Nat) : Int) = p.want
      · rw [if_pos hz]; exact .inl whole_sh
      · rw [if_neg hz]
        have := Sh.dollar (p := { p with args := p.args ++ [p.cur], st := .dollar }) ds (l ++ [(dn, p.cur)]) rfl n ne m (by show (((p.args ++ [p.cur]).length : Nat) : Int) < p.want; rw [List.length_append, List.length_singleton]; omega) (by simp [a]) (fun x hx => by
          rcases List.mem_append.1 hx with hx | hx
          · exact ok x hx
          · rw [List.mem_singleton.1 hx]; exact ⟨nn, dne⟩)
        rw [headB_append] at this
        refine .inr ⟨?_, rfl⟩
        simpa [argB] using this
theorem Sh.held {t : List Int} {p : PS} (h : Sh t p) (k : Int) : Sh t { p with held := k } := by
  cases h with
  | begin s a c => exact .begin s a c
  | line c r s e hc hn a => exact .line c r s e hc hn a
  | dig0 ds s hh m a n l nm => exact .dig0 ds s hh m a n l nm
  | minus s hh a n => exact .minus s hh a n
  | minusR s hh a n => exact .minusR s hh a n
  | num0 ds s hh a n ne m => exact .num0 ds s hh a n ne m
  | numM s hh a n => exact .numM s hh a n
  | dollar ds l s n ne m w a ok => exact .dollar ds l s n ne m w a ok
  | dig1 ds l dn s hh mo n ne m w a ok nn dl => exact .dig1 ds l dn s hh mo n ne m w a ok nn dl
  | num1 ds l dn s hh n ne m w a ok nn dne nm => exact .num1 ds l dn s hh n ne m w a ok nn dne nm
  | cont ds l dn s n ne m w a ok nn dne nm => exact .cont (p := { p with held := k }) ds l dn s n ne m w a ok nn dne nm
  | contF ds l dn s n ne m w a ok nn dne nm => exact .contF (p := { p with held := k }) ds l dn s n ne m w a ok nn dne nm
theorem Sh.told {t : List Int} {p : PS} (h : Sh t p) : Sh t (told p) := by
  cases h with
  | begin s a c => exact .begin s a c
  | line c r s e hc hn a => exact .line c r s e hc hn a
  | dig0 ds s hh m a n l nm => exact .dig0 ds s hh m a n l nm
  | minus s hh a n => exact .minus s hh a n
  | minusR s hh a n => exact .minusR s hh a n
  | num0 ds s hh a n ne m => exact .num0 ds s hh a n ne m
  | numM s hh a n => exact .numM s hh a n
  | dollar ds l s n ne m w a ok => exact .dollar ds l s n ne m w a ok
  | dig1 ds l dn s hh mo n ne m w a ok nn dl => exact .dig1 ds l dn s hh mo n ne m w a ok nn dl
  | num1 ds l dn s hh n ne m w a ok nn dne nm => exact .num1 ds l dn s hh n ne m w a ok nn dne nm
  | cont ds l dn s n ne m w a ok nn dne nm => exact .cont (p := ParS.told p) ds l dn s n ne m w a ok nn dne nm
  | contF ds l dn s n ne m w a ok nn dne nm => exact .contF (p := ParS.told p) ds l dn s n ne m w a ok nn dne nm
theorem Sh.run : ∀ (b : List Int) {t : List Int} {p : PS}, Inv p → Sh t p → p.held = t.length → (run p b).broken = 0 → ∃ pre u, t ++ b = pre ++ u ∧ Sh u (run p b) ∧ (run p b).held = u.length := by
  intro b
  induction b with
  | nil => intro t p _ h hh _; exact ⟨[], t, by simp, h, hh⟩
  | cons c b ih =>
    intro t p hi h hh hb
    rw [run_cons] at hb ⊢
    have hp0 : p.broken = 0 := by
      refine Decidable.not_not.1 fun hne => ?_
      rw [show runB p c = p from if_pos hne, run_broken hne b] at hb
      exact hne hb
    have hs : runB p c = step1 p c := if_neg (Decidable.not_not.2 hp0)
    have he : (ParS.step { p with held := p.held + 1 } c).2 = 0 := by
      refine Decidable.not_not.1 fun hne => ?_
      have e1 : runB p c = { (ParS.step { p with held := p.held + 1 } c).1 with broken := (ParS.step { p with held := p.held + 1 } c).2, held := 0, args := [], cur := [] } := by rw [hs]; unfold step1; rw [if_pos hne]
      have hbr : (runB p c).broken ≠ 0 := by rw [e1]; exact hne
      rw [run_broken hbr b] at hb
      exact hbr hb
    have e2 : runB p c = (ParS.step { p with held := p.held + 1 } c).1 := by rw [hs]; unfold step1; rw [if_neg (Decidable.not_not.2 he)]
    rcases Sh.step (hi.held hp0 (p.held + 1)) (h.held (p.held + 1)) he with ⟨h1, h2⟩ | ⟨h1, h2⟩
    · rw [← e2] at h1 h2
      obtain ⟨pre, u, e, hu, hl⟩ := ih (hi.runB c) h1 (by rw [h2]; rfl) hb
      refine ⟨t ++ c :: pre, u, ?_, hu, hl⟩
      rw [List.append_assoc, List.cons_append, ← e, List.nil_append]
    · rw [← e2] at h1 h2
      obtain ⟨pre, u, e, hu, hl⟩ := ih (hi.runB c) h1 (by rw [h2, List.length_append, List.length_singleton]; show p.held + 1 = _; omega) hb
      exact ⟨pre, u, by rw [← e]; simp, hu, hl⟩
end Go.Proofs.Ytfdkcnbkoagmiaa.LivS
end

section
namespace Go.Proofs.Ytfdkcnbkoagmiaa.LivT
open Go.Proofs.Ytfdkcnbkoagmiaa.LinS Go.Proofs.Ytfdkcnbkoagmiaa.ParS Go.Proofs.Ytfdkcnbkoagmiaa.LivS
set_option linter.unusedVariables false
def one : List Int := [36, 48, 13, 10, 13, 10]
def empties (n : Nat) : List Int := (List.replicate n one).flatten
def zeros (n : Nat) : List Int := List.replicate n 0
theorem empties_succ (n : Nat) : empties (n + 1) = one ++ empties n := by simp [empties, List.replicate_succ]
def rest (p : PS) : Nat := (p.want - p.args.length).toNat
def tail1 (n : Nat) : List Int := 13 :: 10 :: (zeros n ++ [13, 10])
theorem tail1_len (n : Nat) : (tail1 n).length = n + 4 := by simp [tail1, zeros]
def compl (p : PS) : List Int :=
  match p.st with
  | .digit => if p.head = 0 then (if p.digits = 0 then [48, 13, 10] else 13 :: 10 :: empties p.num.toNat)
      else (if p.digits = 0 then [48, 13, 10, 13, 10] else tail1 p.num.toNat) ++ empties (rest p - 1)
  | .minus => 49 :: 13 :: 10 :: empties p.num.toNat
  | .minusR => 13 :: 10 :: empties p.num.toNat
  | .numF => if p.head = 0 then 10 :: empties p.num.toNat else 10 :: (zeros p.num.toNat ++ [13, 10]) ++ empties (rest p - 1)
  | .dollar => empties (rest p)
  | .content => zeros p.left.toNat ++ [13, 10] ++ empties (rest p - 1)
  | .contR => 13 :: 10 :: empties (rest p - 1)
  | .contF => 10 :: empties (rest p - 1)
  | _ => []
def cnt (p : PS) : Int :=
  match p.st with
  | .digit => if p.head = 0 then p.num else p.want
  | .minus => p.num
  | .minusR => p.num
  | .numF => if p.head = 0 then p.num else p.want
  | _ => p.want
def Arr (p : PS) : Prop := p.st ≠ .begin ∧ p.st ≠ .line
structure Does (p q : PS) (r : List Int) : Prop where
  last : r = [] → q.held = 0 ∧ q.out = p.out ++ (if cnt p = 0 then [] else [q.out.getLastD []]) ∧ (cnt p ≠ 0 → ((q.out.getLastD []).length : Int) = cnt p)
  more : r ≠ [] → q.out = p.out ∧ q.held = p.held ∧ compl q = r ∧ cnt q = cnt p ∧ Arr q
theorem whole_last {p : PS} {n : Int} (ha : p.args = []) (hn : n = 0) : (whole p).held = 0 ∧ (whole p).out = p.out ++ (if n = 0 then [] else [(whole p).out.getLastD []]) ∧ (n ≠ 0 → (((whole p).out.getLastD []).length : Int) = n) := by
  refine ⟨rfl, ?_, fun h => absurd hn h⟩
  rw [if_pos hn]
  simp [whole, ha]
theorem whole_last1 {p : PS} {n : Int} {l : List (List Int)} {s : St} (hn : (l.length : Int) = n) (h0 : n ≠ 0) : (whole { p with args := l, st := s }).held = 0 ∧ (whole { p with args := l, st := s }).out = p.out ++ (if n = 0 then [] else [(whole { p with args := l, st := s }).out.getLastD []]) ∧ (n ≠ 0 → (((whole { p with args := l, st := s }).out.getLastD []).length : Int) = n) := by
  have hl : l ≠ [] := by rintro rfl; simp at hn; omega
  have e : (whole { p with args := l, st := s }).out = p.out ++ [l] := by simp [whole, hl]
  have e2 : (whole { p with args := l, st := s }).out.getLastD [] = l := by rw [e]; simp [List.getLastD_eq_getLast?]
  rw [e2, e, if_neg h0]
  exact ⟨rfl, rfl, fun _ => hn⟩
theorem compl_step {t : List Int} {p : PS} {c : Int} {r : List Int} (hi : Inv p) (h : Sh t p) (ha : Arr p) (hc : compl p = c :: r) : (ParS.step p c).2 = 0 ∧ Does p (ParS.step p c).1 r := by
  have hdg := hi.dg
  have hn0 := hi.args0.1
  cases h with
  | begin s a cc => exact absurd s ha.1
  | line d r s e hd hn a => exact absurd s ha.2
  | dig0 ds s hh m a n l nm =>
    unfold compl at hc
    rw [s] at hc
    dsimp only at hc
    rw [if_pos hh] at hc
    unfold ParS.step
    rw [s]
    dsimp only
    unfold digitB
    by_cases hd : p.digits = 0
    · have hz : p.num = 0 := by omega
      rw [if_pos hd] at hc
      cases hc
      rw [if_pos (by omega), if_neg (by omega)]
      refine ⟨rfl, fun h => (by cases h), fun _ => ⟨rfl, rfl, ?_, ?_, ?_⟩⟩
      · unfold compl
        dsimp only
        rw [s]
        dsimp only
        rw [if_pos hh, if_neg (by omega), hz]
        rfl
      · unfold cnt
        dsimp only
        rw [s]
        dsimp only
        rw [if_pos hh, if_pos hh, hz]
        rfl
      · exact ha
    · rw [if_neg hd] at hc
      cases hc
      rw [if_neg (by omega), if_pos ⟨rfl, by omega⟩]
      refine ⟨rfl, fun h => (by cases h), fun _ => ⟨rfl, rfl, ?_, ?_, ⟨fun h => (by cases h), fun h => (by cases h)⟩⟩⟩
      · unfold compl
        dsimp only
        rw [if_pos hh]
      · unfold cnt
        dsimp only
        rw [s]
  | minus s hh a n =>
    unfold compl at hc
    rw [s] at hc
    cases hc
    unfold ParS.step
    rw [s]
    dsimp only
    refine ⟨rfl, fun h => (by cases h), fun _ => ⟨rfl, rfl, rfl, ?_, ⟨fun h => (by cases h), fun h => (by cases h)⟩⟩⟩
    unfold cnt
    dsimp only
    rw [s]
  | minusR s hh a n =>
    unfold compl at hc
    rw [s] at hc
    cases hc
    unfold ParS.step
    rw [s]
    dsimp only
    refine ⟨rfl, fun h => (by cases h), fun _ => ⟨rfl, rfl, ?_, ?_, ⟨fun h => (by cases h), fun h => (by cases h)⟩⟩⟩
    · unfold compl
      dsimp only
      rw [if_pos hh]
    · unfold cnt
      dsimp only
      rw [s, if_pos hh]
  | num0 ds s hh a n ne m =>
    unfold compl at hc
    rw [s] at hc
    dsimp only at hc
    rw [if_pos hh] at hc
    cases hc
    have hcn : cnt p = p.num := by unfold cnt; rw [s]; dsimp only; rw [if_pos hh]
    unfold ParS.step
    rw [s]
    dsimp only
    unfold numFB
    rw [if_neg (by decide), if_neg (by omega)]
    by_cases hz : p.num = 0
    · rw [if_pos hz]
      exact ⟨rfl, fun _ => whole_last a (by rw [hcn]; exact hz), fun h => absurd (by rw [hz]; rfl) h⟩
    · rw [if_neg hz]
      refine ⟨rfl, fun h => ?_, fun _ => ⟨rfl, rfl, ?_, ?_, ⟨fun h => (by cases h), fun h => (by cases h)⟩⟩⟩
      · obtain ⟨k, hk⟩ : ∃ k, p.num.toNat = k + 1 := ⟨p.num.toNat - 1, by omega⟩
        rw [hk, empties_succ] at h
        cases h
      · unfold compl
        dsimp only
        unfold rest
        simp
      · rw [hcn]; rfl
  | numM s hh a n =>
    unfold compl at hc
    rw [s] at hc
    dsimp only at hc
    rw [if_pos hh] at hc
    cases hc
    have hcn : cnt p = p.num := by unfold cnt; rw [s]; dsimp only; rw [if_pos hh]
    unfold ParS.step
    rw [s]
    dsimp only
    unfold numFB
    rw [if_neg (by decide), if_neg (by omega), if_pos n]
    exact ⟨rfl, fun _ => whole_last a (by rw [hcn]; exact n), fun h => absurd (by rw [n]; rfl) h⟩
  | dollar ds l s n ne m w a ok =>
    unfold compl at hc
    rw [s] at hc
    dsimp only at hc
    obtain ⟨k, hk⟩ : ∃ k, rest p = k + 1 := ⟨rest p - 1, by unfold rest; omega⟩
    rw [hk, empties_succ] at hc
    cases hc
    unfold ParS.step
    rw [s]
    dsimp only
    refine ⟨rfl, fun h => (by cases h), fun _ => ⟨rfl, rfl, ?_, ?_, ⟨fun h => (by cases h), fun h => (by cases h)⟩⟩⟩
    · unfold compl
      show (if (1 : Int) = 0 then _ else (if (0 : Int) = 0 then [48, 13, 10, 13, 10] else tail1 _) ++ empties (rest p - 1)) = _
      rw [if_neg (by decide), if_pos rfl, hk]
      rfl
    · show p.want = cnt p
      unfold cnt
      rw [s]
  | dig1 ds l dn s hh mo n ne m w a ok nn dl =>
    unfold compl at hc
    rw [s] at hc
    dsimp only at hc
    rw [if_neg (by omega)] at hc
    have hcn : cnt p = p.want := by unfold cnt; rw [s]; dsimp only; rw [if_neg (by omega)]
    unfold ParS.step
    rw [s]
    dsimp only
    unfold digitB
    by_cases hd : p.digits = 0
    · have hz : p.num = 0 := by omega
      rw [if_pos hd] at hc
      cases hc
      rw [if_pos (by omega), if_neg (by omega)]
      refine ⟨rfl, fun h => (by cases h), fun _ => ⟨rfl, rfl, ?_, ?_, ha⟩⟩
      · unfold compl
        dsimp only
        rw [s]
        dsimp only
        rw [if_neg (by omega), if_neg (by omega), hz]
        rfl
      · rw [hcn]
        unfold cnt
        dsimp only
        rw [s]
        dsimp only
        rw [if_neg (by omega)]
    · rw [if_neg hd] at hc
      cases hc
      rw [if_neg (by omega), if_pos ⟨rfl, by omega⟩]
      refine ⟨rfl, fun h => (by cases h), fun _ => ⟨rfl, rfl, ?_, ?_, ⟨fun h => (by cases h), fun h => (by cases h)⟩⟩⟩
      · unfold compl
        dsimp only
        rw [if_neg (by omega)]
        rfl
      · rw [hcn]
        unfold cnt
        dsimp only
        rw [if_neg (by omega)]
  | num1 ds l dn s hh n ne m w a ok nn dne nm =>
    unfold compl at hc
    rw [s] at hc
    dsimp only at hc
    rw [if_neg (by omega)] at hc
    cases hc
    have hcn : cnt p = p.want := by unfold cnt; rw [s]; dsimp only; rw [if_neg (by omega)]
    unfold ParS.step
    rw [s]
    dsimp only
    unfold numFB
    rw [if_neg (by decide), if_pos hh]
    refine ⟨rfl, fun h => (by simp at h), fun _ => ⟨rfl, rfl, ?_, ?_, ?_⟩⟩
    · unfold compl
      dsimp only
      by_cases hz : p.num = 0
      · rw [if_pos hz, hz]
        rfl
      · rw [if_neg hz]
        rfl
    · rw [hcn]
      unfold cnt
      dsimp only
      by_cases hz : p.num = 0
      · rw [if_pos hz]
      · rw [if_neg hz]
    · by_cases hz : p.num = 0
      · exact ⟨fun h => (by dsimp only at h; rw [if_pos hz] at h; cases h), fun h => (by dsimp only at h; rw [if_pos hz] at h; cases h)⟩
      · exact ⟨fun h => (by dsimp only at h; rw [if_neg hz] at h; cases h), fun h => (by dsimp only at h; rw [if_neg hz] at h; cases h)⟩
  | cont ds l dn s n ne m w a ok nn dne nm =>
    rcases s with ⟨s, hl⟩ | ⟨s, hl⟩
    · have hcn : cnt p = p.want := by unfold cnt; rw [s]
      unfold compl at hc
      rw [s] at hc
      dsimp only at hc
      obtain ⟨k, hk⟩ : ∃ k, p.left.toNat = k + 1 := ⟨p.left.toNat - 1, by omega⟩
      have hk1 : (p.left - 1).toNat = k := by omega
      rw [hk] at hc
      cases hc
      unfold ParS.step
      rw [s]
      dsimp only
      refine ⟨rfl, fun h => (by simp at h), fun _ => ⟨rfl, rfl, ?_, ?_, ?_⟩⟩
      · unfold compl
        dsimp only
        by_cases hz : p.left - 1 = 0
        · obtain rfl : k = 0 := by omega
          rw [if_pos hz]
          rfl
        · rw [if_neg hz]
          dsimp only
          rw [hk1]
          rfl
      · rw [hcn]
        unfold cnt
        dsimp only
        by_cases hz : p.left - 1 = 0
        · rw [if_pos hz]
        · rw [if_neg hz]
      · by_cases hz : p.left - 1 = 0
        · exact ⟨fun h => (by dsimp only at h; rw [if_pos hz] at h; cases h), fun h => (by dsimp only at h; rw [if_pos hz] at h; cases h)⟩
        · exact ⟨fun h => (by dsimp only at h; rw [if_neg hz] at h; cases h), fun h => (by dsimp only at h; rw [if_neg hz] at h; cases h)⟩
    · have hcn : cnt p = p.want := by unfold cnt; rw [s]
      unfold compl at hc
      rw [s] at hc
      cases hc
      unfold ParS.step
      rw [s]
      dsimp only
      refine ⟨rfl, fun h => (by cases h), fun _ => ⟨rfl, rfl, rfl, ?_, ⟨fun h => (by cases h), fun h => (by cases h)⟩⟩⟩
      rw [hcn]
      rfl
  | contF ds l dn s n ne m w a ok nn dne nm =>
    have hcn : cnt p = p.want := by unfold cnt; rw [s]
    unfold compl at hc
    rw [s] at hc
    cases hc
    unfold ParS.step
    rw [s]
    dsimp only
    unfold contFB
    rw [if_neg (by decide)]
    have hr : rest p = (p.want - p.args.length).toNat := rfl
    by_cases hz : ((p.args.length + 1 : Nat) : Int) = p.want
    · rw [if_pos hz]
      refine ⟨rfl, fun _ => ?_, fun h => ?_⟩
      · rw [hcn]
        exact whole_last1 (by rw [List.length_append, List.length_singleton]; exact hz) (by omega)
      · rw [show rest p - 1 = 0 by omega] at h
        exact absurd rfl h
    · rw [if_neg hz]
      refine ⟨rfl, fun h => ?_, fun _ => ⟨rfl, rfl, ?_, ?_, ⟨fun h => (by cases h), fun h => (by cases h)⟩⟩⟩
      · obtain ⟨k, hk⟩ : ∃ k, rest p - 1 = k + 1 := ⟨rest p - 2, by omega⟩
        rw [hk, empties_succ] at h
        cases h
      · unfold compl
        show empties ((p.want - ((p.args ++ [p.cur]).length : Nat)).toNat) = _
        rw [List.length_append, List.length_singleton, show (p.want - ((p.args.length + 1 : Nat) : Int)).toNat = rest p - 1 by omega]
      · rw [hcn]
        rfl
end Go.Proofs.Ytfdkcnbkoagmiaa.LivT
end

section
namespace Go.Proofs.Ytfdkcnbkoagmiaa.LivF
open Go.Proofs.Ytfdkcnbkoagmiaa.LinS Go.Proofs.Ytfdkcnbkoagmiaa.ParS Go.Proofs.Ytfdkcnbkoagmiaa.LivS Go.Proofs.Ytfdkcnbkoagmiaa.LivT
set_option linter.unusedVariables false
def Vl (b : List Int) (v : Int) : Prop := b = [45, 49] ∧ v = 0 ∨ Nm b v ∧ b ≠ []
inductive Tl : List Int → List Int → Prop
  | none : Tl [] one
  | sign : Tl [36] [48, 13, 10, 13, 10]
  | some (dn u : List Int) (n : Nat) (h : Nm dn n) (ne : dn ≠ []) (hu : u.length < n + 4) (h13 : ∀ c r, u = c :: r → c = 13) : Tl (36 :: (dn ++ u)) ((tail1 n).drop u.length)
inductive Vw : List Int → List Int → Int → Prop
  | a0 : Vw [42] [48, 13, 10] 0
  | a1 : Vw [42, 45] [49, 13, 10] 0
  | a2 (ds : List Int) (v : Int) (h : Vl ds v) (hm : v ≤ 128) : Vw (42 :: ds) (13 :: 10 :: empties v.toNat) v
  | b (ds : List Int) (v : Int) (h : Vl ds v) (hm : v ≤ 128) : Vw (42 :: (ds ++ [13])) (10 :: empties v.toNat) v
  | c (ds : List Int) (l : List (List Int × List Int)) (tl r : List Int) (v : Int) (h : Nm ds v) (ne : ds ≠ []) (hm : v ≤ 128) (hl : (l.length : Int) < v) (ok : ∀ x ∈ l, ArgOk x) (ht : Tl tl r) : Vw (headB ds l ++ tl) (r ++ empties (v.toNat - 1 - l.length)) v
theorem _root_.Go.Proofs.Ytfdkcnbkoagmiaa.LivS.Nm.nonneg {l : List Int} {v : Int} (h : Nm l v) : 0 ≤ v := by
  have := val_nonneg h.d
  rw [h.v] at this
  exact this
theorem Vl.nonneg {l : List Int} {v : Int} (h : Vl l v) : 0 ≤ v := by
  rcases h with ⟨_, rfl⟩ | ⟨h, _⟩
  · exact Int.le_refl _
  · exact h.nonneg
theorem zeros_drop (a b : Nat) : zeros (a + b) = zeros a ++ zeros b := by unfold zeros; exact List.replicate_append_replicate.symm
theorem drop_tail1 (a b : Nat) : (tail1 (a + b)).drop (a + 2) = zeros b ++ [13, 10] := by
  unfold tail1
  rw [zeros_drop, List.drop_succ_cons, List.drop_succ_cons, List.append_assoc, List.drop_left' (by simp [zeros])]
theorem _root_.Go.Proofs.Ytfdkcnbkoagmiaa.LivS.Sh.vw {t : List Int} {p : PS} (h : Sh t p) (hi : Inv p) (ha : Arr p) : Vw t (compl p) (cnt p) := by
  have hdg := hi.dg
  have hrest : rest p = (p.want - p.args.length).toNat := rfl
  cases h with
  | begin s a cc => exact absurd s ha.1
  | line d r s e hd hn a => exact absurd s ha.2
  | dig0 ds s hh m a n l nm =>
    have ec : compl p = if p.digits = 0 then [48, 13, 10] else 13 :: 10 :: empties p.num.toNat := by unfold compl; rw [s]; dsimp only; rw [if_pos hh]
    have en : cnt p = p.num := by unfold cnt; rw [s]; dsimp only; rw [if_pos hh]
    rw [ec, en]
    by_cases hd : p.digits = 0
    · rw [if_pos hd]
      obtain rfl : ds = [] := List.length_eq_zero_iff.1 (by omega)
      have : p.num = 0 := by omega
      rw [this]
      exact .a0
    · rw [if_neg hd]
      exact .a2 ds _ (.inr ⟨n, ne_of_len (by omega)⟩) nm
  | minus s hh a n =>
    have ec : compl p = 49 :: 13 :: 10 :: empties p.num.toNat := by unfold compl; rw [s]
    have en : cnt p = p.num := by unfold cnt; rw [s]
    rw [ec, en, n]
    exact .a1
  | minusR s hh a n =>
    have ec : compl p = 13 :: 10 :: empties p.num.toNat := by unfold compl; rw [s]
    have en : cnt p = p.num := by unfold cnt; rw [s]
    rw [ec, en]
    exact .a2 [45, 49] _ (.inl ⟨rfl, n⟩) (by omega)
  | num0 ds s hh a n ne m =>
    have ec : compl p = 10 :: empties p.num.toNat := by unfold compl; rw [s]; dsimp only; rw [if_pos hh]
    have en : cnt p = p.num := by unfold cnt; rw [s]; dsimp only; rw [if_pos hh]
    rw [ec, en]
    exact .b ds _ (.inr ⟨n, ne⟩) m
  | numM s hh a n =>
    have ec : compl p = 10 :: empties p.num.toNat := by unfold compl; rw [s]; dsimp only; rw [if_pos hh]
    have en : cnt p = p.num := by unfold cnt; rw [s]; dsimp only; rw [if_pos hh]
    rw [ec, en]
    exact .b [45, 49] _ (.inl ⟨rfl, n⟩) (by omega)
  | dollar ds l s n ne m w a ok =>
    have en : cnt p = p.want := by unfold cnt; rw [s]
    have hla : p.args.length = l.length := by rw [a, List.length_map]
    have ec : compl p = one ++ empties (p.want.toNat - 1 - l.length) := by
      unfold compl
      rw [s]
      dsimp only
      rw [show rest p = (p.want.toNat - 1 - l.length) + 1 by omega, empties_succ]
    rw [ec, en]
    have := Vw.c ds l [] one p.want n ne m (by omega) ok .none
    rw [List.append_nil] at this
    exact this
  | dig1 ds l dn s hh mo n ne m w a ok nn dl =>
    have en : cnt p = p.want := by unfold cnt; rw [s]; dsimp only; rw [if_neg (by omega)]
    have hla : p.args.length = l.length := by rw [a, List.length_map]
    have ec : compl p = (if p.digits = 0 then [48, 13, 10, 13, 10] else tail1 p.num.toNat) ++ empties (p.want.toNat - 1 - l.length) := by
      unfold compl
      rw [s]
      dsimp only
      rw [if_neg (by omega), show rest p - 1 = p.want.toNat - 1 - l.length by omega]
    rw [ec, en]
    refine .c ds l _ _ p.want n ne m (by omega) ok ?_
    by_cases hd : p.digits = 0
    · rw [if_pos hd]
      obtain rfl : dn = [] := List.length_eq_zero_iff.1 (by omega)
      exact .sign
    · rw [if_neg hd]
      have := Tl.some dn [] p.num.toNat (by rw [Int.toNat_of_nonneg nn.nonneg]; exact nn) (ne_of_len (by omega)) (by simp only [List.length_nil]; omega) (fun c r h => by cases h)
      rw [List.append_nil] at this
      exact this
  | num1 ds l dn s hh n ne m w a ok nn dne nm =>
    have en : cnt p = p.want := by unfold cnt; rw [s]; dsimp only; rw [if_neg (by omega)]
    have hla : p.args.length = l.length := by rw [a, List.length_map]
    have ec : compl p = (tail1 p.num.toNat).drop 1 ++ empties (p.want.toNat - 1 - l.length) := by
      unfold compl
      rw [s]
      dsimp only
      rw [if_neg (by omega), show rest p - 1 = p.want.toNat - 1 - l.length by omega]
      rfl
    rw [ec, en]
    exact .c ds l _ _ p.want n ne m (by omega) ok (Tl.some dn [13] p.num.toNat (by rw [Int.toNat_of_nonneg nn.nonneg]; exact nn) dne (by simp only [List.length_singleton]; omega) (fun c r h => by cases h; rfl))
  | cont ds l dn s n ne m w a ok nn dne nm =>
    have hla : p.args.length = l.length := by rw [a, List.length_map]
    have hl0 := hi.left.1
    have en : cnt p = p.want := by unfold cnt; rcases s with ⟨s, _⟩ | ⟨s, _⟩ <;> rw [s]
    have e1 : (tail1 (p.cur.length + p.left.toNat)).drop (p.cur.length + 2) = zeros p.left.toNat ++ [13, 10] := drop_tail1 _ _
    have ec : compl p = (zeros p.left.toNat ++ [13, 10]) ++ empties (p.want.toNat - 1 - l.length) := by
      unfold compl
      rcases s with ⟨s, _⟩ | ⟨s, hz⟩
      · rw [s]
        dsimp only
        rw [show rest p - 1 = p.want.toNat - 1 - l.length by omega]
      · rw [s, hz]
        dsimp only
        rw [show rest p - 1 = p.want.toNat - 1 - l.length by omega]
        rfl
    rw [ec, en, ← e1]
    exact .c ds l _ _ p.want n ne m (by omega) ok (Tl.some dn (13 :: 10 :: p.cur) (p.cur.length + p.left.toNat) (by rw [Int.natCast_add, Int.toNat_of_nonneg hl0]; exact nn) dne (by simp only [List.length_cons]; omega) (fun c r h => by cases h; rfl))
  | contF ds l dn s n ne m w a ok nn dne nm =>
    have hla : p.args.length = l.length := by rw [a, List.length_map]
    have en : cnt p = p.want := by unfold cnt; rw [s]
    have e1 : (tail1 p.cur.length).drop (p.cur.length + 3) = [10] := by
      have := drop_tail1 p.cur.length 0
      simp only [Nat.add_zero] at this
      rw [show p.cur.length + 3 = (p.cur.length + 2) + 1 by omega, ← List.drop_drop, this]
      rfl
    have ec : compl p = [10] ++ empties (p.want.toNat - 1 - l.length) := by
      unfold compl
      rw [s]
      dsimp only
      rw [show rest p - 1 = p.want.toNat - 1 - l.length by omega]
      rfl
    rw [ec, en, ← e1]
    have := Tl.some dn (13 :: 10 :: (p.cur ++ [13])) p.cur.length nn dne (by simp only [List.length_cons, List.length_append, List.length_nil]; omega) (fun c r h => by cases h; rfl)
    rw [show (13 :: 10 :: (p.cur ++ [13])).length = p.cur.length + 3 by simp] at this
    exact .c ds l _ _ p.want n ne m (by omega) ok this
theorem Tl.ne {tl r : List Int} (h : Tl tl r) : r ≠ [] := by
  cases h with
  | none => exact fun h => by cases h
  | sign => exact fun h => by cases h
  | some dn u n h ne hu h13 =>
    intro e
    have := congrArg List.length e
    rw [List.length_drop, tail1_len] at this
    simp only [List.length_nil] at this
    omega
theorem Vw.ne {t r : List Int} {n : Int} (h : Vw t r n) : r ≠ [] := by
  cases h with
  | c ds l tl r v h ne hm hl ok ht =>
    intro e
    exact ht.ne (List.append_eq_nil_iff.1 e).1
  | _ => exact fun h => by cases h
end Go.Proofs.Ytfdkcnbkoagmiaa.LivF
end

section
namespace Go.Proofs.Ytfdkcnbkoagmiaa.FinV
open Go Go.RowKit Go.Proofs.YtfdkcnbkoagmiaaW.PrintWords Go.Proofs.YtfdkcnbkoagmiaaW.PrintLast Go.Proofs.YtfdkcnbkoagmiaaW.PrintMore Go.Proofs.Ytfdkcnbkoagmiaa.PA Go.Proofs.Ytfdkcnbkoagmiaa.RowU Go.Proofs.Ytfdkcnbkoagmiaa.CopL Go.Proofs.Ytfdkcnbkoagmiaa.ApnG Go.Proofs.Ytfdkcnbkoagmiaa.LivS Go.Proofs.Ytfdkcnbkoagmiaa.LivT Go.Proofs.Ytfdkcnbkoagmiaa.LivF
set_option linter.unusedVariables false
set_option maxRecDepth 100000
theorem byteAt {w : World} {A : Option Addr} {l : List Int} (h : (Kd.int .u8).C w A l.length l) {i : Nat} {x : Int} (hi : l[i]? = some x) : ∃ ad, A = some ad ∧ w.cell? (ad.add i) = some (.int .u8 x) := by
  obtain ⟨hl, rfl⟩ := List.getElem?_eq_some_iff.1 hi
  obtain ⟨ad, e, hc⟩ := h.2.2 (by omega)
  obtain ⟨cs, c1, c2, c3⟩ := hc i l[i] (List.getElem?_eq_getElem hl)
  have c4 : cs = [Value.int .u8 l[i]] := c2
  subst c4
  have := c3 0 _ rfl
  rw [show (Kd.int .u8).sz = 1 from rfl, Nat.mul_one, Nat.add_zero] at this
  exact ⟨ad, e, this⟩
theorem val_le4 {l : List Int} (h : digs l) (hl : l.length ≤ 4) : ∀ k, 0 ≤ val (l.take k) ∧ val (l.take k) ≤ 9999 := by
  have key : ∀ m : List Int, digs m → 0 ≤ val m ∧ val m < 10 ^ m.length := by
    refine fun m => snoc_ind (P := fun m => digs m → 0 ≤ val m ∧ val m < 10 ^ m.length) (fun _ => by simp [val]) (fun m c ih h => ?_) m
    have h1 := ih (fun x hx => h x (by simp [hx]))
    have h2 := h c (by simp)
    rw [val_snoc, List.length_append, List.length_singleton, Int.pow_succ]
    omega
  intro k
  have h1 := key (l.take k) (fun x hx => h x (List.mem_of_mem_take hx))
  refine ⟨h1.1, ?_⟩
  have hk : (l.take k).length ≤ 4 := by rw [List.length_take]; omega
  generalize (l.take k).length = n at h1 hk
  have : n = 0 ∨ n = 1 ∨ n = 2 ∨ n = 3 ∨ n = 4 := by omega
  rcases this with rfl | rfl | rfl | rfl | rfl <;> omega
theorem val_take {l : List Int} {k : Nat} {x : Int} (h : l[k]? = some x) : val (l.take (k + 1)) = 10 * val (l.take k) + (x - 48) := by
  obtain ⟨hk, rfl⟩ := List.getElem?_eq_some_iff.1 h
  rw [List.take_add_one, List.getElem?_eq_getElem hk, Option.toList_some, val_snoc]
set_option maxHeartbeats 4000000 in
theorem value.calls (A : Option Addr) (c : Nat) (l : List Int) (v : Int) (w : World) (hr : (Kd.int .u8).C w A l.length l) (hc : l.length ≤ c) (hv : Vl l v) :
    Calls Try.prog 38 #[.slice A l.length c] w fun e w' => e = .returned (.int .i64 v) ∧ Below w.heap.size w w' := by
  have hlen : l.length ≤ 4 := by
    rcases hv with ⟨rfl, _⟩ | ⟨h, _⟩
    · decide
    · exact h.len
  have e1 : strOfNums [45, 49] = (⟨#[45, 49]⟩ : ByteArray) := rfl
  have hi := IsG.isG.calls A c l [45, 49] w hr hc (by intro x hx; simp at hx; omega) (by omega) (by decide)
  rw [e1] at hi
  rcases hv with ⟨rfl, rfl⟩ | ⟨hn, hne⟩
  · rw [decide_eq_true rfl] at hi
    have HI := Aside0.mk hi
    clear hi hr hc hlen
    go_enter Try.func38, Try.ntmps38
    go_wp2_with (go_at_call 27; refine HI.out.mono ?_; rintro e w2 ⟨rfl, hb⟩; have HB := Aside0.mk hb; clear hb)
    go_ret
    exact ⟨rfl, HB.out⟩
  · rw [decide_eq_false (by rintro rfl; have := hn.d 45 (by simp); omega)] at hi
    have HI := Aside0.mk hi
    have HV := Aside0.mk (val_le4 hn.d hlen)
    have HN := Aside0.mk hn
    have HR := Aside0.mk hr
    have HL := Aside0.mk hlen
    clear hi hr hn hlen
    go_enter Try.func38, Try.ntmps38
    go_wp2_with (go_at_call 27; refine HI.out.mono ?_; rintro e w2 ⟨rfl, hb⟩; have HB := Aside0.mk hb; clear hb)
    have HR2 := Aside0.mk (Kd.C_below HR.out HB.out)
    go_loopw [3, 4] (fun n i wr => ∃ k : Nat, n = .int .i64 (val (l.take k)) ∧ i = .int .i64 k ∧ Aside0 (k ≤ l.length ∧ wr = w2)) (fun _ i _ => l.length - (intOf i).toNat)
    case atStart => exact ⟨0, rfl, rfl, ⟨Nat.zero_le _, rfl⟩⟩
    case round =>
      obtain ⟨k, rfl, rfl, HK⟩ := hrel
      obtain ⟨hk, hw⟩ := HK.out
      subst hw
      have hl4 := HL.out
      have hVk := HV.out k
      by_cases hlt : k < l.length
      · obtain ⟨x, hx⟩ : ∃ x, l[k]? = some x := ⟨_, List.getElem?_eq_getElem hlt⟩
        obtain ⟨ad, rfl, hcell⟩ := byteAt HR2.out hx
        have hd := HN.out.d x (List.mem_of_getElem? hx)
        have HT := Aside0.mk (val_take hx)
        have HD := Aside0.mk hd
        have HVK := Aside0.mk hVk
        have hlt' : (k : Int) < (l.length : Int) := by omega
        have hk0 : (0 : Int) ≤ (k : Int) := by omega
        have hk4 : ¬ (4 : Int) < (k : Int) := by omega
        have hd1 : ¬ x < 48 := by omega
        have hd2 : ¬ 57 < x := by omega
        have HM : Aside0 (k < l.length ∧ l.length - (k + 1) < l.length - k ∧ l.length ≤ 4) := ⟨by omega⟩
        obtain ⟨V, hV⟩ : ∃ V, V = val (l.take k) := ⟨_, rfl⟩
        rw [← hV] at HT HVK
        rw [← hV]
        clear hVk hx hd hlt hl4 hk hV HK
        go_wp2_with fail
        have h1 := HT.out
        have h2 := HD.out
        have h3 := HVK.out
        have h4 := HM.out
        refine ⟨⟨k + 1, ?_, ?_, ⟨by omega, trivial⟩⟩, ?_⟩
        · congr 1
          rw [h1]
          (try unfold wrap64)
          omega
        · first
            | rfl
            | (congr 1; (try unfold wrap64); omega)
        · simp only [intOf]
          (try unfold wrap64)
          omega
      · have hke : k = l.length := by omega
        subst hke
        rw [List.take_length]
        have HE : Aside0 (val l = v) := ⟨HN.out.v⟩
        have hlt' : ¬ (l.length : Int) < (l.length : Int) := by omega
        clear hVk hlt hl4 hk
        go_wp2_with fail
        go_ret
        exact ⟨by rw [HE.out]; rfl, HB.out⟩
theorem empties_snoc (n : Nat) : LivT.empties (n + 1) = LivT.empties n ++ one := by
  unfold LivT.empties
  rw [List.replicate_succ', List.flatten_append]
  simp
theorem empties_len (n : Nat) : (LivT.empties n).length = 6 * n := by
  induction n with
  | zero => rfl
  | succ n ih => rw [empties_snoc, List.length_append, ih]; simp [one]; omega
theorem meas (n k : Nat) (h : k < n) : n - (intOf (.int .i64 ((k : Int) + 1))).toNat < n - (intOf (.int .i64 (k : Int))).toNat := by simp only [intOf]; omega
theorem meas2 (n k : Nat) (h : k < n) : n - (intOf (.int .i64 ((k + 1 : Nat) : Int))).toNat < n - (intOf (.int .i64 (k : Int))).toNat := by simp only [intOf]; omega
theorem one_size : (⟨#[36, 48, 13, 10, 13, 10]⟩ : ByteArray).size = 6 := rfl
theorem one_cells : Lib.strCells ⟨#[36, 48, 13, 10, 13, 10]⟩ = one.map (Value.int .u8) := rfl
set_option maxHeartbeats 4000000 in
theorem empties.calls (n : Nat) (hn : n ≤ 1000) (w : World) :
    Calls Try.prog 39 #[.int .i64 n] w fun e w' => ∃ vb, e = .returned vb ∧ Apd w.heap.size w w' vb (LivT.empties n) := by
  obtain ⟨i5, hi5, hz0, hz1, hz2⟩ := infoB
  have HI := Aside0.mk (And.intro hi5 (And.intro hz0 (And.intro hz1 hz2)))
  clear hi5 hz0 hz1 hz2
  go_enter Try.func39, Try.ntmps39
  go_wp2_with fail
  go_loopw [3, 4] (fun b i wr => ∃ (vb : Value) (k : Nat), vb = b ∧ i = .int .i64 k ∧ Aside0 (k ≤ n ∧ wr.ownsRow w.heap.size 5 1 b (6 * k) ((LivT.empties k).map (Value.int .u8)) ∧ Below w.heap.size w wr)) (fun _ i _ => n - (intOf i).toNat)
  case atStart => exact ⟨_, 0, rfl, rfl, ⟨Nat.zero_le _, World.ownsRow_nil w _ _ 1, Below.refl _ _⟩⟩
  case round =>
    rename World => wr
    obtain ⟨b, k, rfl, rfl, HK⟩ := hrel
    have hk := HK.out.1
    by_cases hlt : k < n
    · have hlt' : (k : Int) < (n : Int) := by omega
      have HM : Aside0 (k < n ∧ n ≤ 1000) := ⟨by omega⟩
      have HW : Aside0 (wrap64 ((k : Int) + 1) = ((k + 1 : Nat) : Int)) := ⟨by unfold wrap64; omega⟩
      have HB1 : Aside0 (6 * k + 6 ≤ maxLen ∧ 6 * k + 6 ≤ 140737488355328) := ⟨by unfold maxLen; omega⟩
      clear hk hn hlt
      go_wp2_with ((with_reducible refine gate_builtin (b := .append) (xs := #[.tmp 10, .const (.string ⟨#[36, 48, 13, 10, 13, 10]⟩)]) rfl ?_); at_builtin; go_must (refine Lib.wpList_append_own_string _ rfl (.tmp 10) (.const (.string ⟨#[36, 48, 13, 10, 13, 10]⟩)) 26 9 rfl w.heap.size 5 i5 Try.underlying26 Try.underlying9 HI.out.1 HI.out.2.1 HI.out.2.2.1 HI.out.2.2.2 b (6 * k) ((LivT.empties k).map (Value.int .u8)) rfl HK.out.2.1 _ rfl HB1.out.1 HB1.out.2 HK.out.2.2.size ?_); intro v2 w2 ho hg _; have HO := Aside0.mk ho; have HG := Aside0.mk hg; clear ho hg)
      have hm := HM.out
      refine ⟨⟨_, k + 1, rfl, ?_, ⟨by omega, ?_, ?_⟩⟩, ?_⟩
      · first
          | rfl
          | (congr 1; (try unfold wrap64); omega)
      · have h1 := HO.out
        have e : (LivT.empties (k + 1)).map (Value.int .u8) = (LivT.empties k).map (Value.int .u8) ++ Lib.strCells ⟨#[36, 48, 13, 10, 13, 10]⟩ := by rw [empties_snoc, List.map_append, one_cells]
        rw [e, show 6 * (k + 1) = 6 * k + 6 by omega]
        rw [one_size] at h1
        exact h1
      · refine HK.out.2.2.grown HG.out HK.out.2.2.size (fun q hq => ?_)
        rcases HK.out.2.1.2 with ⟨h1, _⟩ | ⟨g', cap', cur', h1, hb', _⟩
        · rw [h1] at hq; cases hq
        · rw [h1] at hq
          obtain rfl := Option.some.inj hq
          exact hb'
      · first
          | exact meas n k HM.out.1
          | (rw [HW.out]; exact meas2 n k HM.out.1)
    · have hke : k = n := by omega
      subst hke
      have hlt' : ¬ (k : Int) < (k : Int) := by omega
      clear hk hlt
      go_wp2_with fail
      go_ret
      obtain ⟨_, ho, hb⟩ := HK.out
      have ho2 : wr.ownsRow w.heap.size 5 1 b (LivT.empties k).length (encs (Value.int .u8) (LivT.empties k)) := by
        rw [empties_len, show encs (Value.int .u8) (LivT.empties k) = (LivT.empties k).map (Value.int .u8) by simp [encs]]
        exact ho
      obtain ⟨A', c', rfl, hl, hC⟩ := Kd.R_reads (Kd.R_of_own (h1 := fun _ => rfl) ho2 (ok := fun _ => True) (fun _ _ => trivial))
      refine ⟨_, rfl, A', c', rfl, hl, hC, fun ad e => ?_, hb⟩
      subst e
      rcases ho2.2 with ⟨h1, _⟩ | ⟨g', cap', cur', h1, hb', hg', _⟩
      · cases h1
      · simp only [Value.slice.injEq, Option.some.injEq] at h1
        rw [h1.1]
        exact ⟨hb', (Array.getElem?_eq_some_iff.1 hg').1, rfl, rfl⟩
end Go.Proofs.Ytfdkcnbkoagmiaa.FinV
end

section
namespace Go.Proofs.Ytfdkcnbkoagmiaa.FinA
open Go Go.RowKit Go.Proofs.YtfdkcnbkoagmiaaW.PrintWords Go.Proofs.YtfdkcnbkoagmiaaW.PrintLast Go.Proofs.YtfdkcnbkoagmiaaW.PrintMore Go.Proofs.Ytfdkcnbkoagmiaa.PA Go.Proofs.Ytfdkcnbkoagmiaa.RowU Go.Proofs.Ytfdkcnbkoagmiaa.CopL Go.Proofs.Ytfdkcnbkoagmiaa.ApnG Go.Proofs.Ytfdkcnbkoagmiaa.LivS Go.Proofs.Ytfdkcnbkoagmiaa.LivT Go.Proofs.Ytfdkcnbkoagmiaa.LivF Go.Proofs.Ytfdkcnbkoagmiaa.FinV
set_option linter.unusedVariables false
set_option maxRecDepth 100000
theorem C_mid {w : World} {ad : Addr} {t m : List Int} {j : Nat} (h : (Kd.int .u8).C w (some ad) t.length t) (hm : ∀ i x, m[i]? = some x → t[j + i]? = some x) (hl : m.length ≤ t.length) : (Kd.int .u8).C w (some (ad.add j)) m.length m := by
  obtain ⟨h1, h2, h3⟩ := h
  refine ⟨rfl, by omega, fun h0 => ⟨_, rfl, fun i x hx => ?_⟩⟩
  obtain ⟨ad', e, hc⟩ := h3 (by omega)
  obtain rfl := Option.some.inj e
  obtain ⟨cs, c1, c2, c3⟩ := hc (j + i) x (hm i x hx)
  refine ⟨cs, c1, c2, fun p u hu => ?_⟩
  have := c3 p u hu
  rw [show (Kd.int .u8).sz = 1 from rfl] at this ⊢
  rw [Addr.add_add]
  rw [show j + (i * 1 + p) = (j + i) * 1 + p by omega]
  exact this
theorem zeros_len (n : Nat) : (zeros n).length = n := by simp [zeros]
theorem zeros_C (w : World) (n : Nat) (hn : n ≤ 1000000) : (Kd.int .u8).C (w.alloc (.cells (madeCells #[.int .u8 0] n) 5)) (some ⟨w.heap.size, 0, none⟩) (zeros n).length (zeros n) := by
  refine C_of _ _ _ (by rw [zeros_len]; omega) (fun j x hx => ?_)
  have hj : j < n := by have := (List.getElem?_eq_some_iff.1 hx).1; rw [zeros_len] at this; exact this
  obtain ⟨_, hx'⟩ := List.getElem?_eq_some_iff.1 hx
  have h0 : x = 0 := by rw [← hx']; simp [zeros]
  subst h0
  obtain ⟨cur, h1, h2, h3, h4, h5⟩ := row_made w n (by unfold maxLen; omega)
  rw [cell_of_row _ _ j _ _ _ h1]
  have h6 := congrArg (fun r => r[j]?) h5
  simp only [List.length_replicate, List.getElem?_take, if_pos hj, List.getElem?_map, List.getElem?_replicate, Option.map_some] at h6
  simpa using h6
theorem tail_str (n : Nat) : (⟨#[13, 10]⟩ : ByteArray) ++ strOfNums (zeros n) ++ ⟨#[13, 10]⟩ = strOfNums (tail1 n) := by
  rw [show (⟨#[13, 10]⟩ : ByteArray) = strOfNums [13, 10] from rfl, StrR.str_append, StrR.str_append]
  rfl
set_option maxHeartbeats 4000000 in
theorem argument_none (A : Option Addr) (c : Nat) (t : List Int) (w : World) (ht : t.length ≤ 100000000) :
    Calls Try.prog 40 #[.slice A t.length c, .int .i64 t.length] w fun e w' => e = .returned (.tuple #[.string (strOfNums one), .int .i64 0]) ∧ Below w.heap.size w w' := by
  have h1 : (t.length : Int) ≤ (t.length : Int) := Int.le_refl _
  go_enter Try.func40, Try.ntmps40
  go_wp2_with fail
  go_ret2
  exact ⟨rfl, Below.refl _ _⟩
structure At (t : List Int) (i : Nat) (dn : List Int) (k : Nat) : Prop where
  lt : i < t.length
  hk : k = i + 1 + dn.length
  le : k ≤ t.length
  dg : ∀ j x, dn[j]? = some x → t[i + 1 + j]? = some x
  no : (13 : Int) ∉ dn
  stop : k = t.length ∨ t[k]? = some 13
theorem meas (L : Nat) (a b : Int) (h1 : 0 ≤ a) (h : a < L) (h2 : b = a + 1) : L - (intOf (.int .i64 b)).toNat < L - (intOf (.int .i64 a)).toNat := by simp only [intOf]; omega
set_option maxHeartbeats 8000000 in
theorem argument_sign (A : Option Addr) (c : Nat) (t : List Int) (w : World) (hr : (Kd.int .u8).C w A t.length t) (hc : t.length ≤ c) (ht : t.length ≤ 100000000) (i : Nat) (hi : t.length = i + 1) :
    Calls Try.prog 40 #[.slice A t.length c, .int .i64 i] w fun e w' => e = .returned (.tuple #[.string (strOfNums [48, 13, 10, 13, 10]), .int .i64 0]) ∧ Below w.heap.size w w' := by
  have hw : wrap64 ((i : Int) + 1) = (t.length : Int) := by unfold wrap64; omega
  have h1 : ¬ (t.length : Int) ≤ (i : Int) := by omega
  have h2 : ¬ (t.length : Int) < (t.length : Int) := by omega
  have HW := Aside0.mk hw
  clear hr hi ht
  go_enter Try.func40, Try.ntmps40
  go_wp2_with fail
  go_loopw [6] (fun k wr => k = .int .i64 t.length ∧ wr = w) (fun _ _ => 0)
  case atStart => exact ⟨rfl, rfl⟩
  case round =>
    obtain ⟨rfl, rfl⟩ := hrel
    go_wp2_with fail
    go_ret2
    exact ⟨rfl, Below.refl _ _⟩
theorem w64a (a b : Int) (h : a + 1 = b) (h0 : 0 ≤ b) (h1 : b ≤ 1000000000000) : wrap64 (a + 1) = b := by unfold wrap64; omega
theorem w64s (a b c : Int) (h : a - b = c) (h0 : 0 ≤ c) (h1 : c ≤ 1000000000000) : wrap64 (a - b) = c := by unfold wrap64; omega
theorem w64p (a b c : Int) (h : a + b = c) (h0 : 0 ≤ c) (h1 : c ≤ 1000000000000) : wrap64 (a + b) = c := by unfold wrap64; omega
set_option maxHeartbeats 8000000 in
theorem argument_some (g o c : Nat) (t : List Int) (w : World) (hr : (Kd.int .u8).C w (some ⟨g, o, none⟩) t.length t) (hc : t.length ≤ c) (ht : t.length ≤ 100000000) (i : Nat) (dn : List Int) (k : Nat) (n : Nat) (hA : At t i dn k) (hn : Nm dn n) (hne : dn ≠ []) :
    Calls Try.prog 40 #[.slice (some ⟨g, o, none⟩) t.length c, .int .i64 i] w fun e w' => e = .returned (if t.length - k < n + 4 then .tuple #[.string (strOfNums ((tail1 n).drop (t.length - k))), .int .i64 0] else .tuple #[.string ⟨#[]⟩, .int .i64 ((k + (n + 4) : Nat) : Int)]) ∧ Below w.heap.size w w' := by
  obtain ⟨RV, hRV⟩ : ∃ RV, RV = (if t.length - k < n + 4 then Value.tuple #[.string (strOfNums ((tail1 n).drop (t.length - k))), .int .i64 0] else .tuple #[.string ⟨#[]⟩, .int .i64 ((k + (n + 4) : Nat) : Int)]) := ⟨_, rfl⟩
  rw [← hRV]
  have HRV := Aside0.mk hRV
  clear hRV
  have hi := hA.lt
  have hk := hA.hk
  have hle := hA.le
  have HA := Aside0.mk hA
  have HR := Aside0.mk hr
  have HN := Aside0.mk hn
  have hdl : 1 ≤ dn.length := by
    cases dn with
    | nil => exact absurd rfl hne
    | cons x r => simp
  have hd4 := hn.len
  have hn9 : n ≤ 9999 := by
    have := (val_le4 hn.d hd4 dn.length).2
    rw [List.take_length, hn.v] at this
    omega
  have HB := Aside0.mk (And.intro hdl (And.intro hd4 (And.intro hn9 (And.intro hk (And.intro hle (And.intro ht hc))))))
  have hwi : wrap64 ((i : Int) + 1) = ((i + 1 : Nat) : Int) := w64a _ _ (by omega) (by omega) (by omega)
  have hi1 : ¬ (t.length : Int) ≤ (i : Int) := by omega
  clear hr hA hn hne hi hk hle hdl hd4 hn9 ht
  go_enter Try.func40, Try.ntmps40
  go_wp2_with fail
  go_loopw [6] (fun kk wr => ∃ j : Nat, kk = .int .i64 ((i + 1 + j : Nat) : Int) ∧ Aside0 (j ≤ dn.length) ∧ w = wr) (fun kk _ => t.length - (intOf kk).toNat)
  case atStart => exact ⟨0, rfl, ⟨Nat.zero_le _⟩, rfl⟩
  case round =>
    obtain ⟨j, rfl, HJ, rfl⟩ := hrel
    have hjl := HJ.out
    have hb := HB.out
    obtain ⟨K, hK⟩ : ∃ K, K = i + 1 + j := ⟨_, rfl⟩
    by_cases hj : j < dn.length
    · obtain ⟨x, hx⟩ : ∃ x, dn[j]? = some x := ⟨_, List.getElem?_eq_getElem hj⟩
      have hx2 := HA.out.dg j x hx
      rw [← hK] at hx2
      obtain ⟨ad2, e2, hcell⟩ := byteAt HR.out hx2
      obtain rfl := Option.some.inj e2
      rw [Addr.add_lit] at hcell
      have hne : x ≠ 13 := fun e => HA.out.no (by rw [← e]; exact List.mem_of_getElem? hx)
      have hlt : (K : Int) < (t.length : Int) := by omega
      have h0 : (0 : Int) ≤ (K : Int) := by omega
      have hw2 : wrap64 ((K : Int) + 1) = ((K + 1 : Nat) : Int) := w64a _ _ (by omega) (by omega) (by omega)
      have HM : Aside0 (K < t.length ∧ j + 1 ≤ dn.length) := ⟨by omega⟩
      have HKE := Aside0.mk hK
      rw [← hK]
      clear hjl hb hK hx hx2 hj hwi hi1
      go_wp2_with fail
      refine ⟨⟨j + 1, ?_, ⟨HM.out.2⟩, by trivial⟩, meas _ _ _ h0 (by have := HM.out.1; omega) (by first | rfl | omega)⟩
      have := HKE.out
      first
        | (congr 1; omega)
        | (rw [hw2]; congr 1; omega)
    · have hje : j = dn.length := by omega
      have hKk : K = k := by omega
      have HKE := Aside0.mk (And.intro hK hKk)
      rw [← hK]
      have HV := Aside0.mk (value.calls (some ⟨g, o + (i + 1), none⟩) (c - (i + 1)) dn n w (by have := C_mid HR.out (fun p x hx => HA.out.dg p x hx) (by omega); rw [Addr.add_lit] at this; exact this) (by omega) (.inr ⟨HN.out, by rintro rfl; simp at hb⟩))
      have h0 : (0 : Int) ≤ (K : Int) := by omega
      obtain ⟨m, hm⟩ : ∃ m, m = t.length - K := ⟨_, rfl⟩
      have hKle : (K : Int) ≤ (t.length : Int) := by omega
      have hKc : (K : Int) ≤ (c : Int) := by omega
      have hiK : ((i + 1 : Nat) : Int) ≤ (K : Int) := by omega
      have hi0 : (0 : Int) ≤ ((i + 1 : Nat) : Int) := by omega
      have hne1 : ¬ (K : Int) = ((i + 1 : Nat) : Int) := by omega
      have hsub : K - (i + 1) = dn.length := by omega
      have hw1 : wrap64 ((t.length : Int) - (K : Int)) = (m : Int) := w64s _ _ _ (by omega) (by omega) (by omega)
      have hn9 : n ≤ 9999 := hb.2.2.1
      have HW1 := Aside0.mk hw1
      have HM := Aside0.mk (And.intro hm (And.intro hKk hn9))
      have hstop : (K : Int) = (t.length : Int) ∨ (K : Int) < (t.length : Int) ∧ w.cell? ⟨g, o + K, none⟩ = some (.int .u8 13) := by
        rcases HA.out.stop with h | h
        · exact .inl (by omega)
        · rw [← hKk] at h
          obtain ⟨ad2, e2, hcell⟩ := byteAt HR.out h
          obtain rfl := Option.some.inj e2
          rw [Addr.add_lit] at hcell
          have := (List.getElem?_eq_some_iff.1 h).1
          exact .inr ⟨by omega, hcell⟩
      clear hjl hb hK hje hKk hj hi1 hm hw1 hn9 HJ
      rcases hstop with hs | ⟨hs, hcell⟩
      · have hs' : ¬ (K : Int) < (t.length : Int) := by omega
        clear hs
        go_upto_region 9 with (go_at_call 38; refine HV.out.mono ?_; rintro e w2 ⟨rfl, hb2⟩; have HB2 := Aside0.mk hb2; clear hb2)
        have hn9 := HM.out.2.2
        have hmk := make_u8 n (by omega) w2
        have hcv : (convert 26 9 (.slice (some ⟨w2.heap.size, 0, none⟩) n n)).run Try.prog (w2.alloc (.cells (madeCells #[.int .u8 0] n) 5)) = .ok (.string (strOfNums (zeros n))) (w2.alloc (.cells (madeCells #[.int .u8 0] n) 5)) := by
          have := StrR.str_run (c := n) (zeros_C w2 n (by omega))
          rw [zeros_len] at this
          exact this
        have hzs : (strOfNums (zeros n)).size = n := by rw [strOfNums_size, zeros_len]
        have HTS := Aside0.mk (tail_str n)
        obtain ⟨Z, hZ⟩ : ∃ Z, Z = strOfNums (zeros n) := ⟨_, rfl⟩
        rw [← hZ] at hcv hzs HTS
        have hw1 := HW1.out
        have hn0 : ¬ (n : Int) < 0 := by omega
        clear hZ
        by_cases hmn : m < n + 4
        · have hm1 : (t.length : Int) - (K : Int) < 2 + (n : Int) + 2 := by have := HM.out.1; omega
          have hm2 : (t.length : Int) - (K : Int) ≤ 2 + (n : Int) + 2 := by omega
          have hm3 : (0 : Int) ≤ (t.length : Int) - (K : Int) := by omega
          have HMN := Aside0.mk hmn
          clear hmn hw1
          go_wp2_with fail
          go_ret2
          have h9 := HM.out
          refine ⟨?_, (below_next HB2.out (below_alloc (Below.refl _ _) _))⟩
          rw [HRV.out, if_pos (by have := HMN.out; omega), ← h9.2.1, ← h9.1, ← StrR.str_drop, ← HTS.out]
          have e9 : ((t.length : Int) - (K : Int)).toNat = m := by omega
          have e10 : (({ data := #[13, 10] } : ByteArray) ++ Z ++ { data := #[13, 10] }).size = 2 + n + 2 := by rw [ByteArray.size_append', ByteArray.size_append', hzs]; rfl
          try rw [e9]
          rw [e10]
          rfl
        · have hm1 : ¬ (t.length : Int) - (K : Int) < 2 + (n : Int) + 2 := by have := HM.out.1; omega
          have hq1 : ¬ (2 + n > 9223372036854775807) := by omega
          have hub : (t.length : Int) ≤ 100000000 := by have := HB.out; omega
          have hm3 : (0 : Int) ≤ (t.length : Int) - (K : Int) := by omega
          have hq2 : ¬ (2 + n + 2 > 9223372036854775807) := by omega
          have HMN := Aside0.mk hmn
          clear hmn hw1
          go_wp2_with fail
          go_ret2
          have h9 := HM.out
          refine ⟨?_, (below_next HB2.out (below_alloc (Below.refl _ _) _))⟩
          rw [HRV.out, if_neg (by have := HMN.out; omega), ← h9.2.1]
          exact congrArg (fun z => Ending.returned (Value.tuple #[.string ⟨#[]⟩, .int .i64 z])) (show (K : Int) + (2 + (n : Int) + 2) = ((K + (n + 4) : Nat) : Int) by omega)
      · go_upto_region 9 with (go_at_call 38; refine HV.out.mono ?_; rintro e w2 ⟨rfl, hb2⟩; have HB2 := Aside0.mk hb2; clear hb2)
        have hn9 := HM.out.2.2
        have hmk := make_u8 n (by omega) w2
        have hcv : (convert 26 9 (.slice (some ⟨w2.heap.size, 0, none⟩) n n)).run Try.prog (w2.alloc (.cells (madeCells #[.int .u8 0] n) 5)) = .ok (.string (strOfNums (zeros n))) (w2.alloc (.cells (madeCells #[.int .u8 0] n) 5)) := by
          have := StrR.str_run (c := n) (zeros_C w2 n (by omega))
          rw [zeros_len] at this
          exact this
        have hzs : (strOfNums (zeros n)).size = n := by rw [strOfNums_size, zeros_len]
        have HTS := Aside0.mk (tail_str n)
        obtain ⟨Z, hZ⟩ : ∃ Z, Z = strOfNums (zeros n) := ⟨_, rfl⟩
        rw [← hZ] at hcv hzs HTS
        have hw1 := HW1.out
        have hn0 : ¬ (n : Int) < 0 := by omega
        clear hZ
        by_cases hmn : m < n + 4
        · have hm1 : (t.length : Int) - (K : Int) < 2 + (n : Int) + 2 := by have := HM.out.1; omega
          have hm2 : (t.length : Int) - (K : Int) ≤ 2 + (n : Int) + 2 := by omega
          have hm3 : (0 : Int) ≤ (t.length : Int) - (K : Int) := by omega
          have HMN := Aside0.mk hmn
          clear hmn hw1
          go_wp2_with fail
          go_ret2
          have h9 := HM.out
          refine ⟨?_, (below_next HB2.out (below_alloc (Below.refl _ _) _))⟩
          rw [HRV.out, if_pos (by have := HMN.out; omega), ← h9.2.1, ← h9.1, ← StrR.str_drop, ← HTS.out]
          have e9 : ((t.length : Int) - (K : Int)).toNat = m := by omega
          have e10 : (({ data := #[13, 10] } : ByteArray) ++ Z ++ { data := #[13, 10] }).size = 2 + n + 2 := by rw [ByteArray.size_append', ByteArray.size_append', hzs]; rfl
          try rw [e9]
          rw [e10]
          rfl
        · have hm1 : ¬ (t.length : Int) - (K : Int) < 2 + (n : Int) + 2 := by have := HM.out.1; omega
          have hq1 : ¬ (2 + n > 9223372036854775807) := by omega
          have hub : (t.length : Int) ≤ 100000000 := by have := HB.out; omega
          have hm3 : (0 : Int) ≤ (t.length : Int) - (K : Int) := by omega
          have hq2 : ¬ (2 + n + 2 > 9223372036854775807) := by omega
          have HMN := Aside0.mk hmn
          clear hmn hw1
          go_wp2_with fail
          go_ret2
          have h9 := HM.out
          refine ⟨?_, (below_next HB2.out (below_alloc (Below.refl _ _) _))⟩
          rw [HRV.out, if_neg (by have := HMN.out; omega), ← h9.2.1]
          exact congrArg (fun z => Ending.returned (Value.tuple #[.string ⟨#[]⟩, .int .i64 z])) (show (K : Int) + (2 + (n : Int) + 2) = ((K + (n + 4) : Nat) : Int) by omega)
end Go.Proofs.Ytfdkcnbkoagmiaa.FinA
end

section
namespace Go.Proofs.Ytfdkcnbkoagmiaa.FinP
open Go Go.RowKit Go.Proofs.YtfdkcnbkoagmiaaW.PrintWords Go.Proofs.Ytfdkcnbkoagmiaa.RowU Go.Proofs.Ytfdkcnbkoagmiaa.ApnG Go.Proofs.Ytfdkcnbkoagmiaa.LivS Go.Proofs.Ytfdkcnbkoagmiaa.LivT Go.Proofs.Ytfdkcnbkoagmiaa.LivF Go.Proofs.Ytfdkcnbkoagmiaa.FinV Go.Proofs.Ytfdkcnbkoagmiaa.FinA
set_option linter.unusedVariables false
set_option maxRecDepth 100000
theorem At.of {t pre dn u : List Int} {c : Int} (e : t = pre ++ c :: (dn ++ u)) (hn : (13 : Int) ∉ dn) (hu : u = [] ∨ ∃ r, u = 13 :: r) : At t pre.length dn (pre.length + 1 + dn.length) ∧ t.length - (pre.length + 1 + dn.length) = u.length := by
  have hl : t.length = pre.length + 1 + dn.length + u.length := by rw [e]; simp only [List.length_append, List.length_cons]; omega
  have hget : ∀ j, t[pre.length + 1 + j]? = (dn ++ u)[j]? := fun j => by
    rw [e, List.getElem?_append_right (by omega), show pre.length + 1 + j - pre.length = j + 1 by omega, List.getElem?_cons_succ]
  refine ⟨⟨by omega, rfl, by omega, fun j x hx => ?_, hn, ?_⟩, by omega⟩
  · rw [hget, List.getElem?_append_left (List.getElem?_eq_some_iff.1 hx).1]
    exact hx
  · rcases hu with rfl | ⟨r, rfl⟩
    · simp only [List.length_nil] at hl
      exact .inl (by omega)
    · refine .inr ?_
      rw [hget, List.getElem?_append_right (Nat.le_refl _), Nat.sub_self]
      rfl
theorem no13 {l : List Int} (h : digs l) : (13 : Int) ∉ l := fun hm => by have := h 13 hm; omega
theorem vl_no {l : List Int} {v : Int} (h : Vl l v) : (13 : Int) ∉ l := by
  rcases h with ⟨rfl, _⟩ | ⟨h, _⟩
  · decide
  · exact no13 h.d
theorem arg_tl {pre tl r : List Int} (g o c : Nat) (t : List Int) (w : World) (hr : (Kd.int .u8).C w (some ⟨g, o, none⟩) t.length t) (hc : t.length ≤ c) (ht : t.length ≤ 100000000) (e : t = pre ++ tl) (hT : Tl tl r) :
    Calls Try.prog 40 #[.slice (some ⟨g, o, none⟩) t.length c, .int .i64 pre.length] w fun e w' => e = .returned (.tuple #[.string (strOfNums r), .int .i64 0]) ∧ Below w.heap.size w w' := by
  cases hT with
  | none =>
    obtain rfl : t = pre := by rw [e, List.append_nil]
    exact argument_none _ c t w ht
  | sign => exact argument_sign _ c t w hr hc ht pre.length (by rw [e]; simp)
  | some dn u n h ne hu h13 =>
    have hx : u = [] ∨ ∃ r, u = 13 :: r := by
      cases u with
      | nil => exact .inl rfl
      | cons c r => exact .inr ⟨r, by rw [h13 c r rfl]⟩
    obtain ⟨hA, hl⟩ := At.of e (no13 h.d) hx
    have := argument_some g o c t w hr hc ht pre.length dn _ n hA h ne
    rw [hl, if_pos hu] at this
    exact this
theorem arg_full {pre rest : List Int} {x : List Int × List Int} (g o c : Nat) (t : List Int) (w : World) (hr : (Kd.int .u8).C w (some ⟨g, o, none⟩) t.length t) (hc : t.length ≤ c) (ht : t.length ≤ 100000000) (e : t = pre ++ (argB x ++ rest)) (hx : ArgOk x) :
    Calls Try.prog 40 #[.slice (some ⟨g, o, none⟩) t.length c, .int .i64 pre.length] w fun e w' => e = .returned (.tuple #[.string ⟨#[]⟩, .int .i64 ((pre.length + (argB x).length : Nat) : Int)]) ∧ Below w.heap.size w w' := by
  have e2 : t = pre ++ 36 :: (x.1 ++ 13 :: 10 :: (x.2 ++ [13, 10] ++ rest)) := by rw [e]; simp [argB]
  obtain ⟨hA, hl⟩ := At.of e2 (no13 hx.n.d) (.inr ⟨_, rfl⟩)
  have := argument_some g o c t w hr hc ht pre.length x.1 _ x.2.length hA hx.n hx.ne
  have hb : (argB x).length = x.1.length + x.2.length + 5 := by simp only [argB, List.length_cons, List.length_append, List.length_nil]; omega
  have hu : (13 :: 10 :: (x.2 ++ [13, 10] ++ rest)).length = x.2.length + 4 + rest.length := by simp only [List.length_cons, List.length_append, List.length_nil]; omega
  rw [hl, hu, if_neg (by omega)] at this
  rw [show pre.length + (argB x).length = pre.length + 1 + x.1.length + (x.2.length + 4) by omega]
  exact this
def preB (ds : List Int) (l : List (List Int × List Int)) (j : Nat) : List Int := headB ds (l.take j)
theorem pre_full {ds tl : List Int} {l : List (List Int × List Int)} {j : Nat} {x : List Int × List Int} (hx : l[j]? = some x) : headB ds l ++ tl = preB ds l j ++ (argB x ++ (argsB (l.drop (j + 1)) ++ tl)) ∧ (preB ds l (j + 1)).length = (preB ds l j).length + (argB x).length := by
  obtain ⟨hj, rfl⟩ := List.getElem?_eq_some_iff.1 hx
  have e : l = l.take j ++ l[j] :: l.drop (j + 1) := by rw [← List.drop_eq_getElem_cons hj, List.take_append_drop]
  constructor
  · have e3 : argsB l = argsB (l.take j) ++ (argB l[j] ++ argsB (l.drop (j + 1))) := by
      conv => lhs; rw [e]
      simp only [argsB, List.flatMap_append, List.flatMap_cons]
    unfold preB headB
    rw [e3]
    simp only [List.cons_append, List.append_assoc]
  · unfold preB
    rw [List.take_add_one, List.getElem?_eq_getElem hj, Option.toList_some, headB_append, List.length_append]
theorem pre_end (ds : List Int) (l : List (List Int × List Int)) : preB ds l l.length = headB ds l := by unfold preB; rw [List.take_length]
theorem pre_zero (ds : List Int) (l : List (List Int × List Int)) : (preB ds l 0).length = ds.length + 3 := by simp [preB, headB, argsB]
end Go.Proofs.Ytfdkcnbkoagmiaa.FinP
end

section
namespace Go.Proofs.Ytfdkcnbkoagmiaa.FinW
open Go Go.RowKit Go.Proofs.YtfdkcnbkoagmiaaW.PrintWords Go.Proofs.YtfdkcnbkoagmiaaW.PrintLast Go.Proofs.YtfdkcnbkoagmiaaW.PrintMore Go.Proofs.Ytfdkcnbkoagmiaa.PA Go.Proofs.Ytfdkcnbkoagmiaa.RowU Go.Proofs.Ytfdkcnbkoagmiaa.CopL Go.Proofs.Ytfdkcnbkoagmiaa.ApnG Go.Proofs.Ytfdkcnbkoagmiaa.LivS Go.Proofs.Ytfdkcnbkoagmiaa.LivT Go.Proofs.Ytfdkcnbkoagmiaa.LivF Go.Proofs.Ytfdkcnbkoagmiaa.FinV Go.Proofs.Ytfdkcnbkoagmiaa.FinA Go.Proofs.Ytfdkcnbkoagmiaa.FinP
set_option linter.unusedVariables false
set_option maxRecDepth 100000
theorem apd_const (w : World) (l : List Int) (n : Nat) (hn : l.length = n) (hl : l.length ≤ 1000000) : Apd w.heap.size w (w.alloc (.cells (l.map (Value.int .u8)).toArray 5 (l.length, l.length + 1))) (.slice (some ⟨w.heap.size, 0, none⟩) n n) l := by
  subst hn
  have h := RowF.const w w.heap.size rfl l hl
  exact ⟨_, _, rfl, Nat.le_refl _, h.C, fun ad e => by obtain rfl := Option.some.inj e; exact ⟨Nat.le_refl _, h.lt, rfl, rfl⟩, below_alloc (Below.refl _ _) _⟩
theorem apd_next {w w2 w' : World} {v : Value} {l : List Int} (hb : Below w.heap.size w w2) (h : Apd w2.heap.size w2 w' v l) : Apd w.heap.size w w' v l := by
  obtain ⟨A, c, h1, h2, h3, h4, h5⟩ := h
  have := hb.size
  exact ⟨A, c, h1, h2, h3, fun ad e => ⟨by have := (h4 ad e).1; omega, (h4 ad e).2⟩, below_next hb h5⟩
abbrev Fin (g o c : Nat) (t r : List Int) (n : Int) (w : World) : Prop := Calls Try.prog 28 #[.slice (some ⟨g, o, none⟩) t.length c] w fun e w' => ∃ v, e = .returned (.tuple #[v, .int .i64 n]) ∧ Apd w.heap.size w w' v r
set_option maxHeartbeats 8000000 in
theorem fin_a0 (g o c : Nat) (w : World) : Fin g o c [42] [48, 13, 10] 0 w := by
  have hc1 : (convert 26 26 (.slice (some ⟨w.heap.size, 0, none⟩) 3 3)).run Try.prog (w.alloc (.cells #[.int .u8 48, .int .u8 13, .int .u8 10] 5)) = .ok (.slice (some ⟨w.heap.size, 0, none⟩) 3 3) (w.alloc (.cells #[.int .u8 48, .int .u8 13, .int .u8 10] 5 (3, 4))) := ApnF.conv_at (w := w) w.heap.size rfl _ 3 3
  have HP := Aside0.mk (apd_const w [48, 13, 10] 3 rfl (by decide))
  show Calls _ _ #[.slice (some ⟨g, o, none⟩) 1 c] _ _
  go_enter Try.func28, Try.ntmps28
  go_wp2_with fail
  go_loopw [4] (fun kk wr => kk = .int .i64 1 ∧ w = wr) (fun _ _ => 0)
  case atStart => exact ⟨rfl, rfl⟩
  case round =>
    obtain ⟨rfl, rfl⟩ := hrel
    go_wp2_with fail
    go_ret2
    exact ⟨_, rfl, HP.out⟩
set_option maxHeartbeats 8000000 in
theorem fin_a1 (g o c : Nat) (w : World) (hr : (Kd.int .u8).C w (some ⟨g, o, none⟩) 2 [42, 45]) (hc : 2 ≤ c) : Fin g o c [42, 45] [49, 13, 10] 0 w := by
  have hc1 : (convert 26 26 (.slice (some ⟨w.heap.size, 0, none⟩) 3 3)).run Try.prog (w.alloc (.cells #[.int .u8 49, .int .u8 13, .int .u8 10] 5)) = .ok (.slice (some ⟨w.heap.size, 0, none⟩) 3 3) (w.alloc (.cells #[.int .u8 49, .int .u8 13, .int .u8 10] 5 (3, 4))) := ApnF.conv_at (w := w) w.heap.size rfl _ 3 3
  have HP := Aside0.mk (apd_const w [49, 13, 10] 3 rfl (by decide))
  obtain ⟨ad2, e2, hcell⟩ := byteAt (l := [42, 45]) (i := 1) (x := 45) hr rfl
  obtain rfl := Option.some.inj e2
  rw [Addr.add_lit] at hcell
  clear hr
  show Calls _ _ #[.slice (some ⟨g, o, none⟩) 2 c] _ _
  go_enter Try.func28, Try.ntmps28
  go_wp2_with fail
  go_loopw [4] (fun kk wr => (kk = .int .i64 1 ∨ kk = .int .i64 2) ∧ w = wr) (fun kk _ => 2 - (intOf kk).toNat)
  case atStart => exact ⟨.inl rfl, rfl⟩
  case round =>
    obtain ⟨rfl | rfl, rfl⟩ := hrel
    · go_wp2_with fail
      exact ⟨⟨.inr rfl, by trivial⟩, by decide⟩
    · go_wp2_with fail
      go_ret2
      exact ⟨_, rfl, HP.out⟩
set_option maxHeartbeats 8000000 in
theorem fin_a2 (g o c : Nat) (t : List Int) (w : World) (hr : (Kd.int .u8).C w (some ⟨g, o, none⟩) t.length t) (hc : t.length ≤ c) (ht : t.length ≤ 100000000) (dn : List Int) (k N : Nat) (hA : At t 0 dn k) (hv : Vl dn N) (hN : N ≤ 128) (hk : t.length = k) : Fin g o c t (13 :: 10 :: LivT.empties N) N w := by
  have HA := Aside0.mk hA
  have HR := Aside0.mk hr
  have HB : Aside0 (k = 1 + dn.length ∧ k ≤ t.length ∧ t.length ≤ 100000000 ∧ t.length ≤ c) := ⟨by have := hA.hk; have := hA.le; omega⟩
  have HV := Aside0.mk hv
  have HX := Aside0.mk (And.intro hk (And.intro hN ht))
  clear hr hA hv hk ht hN
  go_enter Try.func28, Try.ntmps28
  go_wp2_with fail
  go_loopw [4] (fun kk wr => ∃ j : Nat, kk = .int .i64 ((1 + j : Nat) : Int) ∧ Aside0 (j ≤ dn.length) ∧ w = wr) (fun kk _ => t.length - (intOf kk).toNat)
  case atStart => exact ⟨0, rfl, ⟨Nat.zero_le _⟩, rfl⟩
  case round =>
    obtain ⟨j, rfl, HJ, rfl⟩ := hrel
    have hjl := HJ.out
    have hb := HB.out
    obtain ⟨K, hK⟩ : ∃ K, K = 1 + j := ⟨_, rfl⟩
    by_cases hj : j < dn.length
    · obtain ⟨x, hx⟩ : ∃ x, dn[j]? = some x := ⟨_, List.getElem?_eq_getElem hj⟩
      have hx2 := HA.out.dg j x hx
      rw [Nat.zero_add, ← hK] at hx2
      obtain ⟨ad2, e2, hcell⟩ := byteAt HR.out hx2
      obtain rfl := Option.some.inj e2
      rw [Addr.add_lit] at hcell
      have hne : x ≠ 13 := fun e => HA.out.no (by rw [← e]; exact List.mem_of_getElem? hx)
      have hlt : (K : Int) < (t.length : Int) := by omega
      have h0 : (0 : Int) ≤ (K : Int) := by omega
      have hw2 : wrap64 ((K : Int) + 1) = ((K + 1 : Nat) : Int) := w64a _ _ (by omega) (by omega) (by omega)
      have HM : Aside0 (K < t.length ∧ j + 1 ≤ dn.length) := ⟨by omega⟩
      have HKE := Aside0.mk hK
      rw [← hK]
      clear hjl hb hK hx hx2 hj
      go_wp2_with fail
      refine ⟨⟨j + 1, ?_, ⟨HM.out.2⟩, by trivial⟩, meas _ _ _ h0 (by have := HM.out.1; omega) (by first | rfl | omega)⟩
      have := HKE.out
      first
        | (congr 1; omega)
        | (rw [hw2]; congr 1; omega)
    · have hje : j = dn.length := by omega
      have hKk : K = k := by omega
      have HKE := Aside0.mk (And.intro hK hKk)
      rw [← hK]
      have h0 : (0 : Int) ≤ (K : Int) := by omega
      have hHX := HX.out
      obtain rfl : K = t.length := by omega
      have hdn : dn ≠ [] := by rcases HV.out with ⟨rfl, _⟩ | ⟨_, h⟩ <;> first | exact h | decide
      have hdl : 1 ≤ dn.length := by
        cases dn with
        | nil => exact absurd rfl hdn
        | cons x r => simp
      have HVC := Aside0.mk (value.calls (some ⟨g, o + 1, none⟩) (c - 1) dn (N : Int) w (by have := C_mid (j := 1) HR.out (fun p x hx => by have := HA.out.dg p x hx; rwa [Nat.zero_add] at this) (by omega); rw [Addr.add_lit] at this; exact this) (by omega) HV.out)
      have hne1 : ¬ (t.length : Int) = 1 := by omega
      have hKc : (t.length : Int) ≤ (c : Int) := by omega
      have hK1 : (1 : Int) ≤ (t.length : Int) := by omega
      have hsub : t.length - 1 = dn.length := by omega
      have hN0 : ¬ (N : Int) < 0 := by omega
      have HLN : Aside0 (N ≤ 1000 ∧ 2 + (LivT.empties N).length ≤ 1000000000) := ⟨by rw [empties_len]; omega⟩
      have hlast : ∃ y, t[t.length - 1]? = some y ∧ y ≠ 45 := by
        obtain ⟨y, hy⟩ : ∃ y, dn[dn.length - 1]? = some y := ⟨_, List.getElem?_eq_getElem (by omega)⟩
        have h2 := HA.out.dg _ y hy
        refine ⟨y, by rw [show t.length - 1 = 0 + 1 + (dn.length - 1) by omega]; exact h2, ?_⟩
        rcases HV.out with ⟨rfl, _⟩ | ⟨h, _⟩
        · obtain rfl : (49 : Int) = y := by simpa using hy
          decide
        · have := h.d y (List.mem_of_getElem? hy)
          omega
      obtain ⟨y, hy, hy45⟩ := hlast
      obtain ⟨ad2, e2, hcell⟩ := byteAt HR.out hy
      obtain rfl := Option.some.inj e2
      rw [Addr.add_lit] at hcell
      have hw1 : wrap64 ((t.length : Int) - 1) = ((t.length - 1 : Nat) : Int) := w64s _ _ _ (by omega) (by omega) (by omega)
      have hw0 : (0 : Int) ≤ ((t.length - 1 : Nat) : Int) := by omega
      have hwl : ((t.length - 1 : Nat) : Int) < (t.length : Int) := by omega
      have hlt' : ¬ (t.length : Int) < (t.length : Int) := by omega
      rw [hsub] at hcell hw1 hw0 hwl
      clear hjl hb hK hje hKk hj HJ hHX hdn hdl
      go_upto_region 10 with (go_at_call 38; refine HVC.out.mono ?_; rintro e w2 ⟨rfl, hb2⟩; have HB2 := Aside0.mk hb2; clear hb2)
      have hc1 : (convert 26 26 (.slice (some ⟨w2.heap.size, 0, none⟩) 2 2)).run Try.prog (w2.alloc (.cells #[.int .u8 13, .int .u8 10] 5)) = .ok (.slice (some ⟨w2.heap.size, 0, none⟩) 2 2) (w2.alloc (.cells #[.int .u8 13, .int .u8 10] 5 (2, 3))) := ApnF.conv_at (w := w2) w2.heap.size rfl _ 2 2
      have HRF : Aside0 (RowF (w2.alloc (.cells #[.int .u8 13, .int .u8 10] 5 (2, 3))) w2.heap.size 2 [13, 10]) := ⟨RowF.const w2 w2.heap.size rfl [13, 10] (by decide)⟩
      go_wp2_with (first | (go_at_call 39; refine (empties.calls N HLN.out.1 _).mono ?_; rintro e w3 ⟨vb, rfl, Ab, cb, rfl, k1, k2, k3, k4⟩; have K2 := Aside0.mk k2; have K4 := Aside0.mk k4; clear k1 k2 k3 k4) | ((with_reducible refine gate_builtin (b := .append) (xs := #[.tmp 48, .tmp 50]) rfl ?_); at_builtin; refine wpList_append_rowF rfl (.tmp 48) (.tmp 50) rfl w2.heap.size w2.heap.size 2 (Nat.le_refl _) [13, 10] rfl (HRF.out.below K4.out) Ab cb (LivT.empties N) rfl K2.out HLN.out.2 ?_; intro v4 w4 hap; have HAP := Aside0.mk hap; clear hap))
      go_ret2
      obtain ⟨Aa, ca, q1, q2, q3, q4, q5⟩ := HAP.out
      exact ⟨_, rfl, apd_next HB2.out ⟨Aa, ca, q1, q2, q3, q4, (below_next (below_alloc (Below.refl w2.heap.size w2) _) K4.out).trans q5⟩⟩
set_option maxHeartbeats 8000000 in
theorem fin_b (g o c : Nat) (t : List Int) (w : World) (hr : (Kd.int .u8).C w (some ⟨g, o, none⟩) t.length t) (hc : t.length ≤ c) (ht : t.length ≤ 100000000) (dn : List Int) (k N : Nat) (hA : At t 0 dn k) (hv : Vl dn N) (hN : N ≤ 128) (hk : t.length = k + 1) : Fin g o c t (10 :: LivT.empties N) N w := by
  have HA := Aside0.mk hA
  have HR := Aside0.mk hr
  have HB : Aside0 (k = 1 + dn.length ∧ k ≤ t.length ∧ t.length ≤ 100000000 ∧ t.length ≤ c) := ⟨by have := hA.hk; have := hA.le; omega⟩
  have HV := Aside0.mk hv
  have HX := Aside0.mk (And.intro hk (And.intro hN ht))
  clear hr hA hv hk ht hN
  go_enter Try.func28, Try.ntmps28
  go_wp2_with fail
  go_loopw [4] (fun kk wr => ∃ j : Nat, kk = .int .i64 ((1 + j : Nat) : Int) ∧ Aside0 (j ≤ dn.length) ∧ w = wr) (fun kk _ => t.length - (intOf kk).toNat)
  case atStart => exact ⟨0, rfl, ⟨Nat.zero_le _⟩, rfl⟩
  case round =>
    obtain ⟨j, rfl, HJ, rfl⟩ := hrel
    have hjl := HJ.out
    have hb := HB.out
    obtain ⟨K, hK⟩ : ∃ K, K = 1 + j := ⟨_, rfl⟩
    by_cases hj : j < dn.length
    · obtain ⟨x, hx⟩ : ∃ x, dn[j]? = some x := ⟨_, List.getElem?_eq_getElem hj⟩
      have hx2 := HA.out.dg j x hx
      rw [Nat.zero_add, ← hK] at hx2
      obtain ⟨ad2, e2, hcell⟩ := byteAt HR.out hx2
      obtain rfl := Option.some.inj e2
      rw [Addr.add_lit] at hcell
      have hne : x ≠ 13 := fun e => HA.out.no (by rw [← e]; exact List.mem_of_getElem? hx)
      have hlt : (K : Int) < (t.length : Int) := by omega
      have h0 : (0 : Int) ≤ (K : Int) := by omega
      have hw2 : wrap64 ((K : Int) + 1) = ((K + 1 : Nat) : Int) := w64a _ _ (by omega) (by omega) (by omega)
      have HM : Aside0 (K < t.length ∧ j + 1 ≤ dn.length) := ⟨by omega⟩
      have HKE := Aside0.mk hK
      rw [← hK]
      clear hjl hb hK hx hx2 hj
      go_wp2_with fail
      refine ⟨⟨j + 1, ?_, ⟨HM.out.2⟩, by trivial⟩, meas _ _ _ h0 (by have := HM.out.1; omega) (by first | rfl | omega)⟩
      have := HKE.out
      first
        | (congr 1; omega)
        | (rw [hw2]; congr 1; omega)
    · have hje : j = dn.length := by omega
      have hKk : K = k := by omega
      have HKE := Aside0.mk (And.intro hK hKk)
      rw [← hK]
      have h0 : (0 : Int) ≤ (K : Int) := by omega
      have hHX := HX.out
      have hdummy : True := trivial
      have hdn : dn ≠ [] := by rcases HV.out with ⟨rfl, _⟩ | ⟨_, h⟩ <;> first | exact h | decide
      have hdl : 1 ≤ dn.length := by
        cases dn with
        | nil => exact absurd rfl hdn
        | cons x r => simp
      have HVC := Aside0.mk (value.calls (some ⟨g, o + 1, none⟩) (c - 1) dn (N : Int) w (by have := C_mid (j := 1) HR.out (fun p x hx => by have := HA.out.dg p x hx; rwa [Nat.zero_add] at this) (by omega); rw [Addr.add_lit] at this; exact this) (by omega) HV.out)
      have hne1 : ¬ (K : Int) = 1 := by omega
      have hKc : (K : Int) ≤ (c : Int) := by omega
      have hK1 : (1 : Int) ≤ (K : Int) := by omega
      have hsub : K - 1 = dn.length := by omega
      have hN0 : ¬ (N : Int) < 0 := by omega
      have HLN : Aside0 (N ≤ 1000 ∧ 1 + (LivT.empties N).length ≤ 1000000000) := ⟨by rw [empties_len]; omega⟩
      have hlt' : (K : Int) < (t.length : Int) := by omega
      have hnel : ¬ (K : Int) = (t.length : Int) := by omega
      have hcell : w.cell? ⟨g, o + K, none⟩ = some (.int .u8 13) := by
        rcases HA.out.stop with h | h
        · omega
        · rw [← hKk] at h
          obtain ⟨ad2, e2, hcell⟩ := byteAt HR.out h
          obtain rfl := Option.some.inj e2
          rw [Addr.add_lit] at hcell
          exact hcell
      have hK2 : (K : Int) + 1 = (t.length : Int) := by omega
      have hub : (t.length : Int) ≤ 100000000 := by omega
      clear hjl hb hK hje hKk hj HJ hHX hdn hdl
      go_upto_region 14 with (go_at_call 38; refine HVC.out.mono ?_; rintro e w2 ⟨rfl, hb2⟩; have HB2 := Aside0.mk hb2; clear hb2)
      have hc1 : (convert 26 26 (.slice (some ⟨w2.heap.size, 0, none⟩) 1 1)).run Try.prog (w2.alloc (.cells #[.int .u8 10] 5)) = .ok (.slice (some ⟨w2.heap.size, 0, none⟩) 1 1) (w2.alloc (.cells #[.int .u8 10] 5 (1, 2))) := ApnF.conv_at (w := w2) w2.heap.size rfl _ 1 1
      have HRF : Aside0 (RowF (w2.alloc (.cells #[.int .u8 10] 5 (1, 2))) w2.heap.size 1 [10]) := ⟨RowF.const w2 w2.heap.size rfl [10] (by decide)⟩
      go_wp2_with (first | (go_at_call 39; refine (empties.calls N HLN.out.1 _).mono ?_; rintro e w3 ⟨vb, rfl, Ab, cb, rfl, k1, k2, k3, k4⟩; have K2 := Aside0.mk k2; have K4 := Aside0.mk k4; clear k1 k2 k3 k4) | ((with_reducible refine gate_builtin (b := .append) (xs := #[.tmp 65, .tmp 67]) rfl ?_); at_builtin; refine wpList_append_rowF rfl (.tmp 65) (.tmp 67) rfl w2.heap.size w2.heap.size 1 (Nat.le_refl _) [10] rfl (HRF.out.below K4.out) Ab cb (LivT.empties N) rfl K2.out HLN.out.2 ?_; intro v4 w4 hap; have HAP := Aside0.mk hap; clear hap))
      go_ret2
      obtain ⟨Aa, ca, q1, q2, q3, q4, q5⟩ := HAP.out
      exact ⟨_, rfl, apd_next HB2.out ⟨Aa, ca, q1, q2, q3, q4, (below_next (below_alloc (Below.refl w2.heap.size w2) _) K4.out).trans q5⟩⟩
theorem tl_in {tl r : List Int} (h : Tl tl r) : ∀ c ∈ r, 0 ≤ c ∧ c < 256 := by
  cases h with
  | none => intro c hc; simp [one] at hc; omega
  | sign => intro c hc; simp at hc; omega
  | some dn u n h ne hu h13 =>
    intro c hc
    have hc := List.mem_of_mem_drop hc
    simp [tail1, zeros] at hc
    omega
theorem tl_len {tl r : List Int} (h : Tl tl r) : r.length ≤ 20000 := by
  cases h with
  | none => decide
  | sign => decide
  | some dn u n h ne hu h13 =>
    rw [List.length_drop, tail1_len]
    have := (val_le4 h.d h.len dn.length).2
    rw [List.take_length, h.v] at this
    omega
set_option maxHeartbeats 8000000 in
theorem fin_c (g o c : Nat) (t : List Int) (w : World) (hr : (Kd.int .u8).C w (some ⟨g, o, none⟩) t.length t) (hc : t.length ≤ c) (ht : t.length ≤ 100000000) (dn tl r : List Int) (l : List (List Int × List Int)) (N : Nat) (he : t = headB dn l ++ tl) (hn : Nm dn N) (hne : dn ≠ []) (hN : N ≤ 128) (hl : l.length < N) (ok : ∀ x ∈ l, ArgOk x) (hT : Tl tl r) : Fin g o c t (r ++ LivT.empties (N - 1 - l.length)) N w := by
  obtain ⟨k, hk⟩ : ∃ k, k = 1 + dn.length := ⟨_, rfl⟩
  have hA : At t 0 dn k := by
    have := (At.of (pre := []) (t := t) (dn := dn) (c := 42) (u := 13 :: 10 :: (argsB l ++ tl)) (by rw [he]; simp [headB]) (no13 hn.d) (.inr ⟨_, rfl⟩)).1
    rw [hk]
    have e : ([] : List Int).length + 1 + dn.length = 1 + dn.length := by simp
    rw [e] at this
    exact this
  have hk1 : k + 1 < t.length := by
    rw [he]
    simp only [headB, List.length_append, List.length_cons]
    omega
  have HA := Aside0.mk hA
  have HR := Aside0.mk hr
  have HB : Aside0 (k = 1 + dn.length ∧ k ≤ t.length ∧ t.length ≤ 100000000 ∧ t.length ≤ c) := ⟨by have := hA.hk; have := hA.le; omega⟩
  have HX := Aside0.mk (And.intro hk1 (And.intro hN (And.intro hl ht)))
  have HE := Aside0.mk he
  have HT := Aside0.mk hT
  have HOK := Aside0.mk ok
  have HV : Aside0 (Vl dn (N : Int)) := ⟨.inr ⟨hn, hne⟩⟩
  clear hr hA hn hne hk ht hN hk1 he hT ok hl
  go_enter Try.func28, Try.ntmps28
  go_wp2_with fail
  go_loopw [4] (fun kk wr => ∃ j : Nat, kk = .int .i64 ((1 + j : Nat) : Int) ∧ Aside0 (j ≤ dn.length) ∧ w = wr) (fun kk _ => t.length - (intOf kk).toNat)
  case atStart => exact ⟨0, rfl, ⟨Nat.zero_le _⟩, rfl⟩
  case round =>
    obtain ⟨j, rfl, HJ, rfl⟩ := hrel
    have hjl := HJ.out
    have hb := HB.out
    obtain ⟨K, hK⟩ : ∃ K, K = 1 + j := ⟨_, rfl⟩
    by_cases hj : j < dn.length
    · obtain ⟨x, hx⟩ : ∃ x, dn[j]? = some x := ⟨_, List.getElem?_eq_getElem hj⟩
      have hx2 := HA.out.dg j x hx
      rw [Nat.zero_add, ← hK] at hx2
      obtain ⟨ad2, e2, hcell⟩ := byteAt HR.out hx2
      obtain rfl := Option.some.inj e2
      rw [Addr.add_lit] at hcell
      have hne : x ≠ 13 := fun e => HA.out.no (by rw [← e]; exact List.mem_of_getElem? hx)
      have hlt : (K : Int) < (t.length : Int) := by omega
      have h0 : (0 : Int) ≤ (K : Int) := by omega
      have hw2 : wrap64 ((K : Int) + 1) = ((K + 1 : Nat) : Int) := w64a _ _ (by omega) (by omega) (by omega)
      have HM : Aside0 (K < t.length ∧ j + 1 ≤ dn.length) := ⟨by omega⟩
      have HKE := Aside0.mk hK
      rw [← hK]
      clear hjl hb hK hx hx2 hj
      go_wp2_with fail
      refine ⟨⟨j + 1, ?_, ⟨HM.out.2⟩, by trivial⟩, meas _ _ _ h0 (by have := HM.out.1; omega) (by first | rfl | omega)⟩
      have := HKE.out
      first
        | (congr 1; omega)
        | (rw [hw2]; congr 1; omega)
    · have hje : j = dn.length := by omega
      have hKk : K = k := by omega
      have HKE := Aside0.mk (And.intro hK hKk)
      rw [← hK]
      have h0 : (0 : Int) ≤ (K : Int) := by omega
      have hHX := HX.out
      have hdn : dn ≠ [] := by rcases HV.out with ⟨rfl, _⟩ | ⟨_, h⟩ <;> first | exact h | decide
      have hdl : 1 ≤ dn.length := by
        cases dn with
        | nil => exact absurd rfl hdn
        | cons x r => simp
      have HVC := Aside0.mk (value.calls (some ⟨g, o + 1, none⟩) (c - 1) dn (N : Int) w (by have := C_mid (j := 1) HR.out (fun p x hx => by have := HA.out.dg p x hx; rwa [Nat.zero_add] at this) (by omega); rw [Addr.add_lit] at this; exact this) (by omega) HV.out)
      have hne1 : ¬ (K : Int) = 1 := by omega
      have hKc : (K : Int) ≤ (c : Int) := by omega
      have hK1 : (1 : Int) ≤ (K : Int) := by omega
      have hsub : K - 1 = dn.length := by omega
      have hN0 : ¬ (N : Int) < 0 := by omega
      have hlt' : (K : Int) < (t.length : Int) := by omega
      have hnel : ¬ (K : Int) = (t.length : Int) := by omega
      have hnel2 : ((K : Int) + 1 == (t.length : Int)) = false := beq_false_of_ne (by omega)
      have hub : (t.length : Int) ≤ 100000000 := by omega
      have hcell : w.cell? ⟨g, o + K, none⟩ = some (.int .u8 13) := by
        rcases HA.out.stop with h | h
        · omega
        · rw [← hKk] at h
          obtain ⟨ad2, e2, hcell⟩ := byteAt HR.out h
          obtain rfl := Option.some.inj e2
          rw [Addr.add_lit] at hcell
          exact hcell
      have HK0 : Aside0 ((K : Int) + 2 = ((preB dn l 0).length : Int)) := ⟨by rw [pre_zero]; omega⟩
      clear hjl hb hK hje hKk hj HJ hHX hdn hdl
      go_wp2_with (go_at_call 38; refine HVC.out.mono ?_; rintro e w2 ⟨rfl, hb2⟩; have HB2 := Aside0.mk hb2; clear hb2)
      go_loopw [4, 7] (fun ii kk wr => ∃ j : Nat, ii = .int .i64 ((preB dn l j).length : Int) ∧ kk = .int .i64 j ∧ Aside0 (j ≤ l.length ∧ Below w.heap.size w wr)) (fun _ kk _ => N - (intOf kk).toNat)
      case atStart =>
        refine ⟨0, ?_, rfl, ⟨Nat.zero_le _, HB2.out⟩⟩
        have h9 := HK0.out
        first
          | exact congrArg (Value.int .i64) h9
          | (rw [← h9]; congr 1; unfold wrap64; omega)
      case round =>
        rename World => wr
        obtain ⟨q, rfl, rfl, HQ⟩ := hrel
        have hq := HQ.out.1
        have hX := HX.out
        have hRr := Kd.C_below HR.out HQ.out.2
        by_cases hql : q < l.length
        · obtain ⟨x, hx⟩ : ∃ x, l[q]? = some x := ⟨_, List.getElem?_eq_getElem hql⟩
          obtain ⟨e1, e2⟩ := pre_full (ds := dn) (tl := tl) hx
          have HAR := Aside0.mk (arg_full g o c t wr hRr (by have := HB.out; omega) hX.2.2.2 (HE.out.trans e1) (HOK.out x (List.mem_of_getElem? hx)))
          rw [← e2] at HAR
          have hqN : (q : Int) < (N : Int) := by omega
          have hqB : (q : Int) ≤ 128 := by omega
          have hn0 : ¬ ((preB dn l (q + 1)).length : Int) < 0 := by omega
          have HM : Aside0 (q < N ∧ q + 1 ≤ l.length ∧ N ≤ 128) := ⟨by omega⟩
          have hw2 : wrap64 ((q : Int) + 1) = ((q + 1 : Nat) : Int) := w64a _ _ (by omega) (by omega) (by omega)
          obtain ⟨P0, hP0⟩ : ∃ P0, P0 = (preB dn l q).length := ⟨_, rfl⟩
          obtain ⟨P1, hP1⟩ : ∃ P1, P1 = (preB dn l (q + 1)).length := ⟨_, rfl⟩
          rw [← hP0] at HAR
          rw [← hP1] at HAR hn0
          rw [← hP0]
          have HP1 := Aside0.mk hP1
          clear hq hX hRr hql hx e1 e2 hP0 hP1 hub hnel2 hlt' hnel hcell
          go_wp2_with (go_at_call 40; refine HAR.out.mono ?_; rintro e w3 ⟨rfl, hb3⟩; have HB3 := Aside0.mk hb3; clear hb3)
          refine ⟨?_, meas _ _ _ (by omega) (by have := HM.out.1; omega) (by first | rfl | omega)⟩
          have h9 : Aside0 (q + 1 ≤ l.length ∧ Below w.heap.size w w3) := ⟨HM.out.2.1, below_next HQ.out.2 HB3.out⟩
          have hp := HP1.out
          subst hp
          first
            | exact ⟨q + 1, rfl, rfl, h9⟩
            | ((repeat apply Exists.intro); exact ⟨⟨q + 1, rfl, rfl, h9⟩, rfl⟩)
        · obtain rfl : q = l.length := by omega
          have e1 : t = preB dn l l.length ++ tl := by rw [pre_end]; exact HE.out
          have HAR := Aside0.mk (arg_tl g o c t wr hRr (by have := HB.out; omega) hX.2.2.2 e1 HT.out)
          have hqN : (l.length : Int) < (N : Int) := by omega
          obtain ⟨M, hM⟩ : ∃ M, M = N - 1 - l.length := ⟨_, rfl⟩
          have HMM := Aside0.mk hM
          have hM2 : (N : Int) - 1 - (l.length : Int) = (M : Int) := by omega
          have hM0 : (0 : Int) ≤ (N : Int) - 1 := by omega
          have hM3 : (N : Int) ≤ 128 := by omega
          have hrl := tl_len HT.out
          have HLN : Aside0 (M ≤ 1000 ∧ r.length + (LivT.empties M).length ≤ 1000000000) := ⟨by rw [empties_len]; omega⟩
          have HIN := Aside0.mk (And.intro (tl_in HT.out) hrl)
          have hsz := strOfNums_size r
          have hSne : (strOfNums r).toList.isEmpty = false := by
            have h1 := HT.out.ne
            rw [Lib.toList_data, strOfNums_data]
            cases r with
            | nil => exact absurd rfl h1
            | cons x r => rfl
          have HCR : Aside0 (∀ W : World, ∃ cap, (convert 9 26 (.string (strOfNums r))).run Try.prog W = .ok (.slice (some ⟨W.heap.size, 0, none⟩) r.length cap) (Lib.bytesWorld W 5 (strOfNums r)) ∧ RowF (Lib.bytesWorld W 5 (strOfNums r)) W.heap.size cap r) := ⟨fun W => ⟨_, by have := StrR.conv_run W (strOfNums r); rw [hsz] at this; exact this, by have := RowF.bytes W r HIN.out.1 (by have := HIN.out.2; omega); rw [hsz] at this; exact this⟩⟩
          have HCB : Aside0 (∀ W : World, Below W.heap.size W (Lib.bytesWorld W 5 (strOfNums r))) := ⟨fun W => StrR.conv_below W _⟩
          obtain ⟨P0, hP0⟩ : ∃ P0, P0 = (preB dn l l.length).length := ⟨_, rfl⟩
          rw [← hP0] at HAR
          rw [← hP0]
          obtain ⟨S, hS⟩ : ∃ S, S = strOfNums r := ⟨_, rfl⟩
          rw [← hS] at HAR HCR HCB hSne
          have HSE := Aside0.mk hS
          clear hq hX hRr e1 hP0 hub hnel2 hlt' hnel hcell hM hrl hsz hS
          go_upto_region 26 with (go_at_call 40; refine HAR.out.mono ?_; rintro e w3 ⟨rfl, hb3⟩; have HB3 := Aside0.mk hb3; obtain ⟨cap, hcr, hrf⟩ := HCR.out w3; have HRF := Aside0.mk hrf; clear hb3 hrf)
          go_wp2_with (first | (go_at_call 39; refine (empties.calls M HLN.out.1 _).mono ?_; rintro e w4 ⟨vb, rfl, Ab, cb, rfl, k1, k2, k3, k4⟩; have K2 := Aside0.mk k2; have K4 := Aside0.mk k4; clear k1 k2 k3 k4) | ((with_reducible refine gate_builtin (b := .append) (xs := #[.tmp 88, .tmp 93]) rfl ?_); at_builtin; refine wpList_append_rowF rfl (.tmp 88) (.tmp 93) rfl w3.heap.size w3.heap.size cap (Nat.le_refl _) r rfl (HRF.out.below K4.out) Ab cb (LivT.empties M) rfl K2.out HLN.out.2 ?_; intro v4 w5 hap; have HAP := Aside0.mk hap; clear hap))
          go_ret2
          obtain ⟨Aa, ca, q1, q2, q3, q4, q5⟩ := HAP.out
          rw [← HMM.out]
          exact ⟨_, rfl, apd_next (below_next HQ.out.2 HB3.out) ⟨Aa, ca, q1, q2, q3, q4, (below_next (HCB.out w3) K4.out).trans q5⟩⟩
theorem finish.calls (g o c : Nat) (t r : List Int) (n : Int) (w : World) (hr : (Kd.int .u8).C w (some ⟨g, o, none⟩) t.length t) (hc : t.length ≤ c) (ht : t.length ≤ 100000000) (hV : Vw t r n) : Fin g o c t r n w := by
  cases hV with
  | a0 => exact fin_a0 g o c w
  | a1 => exact fin_a1 g o c w hr hc
  | a2 ds v h hm =>
    obtain ⟨N, rfl⟩ := Int.eq_ofNat_of_zero_le h.nonneg
    have hA := (At.of (pre := []) (t := 42 :: ds) (dn := ds) (c := 42) (u := []) (by simp) (vl_no h) (.inl rfl)).1
    have e : ([] : List Int).length + 1 + ds.length = 1 + ds.length := by simp
    rw [e] at hA
    exact fin_a2 g o c _ w hr hc ht ds _ N hA h (by omega) (by simp only [List.length_cons]; omega)
  | b ds v h hm =>
    obtain ⟨N, rfl⟩ := Int.eq_ofNat_of_zero_le h.nonneg
    have hA := (At.of (pre := []) (t := 42 :: (ds ++ [13])) (dn := ds) (c := 42) (u := [13]) (by simp) (vl_no h) (.inr ⟨[], rfl⟩)).1
    have e : ([] : List Int).length + 1 + ds.length = 1 + ds.length := by simp
    rw [e] at hA
    exact fin_b g o c _ w hr hc ht ds _ N hA h (by omega) (by simp only [List.length_cons, List.length_append, List.length_nil]; omega)
  | c ds l tl r v h ne hm hl ok ht' =>
    obtain ⟨N, rfl⟩ := Int.eq_ofNat_of_zero_le h.nonneg
    exact fin_c g o c _ w hr hc ht ds tl r l N rfl h ne (by omega) (by omega) ok ht'
end Go.Proofs.Ytfdkcnbkoagmiaa.FinW
end

section
namespace Go.Proofs.Ytfdkcnbkoagmiaa.LivG
open Go.Proofs.Ytfdkcnbkoagmiaa.LinS Go.Proofs.Ytfdkcnbkoagmiaa.ParS Go.Proofs.Ytfdkcnbkoagmiaa.LivS Go.Proofs.Ytfdkcnbkoagmiaa.LivT Go.Proofs.Ytfdkcnbkoagmiaa.LivF
set_option linter.unusedVariables false
theorem Arr.of {c : Int} {r : List Int} {p : PS} (h : Sh (c :: r) p) (hc : c = 42) : Arr p := by
  subst hc
  unfold Arr
  generalize ht : (42 :: r : List Int) = t at h
  cases h with
  | begin s a cc => cases ht
  | line d u s e hd hn a => cases ht; exact absurd rfl hd
  | dig0 ds s _ _ _ _ _ _ => rw [s]; exact ⟨fun h => (by cases h), fun h => (by cases h)⟩
  | minus s _ _ _ => rw [s]; exact ⟨fun h => (by cases h), fun h => (by cases h)⟩
  | minusR s _ _ _ => rw [s]; exact ⟨fun h => (by cases h), fun h => (by cases h)⟩
  | num0 ds s _ _ _ _ _ => rw [s]; exact ⟨fun h => (by cases h), fun h => (by cases h)⟩
  | numM s _ _ _ => rw [s]; exact ⟨fun h => (by cases h), fun h => (by cases h)⟩
  | dollar ds l s _ _ _ _ _ _ => rw [s]; exact ⟨fun h => (by cases h), fun h => (by cases h)⟩
  | dig1 ds l dn s _ _ _ _ _ _ _ _ _ _ => rw [s]; exact ⟨fun h => (by cases h), fun h => (by cases h)⟩
  | num1 ds l dn s _ _ _ _ _ _ _ _ _ _ => rw [s]; exact ⟨fun h => (by cases h), fun h => (by cases h)⟩
  | cont ds l dn s _ _ _ _ _ _ _ _ _ => rcases s with ⟨s, _⟩ | ⟨s, _⟩ <;> (rw [s]; exact ⟨fun h => (by cases h), fun h => (by cases h)⟩)
  | contF ds l dn s _ _ _ _ _ _ _ _ _ => rw [s]; exact ⟨fun h => (by cases h), fun h => (by cases h)⟩
structure LI (q : PS) (r : List Int) (n h : Int) : Prop where
  sh : ∃ t, Sh t q
  arr : Arr q
  co : compl q = r
  ct : cnt q = n
  held : q.held = h
  brk : q.broken = 0
  inv : Inv q
  cur : inB q.cur
  out : q.out = []
theorem step_cur (p : PS) (c : Int) (h : inB p.cur) (hc : 0 ≤ c ∧ c < 256) : inB (ParS.step p c).1.cur := by
  have h1 : inB (p.cur ++ [c]) := fun x hx => by
    rcases List.mem_append.1 hx with hx | hx
    · exact h x hx
    · rw [List.mem_singleton.1 hx]; exact hc
  have h0 : inB ([] : List Int) := fun x hx => by cases hx
  have h2 : inB (([] : List Int) ++ [c]) := fun x hx => by rw [List.mem_singleton.1 hx]; exact hc
  have hL : ∀ q : PS, inB q.cur → inB (q.cur ++ [c]) → inB (ParS.lineB q c).1.cur := fun q ha hb => by
    unfold ParS.lineB
    split
    · exact hb
    · split
      · exact ha
      · exact h0
  unfold ParS.step
  cases p.st <;> dsimp only
  · split
    · exact h
    · exact hL _ h0 h2
  · unfold digitB; repeat' split
    all_goals exact h
  · exact h
  · exact h
  · unfold numFB
    repeat' split
    all_goals first | exact h | exact h0
  · exact h
  · exact h1
  · exact h
  · unfold contFB
    repeat' split
    all_goals first | exact h | exact h0
  · exact hL _ h h1
theorem LI.step {q : PS} {c : Int} {r : List Int} {n h : Int} (hq : LI q (c :: r) n h) (hc : 0 ≤ c ∧ c < 256) :
    (ParS.feed q [c]).broken = 0 ∧ (r ≠ [] → (ParS.run q [c]).out = [] ∧ LI (ParS.feed q [c]) r n (h + 1)) ∧ (r = [] → (ParS.feed q [c]).held = 0 ∧ (n = 0 → (ParS.run q [c]).out = []) ∧ (n ≠ 0 → ∃ x, (ParS.run q [c]).out = [x] ∧ (x.length : Int) = n)) := by
  obtain ⟨⟨t, sh⟩, arr, co, ct, held, brk, inv, cur, out⟩ := hq
  have hi : Inv { q with held := q.held + 1 } := inv.held brk _
  have hs : Sh t { q with held := q.held + 1 } := sh.held _
  obtain ⟨e0, hd⟩ := compl_step (c := c) (r := r) hi hs arr co
  have er : ParS.run q [c] = (ParS.step { q with held := q.held + 1 } c).1 := by
    rw [run_cons, run_nil, runB, if_neg (Decidable.not_not.2 brk), step1, if_neg (Decidable.not_not.2 e0)]
  have ef : ParS.feed q [c] = told (ParS.step { q with held := q.held + 1 } c).1 := by unfold ParS.feed; rw [er]
  have hinv : Inv (ParS.feed q [c]) := by
    have h1 := Inv.step hi brk c e0
    rw [ef]
    obtain ⟨a1, a2, a3, a4, a5, a6, a7, a8, a9, a10, a11, a12, a13⟩ := h1
    exact ⟨a1, a2, a3, a4, a5, a6, a7, a8, a9, a10, a11, a12, a13⟩
  have hsh := Sh.step hi hs e0
  have hcur := step_cur { q with held := q.held + 1 } c cur hc
  have hbrk : (ParS.step { q with held := q.held + 1 } c).1.broken = 0 := by
    have key : ∀ p : PS, (ParS.step p c).1.broken = p.broken := by
      intro p
      have hL : ∀ q : PS, (ParS.lineB q c).1.broken = q.broken := fun q => by
        unfold ParS.lineB
        split
        · rfl
        · split <;> rfl
      unfold ParS.step
      cases p.st <;> dsimp only
      · split
        · rfl
        · exact hL _
      · unfold ParS.digitB; repeat' split
        all_goals rfl
      · unfold ParS.numFB; repeat' split
        all_goals rfl
      · rfl
      · unfold ParS.contFB; repeat' split
        all_goals rfl
      · exact hL _
    rw [key]
    exact brk
  have hcn : cnt { q with held := q.held + 1 } = n := ct
  generalize hN : (ParS.step { q with held := q.held + 1 } c).1 = N at *
  refine ⟨by rw [ef]; exact hbrk, fun hne => ?_, fun he => ?_⟩
  · obtain ⟨m1, m2, m3, m4, m5⟩ := hd.more hne
    refine ⟨by rw [er, m1]; exact out, ?_, ?_, ?_, ?_, ?_, ?_, hinv, ?_, rfl⟩
    · rw [ef]
      rcases hsh with h1 | h1
      · exact ⟨_, h1.1.told⟩
      · exact ⟨_, h1.1.told⟩
    · rw [ef]; exact m5
    · rw [ef]; exact m3
    · rw [ef]; exact m4.trans hcn
    · rw [ef]; show N.held = _; rw [m2]; show q.held + 1 = _; rw [held]
    · rw [ef]; exact hbrk
    · rw [ef]; exact hcur
  · obtain ⟨l1, l2, l3⟩ := hd.last he
    have ho : ({ q with held := q.held + 1 } : PS).out = [] := out
    rw [hcn] at l2 l3
    rw [ho, List.nil_append] at l2
    refine ⟨by rw [ef]; exact l1, fun h0 => ?_, fun h0 => ?_⟩
    · rw [er, l2, if_pos h0]
    · exact ⟨_, by rw [er]; conv => lhs; rw [l2, if_neg h0], l3 h0⟩
theorem held_is (d : List Int) (hd : inB d) (hb : (ParS.run ParS.new d).broken = 0) : ∃ pre u, d = pre ++ u ∧ (ParS.feed ParS.new d).held = u.length ∧ Sh u (ParS.feed ParS.new d) := by
  obtain ⟨pre, u, e, hs, hl⟩ := Sh.run d (t := []) (p := ParS.new) inv_new (.begin rfl rfl rfl) rfl hb
  exact ⟨pre, u, e, hl, hs.told⟩
end Go.Proofs.Ytfdkcnbkoagmiaa.LivG
end

section
namespace Go.Proofs.Ytfdkcnbkoagmiaa.LivW
open Go Go.RowKit Go.Proofs.YtfdkcnbkoagmiaaW.PrintWords Go.Proofs.YtfdkcnbkoagmiaaW.PrintLast Go.Proofs.YtfdkcnbkoagmiaaW.PrintMore Go.Proofs.Ytfdkcnbkoagmiaa.RowU Go.Proofs.Ytfdkcnbkoagmiaa.ArS Go.Proofs.Ytfdkcnbkoagmiaa.ArM Go.Proofs.Ytfdkcnbkoagmiaa.GenM Go.Proofs.Ytfdkcnbkoagmiaa.GenN Go.Proofs.Ytfdkcnbkoagmiaa.GenL Go.Proofs.Ytfdkcnbkoagmiaa.OwnL Go.Proofs.Ytfdkcnbkoagmiaa.ParM Go.Proofs.Ytfdkcnbkoagmiaa.ParD Go.Proofs.Ytfdkcnbkoagmiaa.ParF Go.Proofs.Ytfdkcnbkoagmiaa.ChkS Go.Proofs.Ytfdkcnbkoagmiaa.FedW Go.Proofs.Ytfdkcnbkoagmiaa.FedX Go.Proofs.Ytfdkcnbkoagmiaa.StrB Go.Proofs.Ytfdkcnbkoagmiaa.ApnG Go.Proofs.Ytfdkcnbkoagmiaa.FinW
open Go.Proofs.Ytfdkcnbkoagmiaa.ParS (St PS)
open Go.Proofs.Ytfdkcnbkoagmiaa.LinS (inB)
open Go.Proofs.Ytfdkcnbkoagmiaa.LivT (compl cnt)
set_option linter.unusedVariables false
set_option maxRecDepth 100000
theorem ping_in : inB ping := by intro x hx; simp [ping] at hx; omega
structure LM (W wr : World) (gp gr : Nat) (q : PS) (va vc vx : Value) (Oa Oc Oo : Nat → Nat) (rest : List Int) : Prop where
  pm : PM wr gp q va vc vx Oa Oc Oo
  cd : (Kd.int .u8).C wr (some ⟨gr, 0, none⟩) rest.length rest
  no : PO gp Oa Oc Oo gr = 0
  lt : gr < wr.heap.size
  new : ∀ a, PO gp Oa Oc Oo a ≠ 0 → W.heap.size ≤ a
  bel : Below W.heap.size W wr
variable {W wr : World} {gp gr : Nat} {q : PS} {va vc vx : Value} {Oa Oc Oo : Nat → Nat} {rest : List Int}
theorem LM.fed (h : LM W wr gp gr q va vc vx Oa Oc Oo rest) {w2 : World} {q' : PS} {vt : Value} {ot : List (List (List Int))} (hf : FQ wr w2 (PO gp Oa Oc Oo) gp q' vt ot) :
    ∃ va' vc' vx' Oa' Oc' Oo' Ot, LM W w2 gp gr q' va' vc' vx' Oa' Oc' Oo' rest ∧ CmR w2 vt ot Ot := by
  obtain ⟨va', vc', vx', Oa', Oc', Oo', Ot, f1, f2, f3, f4, f5⟩ := hf
  have hs := f5.size
  have hno := h.no
  have hlt := h.lt
  have f4g := f4 gr hlt
  refine ⟨va', vc', vx', Oa', Oc', Oo', Ot, ⟨f1, FedW.C_upd h.cd f5 (fun ad e => by obtain rfl := Option.some.inj e; exact ⟨fun hn => hn hno, hlt⟩), by omega, by omega, fun a ha => ?_, Upd.to_below h.bel f5 h.bel.size (fun a ha => h.new a ha)⟩, f2⟩
  by_cases hl : a < wr.heap.size
  · have := f4 a hl; exact h.new a (by omega)
  · have := h.bel.size; omega
theorem LM.feed (h : LM W wr gp gr q va vc vx Oa Oc Oo rest) (hi : ParS.Inv q) (hcb : inB q.cur) (hop : q.out = []) (hh : 0 ≤ q.held) (hhb : q.held ≤ 1000000000000) {i : Nat} {c : Int} (hc : rest[i]? = some c) (h0 : 0 ≤ c ∧ c < 256) (cc : Nat) :
    Calls Try.prog 13 #[ptr gp, .slice (some ⟨gr, i, none⟩) 1 cc] wr fun e w' => ∃ vt, e = .returned (.tuple #[vt, .int .i64 (ParS.feed q [c]).broken]) ∧ FQ wr w' (PO gp Oa Oc Oo) gp (ParS.feed q [c]) vt (ParS.run q [c]).out := by
  have hl : i < rest.length := (List.getElem?_eq_some_iff.1 hc).1
  have hC : (Kd.int .u8).C wr (some ⟨gr, i, none⟩) [c].length [c] := by
    have := FinA.C_mid (m := [c]) (j := i) h.cd (fun p x hx => by
      have hp : p = 0 := by have := (List.getElem?_eq_some_iff.1 hx).1; simp at this; exact this
      subst hp
      obtain rfl : c = x := by simpa using hx
      exact hc) (by simp only [List.length_singleton]; omega)
    rw [Addr.add_lit, Nat.zero_add] at this
    exact this
  exact feed.calls h.pm hi hcb hop hh (some ⟨gr, i, none⟩) cc [c] hC (fun z hz => by rw [List.mem_singleton.1 hz]; exact h0) (fun ad e => by obtain rfl := Option.some.inj e; exact ⟨h.no, h.lt⟩) (by simp) hhb
theorem compl_in {t r : List Int} {n : Int} (h : LivF.Vw t r n) : inB r := by
  have he : ∀ n, inB (LivT.empties n) := fun n x hx => by
    obtain ⟨l, hl, hx⟩ := List.mem_flatten.1 hx
    obtain rfl : l = LivT.one := (List.mem_replicate.1 hl).2
    simp [LivT.one] at hx
    omega
  cases h with
  | a0 => intro x hx; simp at hx; omega
  | a1 => intro x hx; simp at hx; omega
  | a2 ds v h hm =>
    intro x hx
    rcases List.mem_cons.1 hx with rfl | hx
    · omega
    · rcases List.mem_cons.1 hx with rfl | hx
      · omega
      · exact he _ x hx
  | b ds v h hm =>
    intro x hx
    rcases List.mem_cons.1 hx with rfl | hx
    · omega
    · exact he _ x hx
  | c ds l tl r v h ne hm hl ok ht =>
    intro x hx
    rcases List.mem_append.1 hx with hx | hx
    · exact tl_in ht x hx
    · exact he _ x hx
theorem compl_len {t r : List Int} {n : Int} (h : LivF.Vw t r n) : r.length ≤ 100000 ∧ 0 ≤ n ∧ n ≤ 128 := by
  cases h with
  | a0 => exact ⟨by decide, by decide, by decide⟩
  | a1 => exact ⟨by decide, by decide, by decide⟩
  | a2 ds v h hm =>
    have := h.nonneg
    simp only [List.length_cons, FinV.empties_len]
    omega
  | b ds v h hm =>
    have := h.nonneg
    simp only [List.length_cons, FinV.empties_len]
    omega
  | c ds l tl r v h ne hm hl ok ht =>
    have := h.nonneg
    have := tl_len ht
    simp only [List.length_append, FinV.empties_len]
    omega
theorem fedM (A : Option Addr) (c : Nat) (d : List Int) (Aq : Option Addr) (cq : Nat) (cuts : List Int) (W : World) (hC : (Kd.int .u8).C W A d.length d) (hd : inB d) (hlen : d.length ≤ 70000000) (hQ : (Kd.int .i64).C W Aq cuts.length cuts) :
    Calls Try.prog 26 #[.slice A d.length c, .slice Aq cuts.length cq] W fun e w' => ∃ gp va vc vx Oa Oc Oo vo co ve, e = .returned (.tuple #[ptr gp, .slice vo (ParS.run ParS.new d).out.length co, ve]) ∧ PM w' gp (ParS.feed ParS.new d) va vc vx Oa Oc Oo ∧ (∀ a, PO gp Oa Oc Oo a ≠ 0 → W.heap.size ≤ a) ∧ Below W.heap.size W w' :=
  (fed.calls A c d Aq cq cuts W hC hd hlen hQ).mono fun e w' ⟨gp, gd, q, va, vc, vx, Oa, Oc, Oo, vo, ol, Ot, ve, el, o, r, h1, h2, h3⟩ => by
    have hp := fedL_is (cuts.take 4095) ParS.new d
    rw [h1] at hp
    obtain ⟨p1, p2, _, _⟩ := hp
    dsimp only at p1 p2
    subst p1 p2
    obtain ⟨Ao, co, eo⟩ := h3.ro.slice
    subst eo
    exact ⟨gp, va, vc, vx, Oa, Oc, Oo, Ao, co, ve, h2, h3.pm, fun a ha => h3.new a (by omega), h3.bel⟩
set_option maxHeartbeats 16000000 in
theorem walk (y : List Int × List Int) (ca : Array Value) (W : World) (hK : kStr.K W y ca.toList) (hg : gStr y) :
    Calls Try.prog 6 #[.agg ca] W fun e w' => e = .returned (.bool true) ∧ Below W.heap.size W w' := by
  obtain ⟨D, cuts⟩ := y
  obtain ⟨A, c, A2, c2, hca, hc, hCD, hc2, hCQ⟩ := str_open hK
  obtain rfl : ca = #[.slice A D.length c, .slice A2 cuts.length c2] := by cases ca; simpa using hca
  have hDin : inB D := in_of hg.1.2.2
  have hDl : D.length ≤ 1048576 := hg.1.1
  have hQl : cuts.length ≤ 1048576 := hg.2.1
  obtain ⟨d, hd⟩ : ∃ d, d = ping ++ D := ⟨_, rfl⟩
  have hdl : d.length = 14 + D.length := by rw [hd, List.length_append]; rfl
  have hdin : inB d := fun x hx => by
    rw [hd] at hx
    rcases List.mem_append.1 hx with hx | hx
    · exact ping_in x hx
    · exact hDin x hx
  have HDD := Aside0.mk hd
  have HDL := Aside0.mk hdl
  have HDI := Aside0.mk hdin
  have HB0 := Aside0.mk (And.intro hDl hQl)
  have HCD := Aside0.mk hCD
  have HCQ := Aside0.mk hCQ
  have hc1 := ApnF.conv_at (w := W.alloc (.cells #[.slice A D.length c, .slice A2 cuts.length c2] 73)) (W.heap.size + 1) (by simp) (ping.map (Value.int .u8)).toArray 14 14
  have HRF := Aside0.mk (RowF.const (W.alloc (.cells #[.slice A D.length c, .slice A2 cuts.length c2] 73)) (W.heap.size + 1) (by simp) ping (by decide))
  simp only [ping, List.map_cons, List.map_nil] at hc1
  clear hK hg hca hc hCD hc2 hCQ hDin hDl hQl hd hdl hdin
  go_enter Try.func6, Try.ntmps6
  go_upto_region 2 with ((with_reducible refine gate_builtin (b := .append) (xs := #[.tmp 16, .tmp 18]) rfl ?_); at_builtin; go_must (refine wpList_append_rowF rfl (.tmp 16) (.tmp 18) rfl (W.heap.size + 1) (W.heap.size + 1) 14 (Nat.le_refl _) ping rfl HRF.out A c D rfl ?hc2 ?hb ?_); go_must ((case hc2 => exact Kd.C_below HCD.out (below_alloc (below_alloc (Below.refl _ _) _) _))); go_must ((case hb => have := HB0.out; show 14 + D.length ≤ _; omega)); intro vd wd hap; go_must (rw [← HDD.out] at hap); go_must (obtain ⟨Ad, cd, rfl, k1, k2, k3, k4⟩ := hap); have HCd := Aside0.mk (And.intro k2 (And.intro k1 k3)); go_must (have HBd : Aside0 (Below W.heap.size W wd) := ⟨(below_alloc (below_alloc (Below.refl W.heap.size W) _) _).trans (Joins.below_le k4 (by omega))⟩); go_must (have HSTR := Aside0.mk ((k4.block W.heap.size (by omega)).trans (blk_below (blk_new W (.cells #[.slice A D.length c, .slice A2 cuts.length c2] 73)) (below_alloc (Below.refl _ _) _)))); clear k1 k2 k3 k4 hc1)
  have hdl0 : 0 < d.length := by have := HDL.out; omega
  obtain ⟨gd, rfl⟩ : ∃ gd, Ad = some ⟨gd, 0, none⟩ := by
    obtain ⟨ad, e, _⟩ := HCd.out.1.2.2 hdl0
    obtain ⟨_, _, h3, h4⟩ := HCd.out.2.2 ad e
    obtain ⟨b, o, s⟩ := ad
    simp only at h3 h4
    subst h3 h4
    exact ⟨b, e⟩
  have HR1 : Aside0 (∃ r, (ParS.run ParS.new d).out = [[80, 73, 78, 71]] :: r) := ⟨by rw [HDD.out]; exact ping_out D⟩
  obtain ⟨M, hM⟩ : ∃ M, M = (ParS.run ParS.new d).out := ⟨_, rfl⟩
  obtain ⟨P, hP⟩ : ∃ P, P = ParS.feed ParS.new d := ⟨_, rfl⟩
  have HF1 : Aside0 (Calls Try.prog 26 #[.slice (some ⟨gd, 0, none⟩) d.length cd, .slice A2 cuts.length c2] wd fun e w' => ∃ gp va vc vx Oa Oc Oo vo co ve, e = .returned (.tuple #[ptr gp, .slice vo M.length co, ve]) ∧ PM w' gp P va vc vx Oa Oc Oo ∧ (∀ a, PO gp Oa Oc Oo a ≠ 0 → wd.heap.size ≤ a) ∧ Below wd.heap.size wd w') := ⟨by rw [hM, hP]; exact fedM _ cd d A2 c2 cuts wd HCd.out.1 HDI.out (by have := HDL.out; have := HB0.out; omega) (Kd.C_below HCQ.out HBd.out)⟩
  have hxs : wd.cell? ⟨W.heap.size, 1, none⟩ = some (.slice A2 cuts.length c2) := (blk_cell HSTR.out 1).trans rfl
  rw [← hM] at HR1
  have HMP := Aside0.mk (And.intro hM hP)
  obtain ⟨rr, hr⟩ := HR1.out
  have hm0 : ¬ (M.length : Int) = 0 := by rw [hr]; simp only [List.length_cons]; omega
  have hm1 : (0 : Int) < (M.length : Int) := by rw [hr]; simp only [List.length_cons]; omega
  have hmb : ((M.length : Int) == 0) = false := beq_false_of_ne hm0
  have hmn : ¬ M = [] := by rw [hr]; exact List.cons_ne_nil _ _
  clear hM hP hr hdl0 HR1
  go_upto_region 3 with (go_at_call 26; refine HF1.out.mono ?_; rintro e w2 ⟨gp, va, vc, vx, Oa, Oc, Oo, vo, co, ve, rfl, k1, k2, k3⟩; have K1 := Aside0.mk k1; have K2 := Aside0.mk k2; have K3 := Aside0.mk k3; clear k1 k2 k3 HF1)
  clear hxs
  have HW2 : Aside0 (Below W.heap.size W w2) := ⟨below_next HBd.out K3.out⟩
  have HBK := Aside0.mk (broken.calls K1.out)
  have HHL := Aside0.mk (held.calls K1.out)
  have HPB : Aside0 (P.broken = (ParS.run ParS.new d).broken ∧ (P.broken ≠ 0 → P.held = 0)) := ⟨by rw [HMP.out.2]; exact ⟨rfl, (ParS.inv_new.feed d).brk⟩⟩
  by_cases hE0 : P.broken = 0
  · obtain ⟨pre, u, hpu, hhd, hsh⟩ := LivG.held_is d HDI.out (by rw [← HPB.out.1]; exact hE0)
    rw [← HMP.out.2] at hhd hsh
    have HZ0 := Aside0.mk hE0
    rw [hE0] at HBK
    rw [hhd] at HHL
    have hplen : d.length = pre.length + u.length := by rw [hpu, List.length_append]
    have HPU := Aside0.mk (And.intro hpu (And.intro hhd (And.intro hplen hsh)))
    have hub : (d.length : Int) ≤ 100000000 := by have := HDL.out; have := HB0.out; omega
    have HUB := Aside0.mk hub
    by_cases hu : u = []
    · subst hu
      have hcd := HCd.out.2.1
      have hcd2 : (d.length : Int) ≤ (cd : Int) := by omega
      have hz : (([] : List Int).length : Int) = 0 := rfl
      clear hplen hhd hsh hpu hE0
      rw [hz] at HHL
      by_cases hcde : cd = d.length
      · subst hcde
        go_wp2_with (first | (go_at_call 23; refine HHL.out.mono ?_; rintro e w6 ⟨rfl, rfl⟩) | (go_at_call 21; refine HBK.out.mono ?_; rintro e w6 ⟨rfl, rfl⟩) | (go_at_call 10; refine (num.calls _ _).mono ?_; rintro e w6 ⟨rfl, rfl⟩))
        go_ret
        exact ⟨rfl, HW2.out⟩
      · have hcde2 : ¬ d.length = cd := fun h => hcde h.symm
        go_wp2_with (first | (go_at_call 23; refine HHL.out.mono ?_; rintro e w6 ⟨rfl, rfl⟩) | (go_at_call 21; refine HBK.out.mono ?_; rintro e w6 ⟨rfl, rfl⟩) | (go_at_call 10; refine (num.calls _ _).mono ?_; rintro e w6 ⟨rfl, rfl⟩))
        go_ret
        exact ⟨rfl, HW2.out⟩
    · obtain ⟨c0, r0, rfl⟩ := List.exists_cons_of_ne_nil hu
      have hcd := HCd.out.2.1
      have hul : 1 ≤ (c0 :: r0).length := by simp
      obtain ⟨u, huu⟩ : ∃ u, u = c0 :: r0 := ⟨_, rfl⟩
      rw [← huu] at HHL hplen hul hpu hsh hhd HPU
      have hC0 : d[pre.length]? = some c0 := by rw [hpu, huu, List.getElem?_append_right (Nat.le_refl _), Nat.sub_self]; rfl
      obtain ⟨adx, ex, hcell⟩ := FinV.byteAt (Kd.C_below HCd.out.1 K3.out) hC0
      obtain rfl := Option.some.inj ex
      rw [Addr.add_lit, Nat.zero_add] at hcell
      have hCu : (Kd.int .u8).C w2 (some ⟨gd, pre.length, none⟩) u.length u := by
        have := FinA.C_mid (m := u) (j := pre.length) (Kd.C_below HCd.out.1 K3.out) (fun i x hx => by rw [hpu, List.getElem?_append_right (by omega), show pre.length + i - pre.length = i by omega]; exact hx) (by omega)
        rw [Addr.add_lit, Nat.zero_add] at this
        exact this
      have HCU := Aside0.mk hCu
      have hw0 : (d.length : Int) - (u.length : Int) = (pre.length : Int) := by omega
      have hsub : d.length - pre.length = u.length := by omega
      have hlo : (pre.length : Int) ≤ (d.length : Int) := by omega
      have hlo0 : (0 : Int) ≤ (pre.length : Int) := by omega
      have hloc : (pre.length : Int) ≤ (cd : Int) := by omega
      have hk6 : ¬ cd = pre.length := by omega
      have hul0 : ¬ (u.length : Int) = 0 := by omega
      have hulb : ((u.length : Int) == 0) = false := beq_false_of_ne hul0
      have hun : ¬ u = [] := fun h => by rw [h] at hul; simp at hul
      have hul1 : (u.length : Int) ≤ (d.length : Int) := by omega
      have hul2 : (0 : Int) < (u.length : Int) := by omega
      have HUU := Aside0.mk huu
      clear hC0 hCu hul hu hplen hhd hsh hpu hE0 huu hcd
      by_cases h42 : c0 = 42
      · have hvw : LivF.Vw u (compl P) (cnt P) ∧ LivG.LI P (compl P) (cnt P) u.length := by
          obtain ⟨q1, q2, q3, q4⟩ := HPU.out
          have hinv : ParS.Inv P := by rw [HMP.out.2]; exact ParS.inv_new.feed d
          have harr : LivT.Arr P := LivG.Arr.of (c := c0) (r := r0) (by rw [← HUU.out]; exact q4) h42
          refine ⟨q4.vw hinv harr, ⟨⟨_, q4⟩, harr, rfl, rfl, q2, ?_, hinv, ?_, ?_⟩⟩
          · exact HZ0.out
          · rw [HMP.out.2]; exact run_in d nil_in HDI.out
          · rw [HMP.out.2]; rfl
        subst h42
        obtain ⟨n, hn⟩ : ∃ n, n = cnt P := ⟨_, rfl⟩
        obtain ⟨rest, hrest⟩ : ∃ rest, rest = compl P := ⟨_, rfl⟩
        rw [← hn, ← hrest] at hvw
        have HVW := Aside0.mk hvw
        have hrne := hvw.1.ne
        have hrl := compl_len hvw.1
        have HRL := Aside0.mk hrl
        have HRI := Aside0.mk (compl_in hvw.1)
        have HFN := Aside0.mk (finish.calls gd pre.length (cd - pre.length) u rest n w2 HCU.out (by have := HCd.out.2.1; omega) (by have := HUB.out; omega) hvw.1)
        have hrl0 : ¬ (rest.length : Int) = 0 := by
          intro h
          exact hrne (List.eq_nil_of_length_eq_zero (by omega))
        have hrlb : ((rest.length : Int) == 0) = false := beq_false_of_ne hrl0
        have hrn : ¬ rest = [] := hrne
        clear hn hrest hvw hrne hrl
        go_upto_region 14 with (first | (go_at_call 23; refine HHL.out.mono ?_; rintro e w6 ⟨rfl, rfl⟩) | (go_at_call 21; refine HBK.out.mono ?_; rintro e w6 ⟨rfl, rfl⟩) | (go_at_call 10; refine (num.calls _ _).mono ?_; rintro e w6 ⟨rfl, rfl⟩) | (go_at_call 28; refine Calls.mono HFN.out ?_; rintro e w3 ⟨vr, rfl, Ar, cr, rfl, f1, f2, f3, f4⟩; have F1 := Aside0.mk f1; have F2 := Aside0.mk f2; have F3 := Aside0.mk f3; have F4 := Aside0.mk f4; clear f1 f2 f3 f4))
        clear hcell hw0 hlo hlo0 hloc hk6 hul0 hul1 hub hulb hun
        have hr0 : 0 < rest.length := by omega
        obtain ⟨gr, rfl⟩ : ∃ gr, Ar = some ⟨gr, 0, none⟩ := by
          obtain ⟨ad, e, _⟩ := F2.out.2.2 hr0
          obtain ⟨_, _, h3, h4⟩ := F3.out ad e
          obtain ⟨b, o, s⟩ := ad
          simp only at h3 h4
          subst h3 h4
          exact ⟨b, e⟩
        have hgr := F3.out ⟨gr, 0, none⟩ rfl
        have hs4 := F4.out.size
        have HLM : Aside0 (LM W w3 gp gr P va vc vx Oa Oc Oo rest) := ⟨K1.out.upd (S := fun _ => False) (Upd.of_below F4.out) (fun _ _ hf => hf), F2.out, Decidable.not_not.1 fun hne => by have := K1.out.lt hne; have := hgr.1; simp only at this; omega, hgr.2.1, fun a ha => by have := K2.out a ha; have := HBd.out.size; omega, below_next HW2.out F4.out⟩
        have hcr := F1.out
        have HCR := Aside0.mk hcr
        clear hgr hs4 hr0 HBK HHL hcr
        go_wp2_with fail
        go_loopw [11] (fun i wr => ∃ q va vc vx Oa Oc Oo, ∃ k : Nat, i = .int .i64 k ∧ Aside0 (LM W wr gp gr q va vc vx Oa Oc Oo rest ∧ k ≤ rest.length ∧ (k < rest.length → LivG.LI q (rest.drop k) n ((u.length : Int) + k)))) (fun i _ => rest.length - (intOf i).toNat)
        case atStart => exact ⟨_, _, _, _, _, _, _, 0, rfl, ⟨HLM.out, Nat.zero_le _, fun _ => by rw [List.drop_zero]; have := HVW.out.2; simpa using this⟩⟩
        case round =>
          obtain ⟨q, va, vc, vx, Oa, Oc, Oo, k, rfl, HNN⟩ := hrel
          rename World => w7
          by_cases hk : k < rest.length
          · obtain ⟨c1, hc1⟩ : ∃ c1, rest[k]? = some c1 := ⟨_, List.getElem?_eq_getElem hk⟩
            have hcb : 0 ≤ c1 ∧ c1 < 256 := HRI.out c1 (List.mem_of_getElem? hc1)
            have hli := HNN.out.2.2 hk
            have hdr : rest.drop k = c1 :: rest.drop (k + 1) := by
              obtain ⟨hk', rfl⟩ := List.getElem?_eq_some_iff.1 hc1
              exact List.drop_eq_getElem_cons hk'
            rw [hdr] at hli
            have hst := hli.step hcb
            have hub := HUB.out
            have hplen := HPU.out.2.2.1
            have HFA := Aside0.mk (HNN.out.1.feed hli.inv hli.cur hli.out (by rw [hli.held]; omega) (by rw [hli.held]; have := HRL.out.1; omega) hc1 hcb (cr - k))
            obtain ⟨q1, hq1⟩ : ∃ q1, q1 = ParS.feed q [c1] := ⟨_, rfl⟩
            obtain ⟨X, hX⟩ : ∃ X, X = (ParS.run q [c1]).out := ⟨_, rfl⟩
            rw [← hq1, ← hX] at HFA hst
            rw [hst.1] at HFA
            have HST := Aside0.mk hst
            have HMS : Aside0 (k + 1 ≤ rest.length ∧ k < rest.length) := ⟨by omega⟩
            have hk1 : (k : Int) < (rest.length : Int) := by omega
            have hk2 : (0 : Int) ≤ (k : Int) := by omega
            have hk3 : (k : Int) + 1 ≤ (rest.length : Int) := by omega
            have hcc := HCR.out
            have hk4 : (k : Int) + 1 ≤ (cr : Int) := by omega
            have hk5 : (k : Int) ≤ (k : Int) + 1 := by omega
            have hk6 : ¬ cr = k := by omega
            have hk7 : (0 : Int) ≤ (k : Int) + 1 := by omega
            have hk9 : (k : Int) + 1 ≤ 100000 := by have := HRL.out.1; omega
            have hk8 : IntKind.i64.wrap ((k : Int) + 1) = (k : Int) + 1 := IntWalk.i64_in _ (by omega)
            have hub2 : (u.length : Int) ≤ 100000000 := by omega
            have HLAST : Aside0 (k + 1 = rest.length → rest.drop (k + 1) = []) := ⟨fun h => List.drop_of_length_le (by omega)⟩
            have HMORE : Aside0 (k + 1 < rest.length → rest.drop (k + 1) ≠ []) := ⟨fun h e => by have := congrArg List.length e; rw [List.length_drop] at this; simp only [List.length_nil] at this; omega⟩
            clear hc1 hcb hli hdr hst hq1 hX hk hcc hub hplen
            go_upto_region 20 with (go_at_call 13; refine HFA.out.mono ?_; rintro e w8 ⟨vt, rfl, hfq⟩; obtain ⟨va1, vc1, vx1, Oa1, Oc1, Oo1, Ott, m1, m2⟩ := HNN.out.1.fed hfq; have M1 := Aside0.mk m1; have M2 := Aside0.mk m2; clear hfq m1 m2)
            have HB1 := Aside0.mk (broken.calls M1.out.pm)
            have HH1 := Aside0.mk (held.calls M1.out.pm)
            rw [HST.out.1] at HB1
            clear hk8 hk2 hk3 hk4 hk5 hk6 hk7
            by_cases hl : k + 1 = rest.length
            · have hlast := HST.out.2.2 (HLAST.out hl)
              rw [hlast.1] at HH1
              have hl1 : ((k : Int) + 1 == (rest.length : Int)) = true := by rw [show (k : Int) + 1 = (rest.length : Int) by omega]; exact beq_self_eq_true _
              by_cases hn0 : n = 0
              · have hX0 := hlast.2.1 hn0
                subst hn0
                subst hX0
                obtain ⟨Ao, co2, eo⟩ := M2.out.slice
                subst eo
                have HLI : Aside0 (k + 1 < rest.length → LivG.LI q1 (rest.drop (k + 1)) 0 ((u.length : Int) + ((k + 1 : Nat) : Int))) := ⟨fun h => absurd hl (by omega)⟩
                clear hlast hl
                go_wp2_with (first | (go_at_call 23; refine HH1.out.mono ?_; rintro e w6 ⟨rfl, rfl⟩) | (go_at_call 21; refine HB1.out.mono ?_; rintro e w6 ⟨rfl, rfl⟩) | (go_at_call 10; refine (num.calls _ _).mono ?_; rintro e w6 ⟨rfl, rfl⟩))
                have hin : Aside0 (LM W _ gp gr q1 va1 vc1 vx1 Oa1 Oc1 Oo1 rest ∧ k + 1 ≤ rest.length ∧ (k + 1 < rest.length → LivG.LI q1 (rest.drop (k + 1)) 0 ((u.length : Int) + ((k + 1 : Nat) : Int)))) := ⟨M1.out, HMS.out.1, HLI.out⟩
                refine ⟨?_, FinA.meas _ _ _ (Int.natCast_nonneg k) (by have := HMS.out.2; omega) (by first | rfl | omega)⟩
                first
                  | exact ⟨q1, va1, vc1, vx1, Oa1, Oc1, Oo1, k + 1, rfl, hin⟩
                  | ((repeat apply Exists.intro); exact ⟨⟨q1, va1, vc1, vx1, Oa1, Oc1, Oo1, k + 1, rfl, hin⟩, rfl⟩)
              · obtain ⟨x, hx, hxn⟩ := hlast.2.2 hn0
                subst hx
                subst hxn
                obtain ⟨gm, cm, y, Ox, e1, e2, e3, _⟩ := LAt.get RwR.fit M2.out (i := 0) (x := x) rfl
                replace e1 : _ = Value.slice (some ⟨gm, 0, none⟩) 1 cm := e1
                subst e1
                obtain ⟨Ax, cx, rfl⟩ := e3.slice
                obtain ⟨L, hL⟩ : ∃ L, L = x.length := ⟨_, rfl⟩
                rw [← hL] at e2 hn0 ⊢
                have hx1 : (0 : Int) < (L : Int) := by omega
                have HLI : Aside0 (k + 1 < rest.length → LivG.LI q1 (rest.drop (k + 1)) (x.length : Int) ((u.length : Int) + ((k + 1 : Nat) : Int))) := ⟨fun h => absurd hl (by omega)⟩
                have hL0 : ¬ L = 0 := by omega
                have hk10 : (k : Int) ≤ 100000 := by omega
                have HLE := Aside0.mk hL
                clear hlast hl e3 hL hn0 hub2 hul2 hsub hk9
                go_wp2_with (first | (go_at_call 23; refine HH1.out.mono ?_; rintro e w6 ⟨rfl, rfl⟩) | (go_at_call 21; refine HB1.out.mono ?_; rintro e w6 ⟨rfl, rfl⟩) | (go_at_call 10; refine (num.calls _ _).mono ?_; rintro e w6 ⟨rfl, rfl⟩))
                have hLL := HLE.out
                subst hLL
                have hin : Aside0 (LM W _ gp gr q1 va1 vc1 vx1 Oa1 Oc1 Oo1 rest ∧ k + 1 ≤ rest.length ∧ (k + 1 < rest.length → LivG.LI q1 (rest.drop (k + 1)) (x.length : Int) ((u.length : Int) + ((k + 1 : Nat) : Int)))) := ⟨M1.out, HMS.out.1, HLI.out⟩
                refine ⟨?_, FinA.meas _ _ _ (Int.natCast_nonneg k) (by have := HMS.out.2; omega) (by first | rfl | omega)⟩
                first
                  | exact ⟨q1, va1, vc1, vx1, Oa1, Oc1, Oo1, k + 1, rfl, hin⟩
                  | ((repeat apply Exists.intro); exact ⟨⟨q1, va1, vc1, vx1, Oa1, Oc1, Oo1, k + 1, rfl, hin⟩, rfl⟩)
            · have hlt : k + 1 < rest.length := by have := HMS.out.1; omega
              have hmore := HST.out.2.1 (HMORE.out hlt)
              have hX0 := hmore.1
              subst hX0
              rw [hmore.2.held] at HH1
              have HLI : Aside0 (k + 1 < rest.length → LivG.LI q1 (rest.drop (k + 1)) n ((u.length : Int) + ((k + 1 : Nat) : Int))) := ⟨fun _ => by rw [Int.natCast_succ, ← Int.add_assoc]; exact hmore.2⟩
              have hl1 : ((k : Int) + 1 == (rest.length : Int)) = false := beq_false_of_ne (by omega)
              obtain ⟨Ao, co2, eo⟩ := M2.out.slice
              subst eo
              clear hmore hl hlt
              go_wp2_with (first | (go_at_call 23; refine HH1.out.mono ?_; rintro e w6 ⟨rfl, rfl⟩) | (go_at_call 21; refine HB1.out.mono ?_; rintro e w6 ⟨rfl, rfl⟩) | (go_at_call 10; refine (num.calls _ _).mono ?_; rintro e w6 ⟨rfl, rfl⟩))
              have hin : Aside0 (LM W _ gp gr q1 va1 vc1 vx1 Oa1 Oc1 Oo1 rest ∧ k + 1 ≤ rest.length ∧ (k + 1 < rest.length → LivG.LI q1 (rest.drop (k + 1)) n ((u.length : Int) + ((k + 1 : Nat) : Int)))) := ⟨M1.out, HMS.out.1, HLI.out⟩
              refine ⟨?_, FinA.meas _ _ _ (Int.natCast_nonneg k) (by have := HMS.out.2; omega) (by first | rfl | omega)⟩
              first
                | exact ⟨q1, va1, vc1, vx1, Oa1, Oc1, Oo1, k + 1, rfl, hin⟩
                | ((repeat apply Exists.intro); exact ⟨⟨q1, va1, vc1, vx1, Oa1, Oc1, Oo1, k + 1, rfl, hin⟩, rfl⟩)
          · have hke : ¬ (k : Int) < (rest.length : Int) := by omega
            have HBE := Aside0.mk HNN.out.1.bel
            clear hk
            go_wp2_with fail
            go_ret
            exact ⟨rfl, HBE.out⟩
      · have hb42 : (c0 != 42) = true := by simpa using h42
        clear h42
        go_wp2_with (first | (go_at_call 23; refine HHL.out.mono ?_; rintro e w6 ⟨rfl, rfl⟩) | (go_at_call 21; refine HBK.out.mono ?_; rintro e w6 ⟨rfl, rfl⟩) | (go_at_call 10; refine (num.calls _ _).mono ?_; rintro e w6 ⟨rfl, rfl⟩))
        go_ret
        exact ⟨rfl, HW2.out⟩
  · have hh0 := HPB.out.2 hE0
    rw [hh0] at HHL
    obtain ⟨E, hE⟩ : ∃ E, E = P.broken := ⟨_, rfl⟩
    rw [← hE] at HBK hE0
    clear hE hh0
    go_wp2_with (first | (go_at_call 23; refine HHL.out.mono ?_; rintro e w6 ⟨rfl, rfl⟩) | (go_at_call 21; refine HBK.out.mono ?_; rintro e w6 ⟨rfl, rfl⟩) | (go_at_call 10; refine (num.calls _ _).mono ?_; rintro e w6 ⟨rfl, rfl⟩))
    go_ret
    exact ⟨rfl, HW2.out⟩
end Go.Proofs.Ytfdkcnbkoagmiaa.LivW
end

section
namespace Go.Proofs.Ytfdkcnbkoagmiaa.LawWireLive
open Go.ChangeShapes Go.WideShapes Go.ChangeAt Go.RowKit
theorem own : ownKnob Try.prog.godebug = none := by kernel_rfl
theorem laidOut : laidOutB Try.prog = true := by kernel_rfl
set_option maxRecDepth 100000 in
theorem contract (H : Type) (enc : TypeId × Value → H) (W : World) (base : Nat) (args : Array Value) (ds gs : List (DataW H)) (before : List MemPlace)
    (hval0 : ∀ (j : Nat) t v, Try.f6.params[j]? = some t → args[j]? = some v → Value.okWide Try.prog W .any base t v)
    (hW : DataW.Whole enc Try.prog Try.f6.params.toList Rows.wireLiveSpec.vars false W args.toList ds gs before)
    (hsz0 : (DataW.weightsEach Try.prog (Try.f6.params.toList ++ (OpenSpec.ofChange Rows.wireLiveSpec).bare.plain.varTypes Try.prog) (ds ++ gs)).all (· ≤ reachBytes) = true) (hL : laidMetH Try.prog Rows.wireLiveUptoRow.laid W) (hk : Rows.uptoSmall H (ds ++ gs) = true) :
    Calls Try.prog 6 args W fun e W' => ∃ v, e = .returned v ∧ Rows.wireLiveSpec.post enc Try.prog Try.f6 false true false false W args v W' := by
  have hsz : (DataW.weightsEach Try.prog (Try.f6.params.toList ++ Rows.wireLiveSpec.plain.varTypes Try.prog) (ds ++ gs)).all (· ≤ reachBytes) = true := hsz0
  have hval : ∀ (j : Nat) t v, Try.f6.params[j]? = some t → args[j]? = some v → Value.okWide Try.prog W .any base t v := hval0
  have hW' := hW
  obtain ⟨p, q, hA0, hV, rfl, _, _⟩ := hW
  have hA : DataW.TrodAll enc Try.prog W 0 (fun _ => true) true Try.f6.params.toList args.toList ds p := hA0
  rw [Try.params6] at hA hval hsz
  obtain ⟨v0, vs0, d0, ds0, p0, q0, hargs, rfl, rfl, h0, r0⟩ := trodAll_cons hA
  obtain ⟨rfl, rfl, rfl⟩ := trodAll_nil r0
  obtain rfl : args = #[v0] := by cases args; simp_all
  obtain ⟨rfl, rfl⟩ := trodVars_none hV
  have k0 := h0
  have lt0 : ∀ x ∈ p0, x.block < W.heap.size := by obtain ⟨m, hm⟩ := k0; exact DataW.trod_lt m _ _ _ hm
  have hk0 : Rows.uptoBulkAll [d0] ≤ 1048576 := OpenB.bound (by simpa only [List.append_nil] using hk)
  obtain ⟨y, hK, hg⟩ := OpenB.open_arg StrB.b_str hsz (j := 0) rfl rfl hk0 h0
  obtain ⟨ca, rfl, _⟩ := okWide_struct Try.underlying73 (hval 0 _ v0 rfl rfl)
  clear hA0 hval0 hsz0 hsz
  refine (LivW.walk y ca W hK hg).mono fun e W' ⟨he, bel⟩ => ?_
  subst he
  exact ⟨_, rfl, _, _, _, [], _, [], hW', trodAll_mk1 (shut_bool Try.underlying4 _), (trodAll_cons_mk (Below.trod laidOut (by kernel_rfl) (of_decide_eq_true (by kernel_rfl)) k0 bel lt0) trodAll_mk0), rfl, bel.frame _, fun h => by cases h⟩
noncomputable def laidWorld (os : Os) : World := World.holding Try.prog os ⟨#[], #[], []⟩
theorem laid_met (os : Os) : laidMet Try.prog Rows.wireLiveUptoRow.laid ((laidWorld os).forCall (fun _ _ => 0) ⟨#[], #[.agg #[.slice none 0 0, .slice none 0 0]], []⟩).memory :=
  laidMet_of_run' 8 (by kernel_rfl) (by kernel_rfl)
theorem reads (os : Os) {H : Type} (enc : TypeId × Value → H) : ∃ places, DataW.whole enc Try.prog ((laidWorld os).forCall (fun _ _ => 0) ⟨#[], #[.agg #[.slice none 0 0, .slice none 0 0]], []⟩).memory Try.f6.params.toList Rows.wireLiveSpec.vars false (#[.agg #[.slice none 0 0, .slice none 0 0]] : Array Value).toList 8 = some ([.agg [.nil, .nil]], [], places) :=
  ⟨[], by kernel_rfl⟩
set_option maxRecDepth 100000 in
theorem lifted (os : Os) (started : os.Started) (H : Type) (enc : TypeId × Value → H) (F : Stop.Interp) :
    ReturnsInHanded {} Try.checked os 6 .any ((Rows.OpenSpec.upto Rows.wireLiveSpec).preRow enc Try.prog Try.f6 Rows.wireLiveUptoRow.domain false Rows.wireLiveUptoRow.laid) (((Rows.OpenSpec.upto Rows.wireLiveSpec).at F).post enc Try.prog Try.f6 false true false false) := by
  obtain ⟨places, hx⟩ := reads os enc
  refine returnsInHanded_of_row (C := Try.checked) (s := Rows.OpenSpec.upto Rows.wireLiveSpec) own started (by kernel_rfl) Try.func6
    (witness_row_at (enc := enc) (C := Try.checked) false (laidWorld os) #[.agg #[.slice none 0 0, .slice none 0 0]] rfl (by kernel_rfl) (by kernel_rfl) (by kernel_rfl)
      (OpenSpec.preRow_of_cond 8 hx (by kernel_rfl) (fun k hk => by cases hk; kernel_rfl) (by kernel_rfl) (laid_met os))) ?_
  intro W base args ds gs before hval hW _ hcond hsz hL _ _
  exact contract H enc W base args ds gs before hval hW hsz hL (hcond _ rfl)
theorem said : Rows.WireLiveUptoSaid :=
  OpenClaim.holds_of_cond 6 Try.f6 rfl rfl rfl rfl rfl rfl rfl ⟨rfl, rfl, rfl, rfl, rfl⟩ rfl rfl rfl rfl rfl (by kernel_rfl) Try.func6 (by kernel_rfl)
    (of_decide_eq_true (by kernel_rfl)) (by unfold Func.isWrapper; first | (rw [if_pos (by decide +kernel)]; kernel_rfl) | (rw [if_neg (by decide +kernel)]; exact ⟨rfl, rfl⟩))
    (fun os started H enc _ F => by rw [OpenClaim.pre_eq_preRow]; exact lifted os started H enc F)
#print axioms said
end Go.Proofs.Ytfdkcnbkoagmiaa.LawWireLive
namespace Go.Proofs.Ytfdkcnbkoagmiaa
theorem wireLive_holds : Rows.WireLiveUptoSaid := LawWireLive.said
end Go.Proofs.Ytfdkcnbkoagmiaa
end
