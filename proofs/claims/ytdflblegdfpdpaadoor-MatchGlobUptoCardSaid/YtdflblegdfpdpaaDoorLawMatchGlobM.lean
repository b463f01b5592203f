-- JOINED by tailmerge2.py: OpenB AppG WriteW FitW PartW PartB AskB AnsG LawMatchGlob
import Derived.Test.YtdflblegdfpdpaaDoorLawMatchGlobM1
import Derived.Test.YtdflblegdfpdpaaDoorOpen
import Derived.Test.YtdflblegdfpdpaaDoorRows
import Derived.OpenShut
import Derived.SizedLaws
import Derived.ChangeSlices
import Derived.DataElems
import Derived.Test.YtdflblegdfpdpaaDoorAppF
import Derived.Test.YtdflblegdfpdpaaDoorAskW
import Derived.Test.YtdflblegdfpdpaaDoorHeldW
import Derived.Deep.DeepCutAuto
import Derived.Deep.CutRange
import Derived.Deep.DeepAppendWide
import Derived.Laws.Tables
import Derived.Laws.Cells
import Derived.Laws.CopyOwn
import Derived.Test.YtdflblegdfpdpaaDoorGlobG
import Derived.Deep.RegionHeld3
import Derived.Test.YtdflblegdfpdpaaDoorCards
import Derived.Test.YtdflblegdfpdpaaDoorTie
import Derived.WalkKit
import Derived.ProofKit
import Derived.ShutString
import Derived.ChangeOld
import Derived.Below
import Derived.Deep.DeepHandedRow
import Derived.Lib.LaidTab

section
/- Opening an argument of the second form: as Open, with the bulk's bound (1,048,576) handed inwards; a slice's length is within it. No function of the program. -/
namespace Go.Proofs.YtdflblegdfpdpaaDoor.OpenB
open Go Go.RowKit Go.ChangeShapes Go.Proofs.YtdflblegdfpdpaaDoorW.PrintWords Go.Proofs.YtdflblegdfpdpaaDoor.Open

/-- What is read as data of type t, with at most F steps inwards, is of kind kd. -/
structure OpensAt {α : Type} (F : Nat) (P : Program) (t : TypeId) (kd : Kd α) (good : α → Prop) : Prop where
  sz : kd.sz = P.cellsOf t
  op : ∀ {H : Type} {enc : TypeId × Value → H} {W : World} {base : Nat} {spare : Nat → Bool} {held : Bool} {fuel : Nat} {cs : List Value} {x : DataW H × List MemPlace},
    fuel ≤ F → DataW.trod enc P W base spare held fuel t cs = some x → (∀ m ∈ x.1.weights P t, m ≤ reachBytes) → Rows.uptoBulk x.1 ≤ 1048576 → ∃ y : α, kd.K W y cs ∧ good y

def Opens {α : Type} (P : Program) (t : TypeId) (kd : Kd α) (good : α → Prop) : Prop := ∀ F, OpensAt F P t kd good

theorem one_le {H : Type} (d : DataW H) : 1 ≤ Rows.uptoBulk d := by
  cases d with
  | lit l => cases l <;> simp [Rows.uptoBulk]
  | nil => simp [Rows.uptoBulk]
  | ptr d => simp [Rows.uptoBulk]
  | slice elems spare => simp [Rows.uptoBulk]
  | agg parts => simp [Rows.uptoBulk]
  | iface t d => simp [Rows.uptoBulk]
  | map entries => simp [Rows.uptoBulk]
  | held h => simp [Rows.uptoBulk]
theorem part_le {H : Type} {d : DataW H} {l : List (DataW H)} (h : d ∈ l) : Rows.uptoBulk d ≤ Rows.uptoBulkAll l := by
  induction l with
  | nil => cases h
  | cons x r ih =>
    simp only [Rows.uptoBulkAll]
    cases List.mem_cons.1 h with
    | inl e => subst e; omega
    | inr e => have := ih e; omega
theorem length_le {H : Type} (l : List (DataW H)) : l.length ≤ Rows.uptoBulkAll l := by
  induction l with
  | nil => simp [Rows.uptoBulkAll]
  | cons x r ih => have := one_le x; simp only [Rows.uptoBulkAll, List.length_cons]; omega
theorem slice_le {H : Type} (elems spare : List (DataW H)) : Rows.uptoBulkAll elems + 1 ≤ Rows.uptoBulk (.slice elems spare) := by
  simp only [Rows.uptoBulk]
  omega
theorem bound {H : Type} {l : List (DataW H)} (hk : Rows.uptoSmall H l = true) : Rows.uptoBulkAll l ≤ 1048576 := of_decide_eq_true hk

variable {P : Program} {t e : TypeId} {F : Nat}

theorem at_int {k : IntKind} (hu : P.underlying t = some (.int k)) (hc : P.cellsOf t = 1) : OpensAt F P t (Kd.int k) (fun x => (Lit.int k x).wf = true) where
  sz := hc.symm
  op := fun _ h _ _ => by
    obtain ⟨n, rfl, _, hw⟩ := DataW.trod_int hu h
    exact ⟨n, rfl, hw⟩

theorem at_bool (hu : P.underlying t = some .bool) (hc : P.cellsOf t = 1) : OpensAt F P t Kd.bool (fun _ => True) where
  sz := hc.symm
  op := fun _ h _ _ => by
    obtain ⟨n, rfl, _⟩ := DataW.trod_bool hu h
    exact ⟨n, rfl, trivial⟩

/-- The bound on a slice's length, and its elements. -/
def GoodB {α : Type} (B : Nat) (g : α → Prop) (ys : List α) : Prop := ys.length ≤ 1048576 ∧ GoodL B g ys

theorem at_slice {α : Type} {kd : Kd α} {g : α → Prop} {B : Nat} (hu : P.underlying t = some (.slice e)) (hc : P.cellsOf t = 1) (hB : P.bytesOf e = B) (he : OpensAt F P e kd g) :
    OpensAt (F + 1) P t (Kd.slice e kd) (GoodB B g) where
  sz := hc.symm
  op := by
    intro H enc W base spare held fuel cs x hf h hw hk
    rcases DataW.trod_slice hu h with ⟨rfl, rfl⟩ | ⟨a, len, cap, elems, rest, n, rfl, rfl, rfl, hb, hl, hm, hlen, hel, _⟩
    · exact ⟨[], ⟨none, 0, rfl, Nat.le_refl _, Kd.C_nil kd W⟩, by simp [GoodB, GoodL]⟩
    · have hwt : ∀ m ∈ (elems.length + rest.length) * P.bytesOf e :: (DataW.weightsAll P e (elems.map (·.1)) ++ DataW.weightsAll P e (rest.map (·.1))), m ≤ reachBytes := by
        intro m hm'
        refine hw m ?_
        show m ∈ DataW.weights P t (DataW.slice (elems.map (·.1)) (rest.map (·.1)))
        simp only [DataW.weights, hu, List.length_map]
        exact hm'
      have each : ∀ i, i < len → ∃ y, g y ∧ ∃ c, c.length = kd.sz ∧ kd.K W y c ∧ ∀ j u, c[j]? = some u → W.cell? (a.add (i * kd.sz + j)) = some u := by
        intro i hi
        have h1 := hel i hi
        obtain ⟨x1, hx1⟩ : ∃ x1, elems[i]? = some x1 := ⟨elems[i]'(by omega), List.getElem?_eq_getElem (by omega)⟩
        rw [hx1, Option.bind_eq_some_iff] at h1
        obtain ⟨c, hcs, htr⟩ := h1
        obtain ⟨y, hy, hg⟩ := he.op (by omega) htr (fun m hm' => hwt m (List.mem_cons_of_mem _ (List.mem_append_left _
          (weightsAll_mem (List.mem_map.2 ⟨x1, List.mem_of_getElem? hx1, rfl⟩) m hm'))))
          (Nat.le_trans (part_le (List.mem_map.2 ⟨x1, List.mem_of_getElem? hx1, rfl⟩)) (Nat.le_of_succ_le (Nat.le_trans (slice_le _ _) hk)))
        refine ⟨y, hg, c, kd.K_len hy, hy, fun j u hj => ?_⟩
        unfold World.cells? at hcs
        split at hcs
        · have hjl : j < c.length := (List.getElem?_eq_some_iff.1 hj).1
          have hcl := kd.K_len hy
          have := mapM_some_get hcs j j (List.getElem?_range (by rw [← he.sz]; omega))
          rw [hj, Addr.add_add, ← he.sz] at this
          exact this
        · cases hcs
      obtain ⟨ys, hyl, hys⟩ := choose_list len _ each
      refine ⟨ys, ⟨some a, cap, by rw [hyl], by omega, ?_⟩, ?_, ?_, ?_⟩
      · refine ⟨rfl, by simp only [maxLen] at hm; omega, fun _ => ⟨a, rfl, fun j p hp => ?_⟩⟩
        obtain ⟨_, c, h1, h2, h3⟩ := hys j p hp
        exact ⟨c, h1, h2, h3⟩
      · have h1 := length_le (elems.map (·.1))
        have h2 := slice_le (elems.map (·.1)) (rest.map (·.1))
        rw [List.length_map] at h1
        have hk' : Rows.uptoBulk (DataW.slice (elems.map (·.1)) (rest.map (·.1))) ≤ 1048576 := hk
        omega
      · have := hwt _ (List.mem_cons_self ..)
        rw [hB] at this
        rw [hyl, ← hlen]
        have h2 : elems.length * B ≤ (elems.length + rest.length) * B := Nat.mul_le_mul_right _ (by omega)
        simp only [reachBytes] at this
        omega
      · intro y hy
        obtain ⟨i, hi⟩ := List.getElem?_of_mem hy
        exact (hys i y hi).1

/-- The fields of a struct, from the cell o on. -/
def FieldsAt {α : Type} (F : Nat) (P : Program) (fs : List Field) (o : Nat) (kd : Kd α) (good : α → Prop) : Prop :=
  ∀ {H : Type} {enc : TypeId × Value → H} {W : World} {base : Nat} {spare : Nat → Bool} {held : Bool} {n : Nat} {cs : List Value} {xs : List (DataW H × List MemPlace)},
    n ≤ F → cs.length = o + kd.sz → xs.length = fs.length →
    (∀ (i : Nat) (f : Field), fs[i]? = some f → DataW.trod enc P W base spare held n f.type ((cs.drop f.offset).take (P.cellsOf f.type)) = xs[i]?) →
    (∀ m ∈ DataW.weightsEach P (fs.map (·.type)) (xs.map (·.1)), m ≤ reachBytes) → Rows.uptoBulkAll (xs.map (·.1)) ≤ 1048576 → ∃ y : α, kd.K W y (cs.drop o) ∧ good y

theorem fields_one {α : Type} {f : Field} {o : Nat} {kd : Kd α} {g : α → Prop} (ho : f.offset = o) (h : OpensAt F P f.type kd g) : FieldsAt F P [f] o kd g := by
  intro H enc W base spare held n cs xs hn hl hx hf hw hk
  have h1 := hf 0 f rfl
  match xs, hx with
  | [x], _ =>
    rw [ho, List.take_of_length_le (by rw [List.length_drop, ← h.sz]; omega)] at h1
    exact h.op hn h1 (fun m hm => hw m (by simp only [List.map, DataW.weightsEach]; exact List.mem_append_left _ hm)) (Nat.le_trans (part_le (by simp)) hk)

theorem fields_cons {α β : Type} {f : Field} {fs : List Field} {o : Nat} {kd : Kd α} {kd' : Kd β} {g : α → Prop} {g' : β → Prop} (ho : f.offset = o) (h : OpensAt F P f.type kd g)
    (h' : FieldsAt F P fs (o + kd.sz) kd' g') : FieldsAt F P (f :: fs) o (Kd.pair kd kd') (fun y => g y.1 ∧ g' y.2) := by
  intro H enc W base spare held n cs xs hn hl hx hf hw hk
  match xs, hx with
  | x :: xs, hx =>
    have h1 := hf 0 f rfl
    rw [ho] at h1
    obtain ⟨y, hy, hg⟩ := h.op hn h1 (fun m hm => hw m (by simp only [List.map, DataW.weightsEach]; exact List.mem_append_left _ hm)) (Nat.le_trans (part_le (by simp)) hk)
    have hsz : (Kd.pair kd kd').sz = kd.sz + kd'.sz := rfl
    obtain ⟨z, hz, hg'⟩ := h' (xs := xs) hn (by rw [hl, hsz]; omega) (by simpa using hx) (fun i f' hf' => by simpa using hf (i + 1) f' (by simpa using hf'))
      (fun m hm => hw m (by simp only [List.map, DataW.weightsEach]; exact List.mem_append_right _ hm)) (by
      simp only [List.map, Rows.uptoBulkAll] at hk
      omega)
    refine ⟨(y, z), ⟨_, _, ?_, hy, hz⟩, hg, hg'⟩
    rw [← h.sz, ← List.drop_drop, List.take_append_drop]

theorem at_struct {α : Type} {fs : Array Field} {fl : List Field} {kd : Kd α} {g : α → Prop} (hu : P.underlying t = some (.struct fs)) (hl : fs.toList = fl) (hc : P.cellsOf t = kd.sz) (h : FieldsAt F P fl 0 kd g) : OpensAt (F + 1) P t kd g where
  sz := hc.symm
  op := by
    intro H enc W base spare held fuel cs x hf h0 hw hk
    obtain ⟨xs, n, rfl, rfl, hcl, hxl, hx⟩ := DataW.trod_struct hu h0
    have := h (xs := xs) (n := n) (by omega) (by rw [hcl, hc]; omega) (by rw [hxl, ← hl]; simp) (fun i f hf => hx i f (by rw [← hl] at hf; simpa using hf)) (fun m hm => hw m (by
      simp only [DataW.weights, hu]
      rw [hl]
      exact hm)) (by
      simp only [Rows.uptoBulk] at hk
      omega)
    simpa using this

theorem OpensAt.good_imp {α : Type} {kd : Kd α} {g g' : α → Prop} (h : OpensAt F P t kd g) (hg : ∀ x, g x → g' x) : OpensAt F P t kd g' where
  sz := h.sz
  op := fun hf h0 hw hk => by
    obtain ⟨y, hy, hgy⟩ := h.op hf h0 hw hk
    exact ⟨y, hy, hg y hgy⟩

theorem OpensAt.weaken {α : Type} {kd : Kd α} {g : α → Prop} (h : OpensAt (F + 1) P t kd g) : OpensAt F P t kd g where
  sz := h.sz
  op := fun hf h0 hw hk => h.op (Nat.le_succ_of_le hf) h0 hw hk

theorem opens_int {k : IntKind} (hu : P.underlying t = some (.int k)) (hc : P.cellsOf t = 1) : Opens P t (Kd.int k) (fun x => (Lit.int k x).wf = true) := fun _ => at_int hu hc
theorem opens_bool (hu : P.underlying t = some .bool) (hc : P.cellsOf t = 1) : Opens P t Kd.bool (fun _ => True) := fun _ => at_bool hu hc
theorem opens_slice {α : Type} {kd : Kd α} {g : α → Prop} {B : Nat} (hu : P.underlying t = some (.slice e)) (hc : P.cellsOf t = 1) (hB : P.bytesOf e = B) (he : Opens P e kd g) :
    Opens P t (Kd.slice e kd) (GoodB B g) := fun F => (at_slice hu hc hB (he F)).weaken
def Fields {α : Type} (P : Program) (fs : List Field) (o : Nat) (kd : Kd α) (good : α → Prop) : Prop := ∀ F, FieldsAt F P fs o kd good
theorem fields1 {α : Type} {f : Field} {o : Nat} {kd : Kd α} {g : α → Prop} (ho : f.offset = o) (h : Opens P f.type kd g) : Fields P [f] o kd g := fun F => fields_one ho (h F)
theorem fields2 {α β : Type} {f : Field} {fs : List Field} {o : Nat} {kd : Kd α} {kd' : Kd β} {g : α → Prop} {g' : β → Prop} (ho : f.offset = o) (h : Opens P f.type kd g)
    (h' : Fields P fs (o + kd.sz) kd' g') : Fields P (f :: fs) o (Kd.pair kd kd') (fun y => g y.1 ∧ g' y.2) := fun F => fields_cons ho (h F) (h' F)
theorem opens_struct {α : Type} {fs : Array Field} {fl : List Field} {kd : Kd α} {g : α → Prop} (hu : P.underlying t = some (.struct fs)) (hl : fs.toList = fl) (hc : P.cellsOf t = kd.sz) (h : Fields P fl 0 kd g) : Opens P t kd g :=
  fun F => (at_struct hu hl hc (h F)).weaken

/-- An argument, opened. -/
theorem open_arg {α : Type} {kd : Kd α} {g : α → Prop} (h : ∀ F, OpensAt F P t kd g) {H : Type} {enc : TypeId × Value → H} {W : World} {base : Nat} {spare : Nat → Bool} {held : Bool} {v : Value} {d : DataW H} {ps : List MemPlace}
    {ts : List TypeId} {ds : List (DataW H)} {j : Nat} (hsz : (DataW.weightsEach P ts ds).all (· ≤ reachBytes) = true) (ht : ts[j]? = some t) (hd : ds[j]? = some d) (hk : Rows.uptoBulkAll ds ≤ 1048576)
    (hr : DataW.Trod enc P W base spare held t v d ps) : ∃ y : α, kd.K W y v.cells.toList ∧ g y := by
  obtain ⟨fuel, hf⟩ := hr
  exact (h fuel).op (Nat.le_refl _) hf (fun m hm => by
    have := List.all_eq_true.1 hsz m (DataW.weights_mem_each ht hd m hm)
    simpa using this) (Nat.le_trans (part_le (List.mem_of_getElem? hd)) hk)

end Go.Proofs.YtdflblegdfpdpaaDoor.OpenB
end

section
/- append onto a list of bytes that is the call's own, or has no room. No function of the program. -/
namespace Go.Proofs.YtdflblegdfpdpaaDoor.AppG
open Go Go.RowKit Go.Proofs.YtdflblegdfpdpaaDoorW.PrintWords Go.Proofs.YtdflblegdfpdpaaDoorW.PrintLast Go.Proofs.YtdflblegdfpdpaaDoorW.PrintMore Go.Proofs.YtdflblegdfpdpaaDoor.AppF
set_option linter.unusedVariables false
set_option maxRecDepth 100000

/-- The call's own row, or a list without room. -/
def Own (W : World) (base : Nat) (v : Value) (l : List Int) : Prop :=
  Kd.R (Kd.int .u8) 5 W base (fun _ => True) v l ∨ ∃ ad, v = .slice (some ad) l.length l.length ∧ Kd.C (Kd.int .u8) W (some ad) l.length l
theorem Own.reads {W : World} {base : Nat} {v : Value} {l : List Int} (h : Own W base v l) : ∃ A c, v = .slice A l.length c ∧ l.length ≤ c ∧ Kd.C (Kd.int .u8) W A l.length l := by
  rcases h with h | ⟨ad, rfl, hC⟩
  · exact Kd.R_reads h
  · exact ⟨_, _, rfl, Nat.le_refl _, hC⟩
theorem Own.below {W W' : World} {base : Nat} {v : Value} {l : List Int} (h : Own W base v l) (hb : Below W.heap.size W W') : Own W' base v l := by
  rcases h with h | ⟨ad, rfl, hC⟩
  · exact .inl (Kd.R_below h hb)
  · exact .inr ⟨ad, rfl, Kd.C_below hC hb⟩
theorem wpList_append_any {ops : Array Oper} {rest : List Oper} {o : Oper} {a : Act} {w0 W : World} {Q : Exit → Act → World → Prop} (base : Nat)
    (hg : o.guard = none) (s x : Operand) (hop : o.op = Op.call { callee := Callee.builtin Builtin.append, args := #[s, x], argTypes := #[22, 22] })
    (v : Value) (l1 : List Int) (hs : a.eval s = v) (HO : Own W base v l1)
    (Ax : Option Addr) (c : Nat) (l2 : List Int) (hx : a.eval x = .slice Ax l2.length c) (hC2 : Kd.C (Kd.int .u8) W Ax l2.length l2) (HB : Below base w0 W) (hbase : base ≤ W.heap.size) (h0 : 0 < l2.length) (hb : l1.length + l2.length ≤ 100000000000000) (l3 : List Int) (h3 : l3 = l1 ++ l2)
    (hK : ∀ v' w', Own w' base v' l3 → Below base w0 w' → wpList Tryd.prog ops Q rest (a.put o.dst v') w') :
    wpList Tryd.prog ops Q (o :: rest) a W := by
  subst h3
  rcases HO with HO | ⟨As, rfl, hC1⟩
  · refine Kd.R_append_rows (Kd.int .u8) (w0 := w0) base hg s x 22 5 (.int .u8 0) 1 hop Tryd.underlying22 PB.spi rfl (by decide) (by omega) v l1 l2 _ _ _ (fun _ => True) (fun _ => False) hs hx ?aO ?aR (fun _ _ h => h) (fun _ h => h.elim) ?aF ?aB ?aS ?aL ?_
    case aO => exact HO
    case aR => exact hC2
    case aF => exact fun _ _ => trivial
    case aB => exact HB
    case aS => exact hbase
    case aL => omega
    intro v' w' ho hb' _ _
    exact hK v' w' (.inl ho) hb'
  · obtain ⟨ad, hAx, _⟩ := Kd.at_int hC2 (0 : Int) (by omega) (by omega)
    subst hAx
    obtain ⟨i, hi, z0, z1, z2⟩ := infoB
    refine wpList_append_grows W hg s x 22 hop 5 i (.int .u8 0) 1 1 Tryd.underlying22 hi z0 z1 z2 rfl (by decide) (some As) l1.length l1.length (l1.map (Value.int .u8)) hs (fun h => by cases h) (by simp) (fun b hb' => by obtain rfl := Option.some.inj hb'; exact cells_of hC1)
      ad l2.length c (l2.map (Value.int .u8)) hx (by simp) (cells_of hC2) (fun u hu => by obtain ⟨y, _, rfl⟩ := List.mem_map.1 hu; rfl) (by omega) (by unfold maxLen; omega) (by omega) ?_
    intro v' w' ho hgr
    have hB : Below W.heap.size W w' := (Below.refl _ W).grown hgr (Nat.le_refl _) (by intro k hk; simp at hk)
    have ho' : w'.ownsRow W.heap.size 5 1 v' (l1 ++ l2).length (encs (Value.int .u8) (l1 ++ l2)) := by
      rw [List.length_append, show encs (Value.int .u8) (l1 ++ l2) = l1.map (Value.int .u8) ++ l2.map (Value.int .u8) by simp [encs]]
      exact ho
    exact hK v' w' (.inl (Kd.R_lower (Kd.R_of_own (h1 := fun _ => rfl) ho' (ok := fun _ => True) (fun _ _ => trivial)) hbase))
      (HB.trans ⟨hB.os, hB.tape, hB.output, hB.size, fun k hk => hB.block k (Nat.lt_of_lt_of_le hk hbase)⟩)
end Go.Proofs.YtdflblegdfpdpaaDoor.AppG
end

section
/- larderlaw9.spell and write: the machine's calls. -/
namespace Go.Proofs.YtdflblegdfpdpaaDoor.WriteW
open Go Go.RowKit Go.Proofs.YtdflblegdfpdpaaDoorW.PrintWords Go.Proofs.YtdflblegdfpdpaaDoorW.PrintLast Go.Proofs.YtdflblegdfpdpaaDoorW.PrintMore Go.Proofs.YtdflblegdfpdpaaDoor.HeldW Go.Proofs.YtdflblegdfpdpaaDoor.ScoreW Go.Proofs.YtdflblegdfpdpaaDoor.AppG Go.Proofs.YtdflblegdfpdpaaDoor.ClassS Go.Proofs.YtdflblegdfpdpaaDoor.AskW
set_option linter.unusedVariables false
set_option maxRecDepth 100000

/-- A list of bytes is given back. -/
def Gives (w : World) (l : List Int) (e : Ending) (w' : World) : Prop := ∃ A c, e = .returned (.slice A l.length c) ∧ l.length ≤ c ∧ Kd.C (Kd.int .u8) w' A l.length l ∧ Below w.heap.size w w'

set_option maxHeartbeats 1600000 in
theorem spell.calls (b : Int) (plain : Bool) (w : World) : Calls Tryd.prog 29 #[.int .u8 b, .bool plain] w fun e w' => Gives w (spellL b plain) e w' := by
  have one : ∀ f, Kd.C (Kd.int .u8) (w.alloc (.cells #[.int .u8 b] 5 f)) (some ⟨w.heap.size, 0, none⟩) 1 [b] := fun f => got_const w _ rfl [b] f (by simp)
  have two : ∀ f, Kd.C (Kd.int .u8) (w.alloc (.cells #[.int .u8 92, .int .u8 b] 5 f)) (some ⟨w.heap.size, 0, none⟩) 2 [92, b] := fun f => got_const w _ rfl [92, b] f (by simp)
  have H1 := Aside0.mk one
  have H2 := Aside0.mk two
  clear one two
  cases plain with
  | false =>
    have e : spellL b false = [92, b] := by simp [spellL]
    rw [e]
    go_enter Tryd.func29, Tryd.ntmps29
    go_wp2
    go_ret
    exact ⟨_, _, rfl, by simp, H2.out _, below_alloc (Below.refl _ _) _⟩
  | true =>
    by_cases h1 : b = 92
    · subst h1
      have e : spellL 92 true = [92, 92] := by rfl
      rw [e]
      go_enter Tryd.func29, Tryd.ntmps29
      go_wp2
      go_ret
      exact ⟨_, _, rfl, by simp, H2.out _, below_alloc (Below.refl _ _) _⟩
    by_cases h2 : b = 93
    · subst h2
      have e : spellL 93 true = [92, 93] := by rfl
      rw [e]
      go_enter Tryd.func29, Tryd.ntmps29
      go_wp2
      go_ret
      exact ⟨_, _, rfl, by simp, H2.out _, below_alloc (Below.refl _ _) _⟩
    by_cases h3 : b = 45
    · subst h3
      have e : spellL 45 true = [92, 45] := by rfl
      rw [e]
      go_enter Tryd.func29, Tryd.ntmps29
      go_wp2
      go_ret
      exact ⟨_, _, rfl, by simp, H2.out _, below_alloc (Below.refl _ _) _⟩
    by_cases h4 : b = 94
    · subst h4
      have e : spellL 94 true = [92, 94] := by rfl
      rw [e]
      go_enter Tryd.func29, Tryd.ntmps29
      go_wp2
      go_ret
      exact ⟨_, _, rfl, by simp, H2.out _, below_alloc (Below.refl _ _) _⟩
    have e : spellL b true = [b] := by simp [spellL, h1, h2, h3, h4]
    rw [e]
    have b1 : (b == 92) = false := by simpa using h1
    have b2 : (b == 93) = false := by simpa using h2
    have b3 : (b == 45) = false := by simpa using h3
    have b4 : (b == 94) = false := by simpa using h4
    have n1 : (b != 92) = true := by simpa using h1
    have n2 : (b != 93) = true := by simpa using h2
    have n3 : (b != 45) = true := by simpa using h3
    have n4 : (b != 94) = true := by simpa using h4
    go_enter Tryd.func29, Tryd.ntmps29
    go_wp2
    go_ret
    exact ⟨_, _, rfl, by simp, H1.out _, below_alloc (Below.refl _ _) _⟩

abbrev MemT := Int × Int × Bool × Bool
/-- Lo, Hi, Range, Plain -/
def kMem : Kd MemT := Kd.pair (Kd.int .u8) (Kd.pair (Kd.int .u8) (Kd.pair Kd.bool Kd.bool))
def toM (y : MemT) : Mem := ⟨y.1, y.2.1, y.2.2.1, y.2.2.2⟩
def toP (d b : Int) (neg : Bool) (l : List MemT) : Pie := ⟨d, b, neg, l.map toM⟩
theorem mem_cells {w : World} {ad : Addr} {n : Nat} {l : List MemT} (h : kMem.C w (some ad) n l) (i : Nat) (y : MemT) (hy : l[i]? = some y) :
    ∀ j u, ([.int .u8 y.1, .int .u8 y.2.1, .bool y.2.2.1, .bool y.2.2.2] : List Value)[j]? = some u → w.cell? ((ad.add (i * 4)).add j) = some u := by
  obtain ⟨hi, hp'⟩ := List.getElem?_eq_some_iff.1 hy
  have hn : l.length = n := h.1
  obtain ⟨ad', c, hh, hc, hK, hcells⟩ := Kd.C_get h y (i : Int) (by omega) (by omega)
  obtain rfl : ad = ad' := Option.some.inj hh
  rw [Int.toNat_natCast] at hK hcells
  have he : l.getD i y = y := by rw [List.getD_eq_getElem?_getD, hy]; rfl
  rw [he] at hK
  obtain ⟨b0, b1, rfl, h0, c0, c1, rfl, h1, d0, d1, rfl, h2, h3⟩ := hK
  have a0 : b0 = [_] := h0
  have a1 : c0 = [_] := h1
  have a2 : d0 = [_] := h2
  have a3 : d1 = [_] := h3
  subst a0 a1 a2 a3
  intro j u hu
  rw [HeldW.add_add]
  exact hcells j u hu

/-- The call's own row, or a short list without room. -/
def OwnB (W : World) (base : Nat) (v : Value) (l : List Int) : Prop :=
  W.ownsRow base 5 1 v l.length (encs (Value.int .u8) l) ∨ ∃ ad, v = .slice (some ad) l.length l.length ∧ Kd.C (Kd.int .u8) W (some ad) l.length l ∧ l.length ≤ 1000
theorem OwnB.reads {W : World} {base : Nat} {v : Value} {l : List Int} (h : OwnB W base v l) : ∃ A c, v = .slice A l.length c ∧ l.length ≤ c ∧ Kd.C (Kd.int .u8) W A l.length l := by
  rcases h with h | ⟨ad, rfl, hC, _⟩
  · exact Kd.R_reads (Kd.R_of_own (h1 := fun _ => rfl) h (ok := fun _ => True) (fun _ _ => trivial))
  · exact ⟨_, _, rfl, Nat.le_refl _, hC⟩
theorem OwnB.below {W W' : World} {base : Nat} {v : Value} {l : List Int} (h : OwnB W base v l) (hb : Below W.heap.size W W') : OwnB W' base v l := by
  rcases h with h | ⟨ad, rfl, hC, hl⟩
  · exact .inl (Kd.own_of_R (Kd.R_below (Kd.R_of_own (h1 := fun _ => rfl) h (ok := fun _ => True) (fun _ _ => trivial)) hb))
  · exact .inr ⟨ad, rfl, Kd.C_below hC hb, hl⟩
/-- The blocks of members stay. -/
def MKept (W W' : World) : Prop := ∀ (ga : Nat) (cs : Array Value) (f : Nat × Nat), W.heap[ga]? = some (.cells cs 72 f) → W'.heap[ga]? = some (.cells cs 72 f)
theorem wpList_append_big {ops : Array Oper} {rest : List Oper} {o : Oper} {a : Act} {w0 W : World} {Q : Exit → Act → World → Prop} (base : Nat)
    (hg : o.guard = none) (s x : Operand) (hop : o.op = Op.call { callee := Callee.builtin Builtin.append, args := #[s, x], argTypes := #[22, 22] })
    (v : Value) (l1 : List Int) (hs : a.eval s = v) (HO : OwnB W base v l1)
    (Ax : Option Addr) (c : Nat) (l2 : List Int) (hx : a.eval x = .slice Ax l2.length c) (hC2 : Kd.C (Kd.int .u8) W Ax l2.length l2) (HB : Below base w0 W) (hbase : base ≤ W.heap.size) (h0 : 0 < l2.length) (hb : l1.length + l2.length ≤ 200000000000000 ∧ l2.length ≤ 100000000000000) (l3 : List Int) (h3 : l3 = l1 ++ l2)
    (hK : ∀ v' w', OwnB w' base v' l3 → Below base w0 w' → MKept W w' → wpList Tryd.prog ops Q rest (a.put o.dst v') w') :
    wpList Tryd.prog ops Q (o :: rest) a W := by
  subst h3
  obtain ⟨ad, hAx, _⟩ := Kd.at_int hC2 (0 : Int) (by omega) (by omega)
  subst hAx
  obtain ⟨i, hi, z0, z1, z2⟩ := AppF.infoB
  have hcs := AppF.cells_of hC2
  have h1 : ∀ u ∈ l2.map (Value.int .u8), u.oneCell' = true := fun u hu => by obtain ⟨y, _, rfl⟩ := List.mem_map.1 hu; rfl
  have henc : encs (Value.int .u8) (l1 ++ l2) = encs (Value.int .u8) l1 ++ l2.map (Value.int .u8) := by simp [encs]
  rcases HO with HO | ⟨As, rfl, hC1, hsm⟩
  · refine wpList_append_own_wide W hg s x 22 hop base 5 i (.int .u8 0) 1 1 Tryd.underlying22 hi z0 z1 z2 rfl (by decide) v l1.length (encs (Value.int .u8) l1) hs HO ad l2.length c (l2.map (Value.int .u8)) hx (by simp) hcs h1 (by unfold maxLen; omega) (by omega) hbase ?_
    intro v' w' ho hgr _
    refine hK v' w' (.inl ?_) (HB.grown hgr hbase (fun k hk => own_base HO k hk)) ?_
    · rw [List.length_append, henc]; exact ho
    · intro ga cs f hga
      have hlt : ga < W.heap.size := by
        rcases Nat.lt_or_ge ga W.heap.size with h | h
        · exact h
        · rw [Array.getElem?_eq_none h] at hga; cases hga
      rw [hgr.block ga hlt ?_]
      · exact hga
      · intro h
        obtain ⟨cells, hc⟩ := own_typed HO ga h.symm
        rw [hc] at hga
        cases hga
  · refine wpList_append_grows W hg s x 22 hop 5 i (.int .u8 0) 1 1 Tryd.underlying22 hi z0 z1 z2 rfl (by decide) (some As) l1.length l1.length (l1.map (Value.int .u8)) hs (fun h => by cases h) (by simp) (fun b hb' => by obtain rfl := Option.some.inj hb'; exact AppF.cells_of hC1)
      ad l2.length c (l2.map (Value.int .u8)) hx (by simp) hcs h1 (by omega) (by unfold maxLen; omega) (by omega) ?_
    intro v' w' ho hgr
    have hB : Below W.heap.size W w' := (Below.refl _ W).grown hgr (Nat.le_refl _) (by intro k hk; simp at hk)
    refine hK v' w' (.inl ?_) (HB.trans ⟨hB.os, hB.tape, hB.output, hB.size, fun k hk => hB.block k (Nat.lt_of_lt_of_le hk hbase)⟩) ?_
    · rw [List.length_append, henc]
      exact own_weaken (ho) hbase
    · intro ga cs f hga
      have hlt : ga < W.heap.size := by
        rcases Nat.lt_or_ge ga W.heap.size with h | h
        · exact h
        · rw [Array.getElem?_eq_none h] at hga; cases hga
      rw [hB.block ga hlt]
      exact hga
theorem spell_len (b : Int) (pl : Bool) : 1 ≤ (spellL b pl).length ∧ (spellL b pl).length ≤ 2 := by
  unfold spellL
  split <;> simp
theorem mem_len (m : Mem) : (memL m).length ≤ 5 := by
  have h1 := spell_len m.lo m.plain
  have h2 := spell_len m.hi m.plain
  unfold memL
  split <;> simp <;> omega
theorem mems_len (l : List MemT) (i : Nat) (hi : i ≤ l.length) : (memsL ((l.take i).map toM)).length ≤ 5 * i := by
  induction i with
  | zero => simp [memsL]
  | succ i ih =>
    have h := ih (by omega)
    rw [List.take_add_one, List.getElem?_eq_getElem (by omega), Option.toList_some, List.map_append]
    have h2 := mem_len (toM (l[i]'(by omega)))
    simp [memsL] at h ⊢
    omega

set_option maxHeartbeats 3200000 in
theorem write.calls (d b : Int) (neg : Bool) (A : Option Addr) (c : Nat) (l : List MemT) (w : World) (hC : kMem.C w A l.length l) (hlen : l.length ≤ 35184372087808) :
    Calls Tryd.prog 16 #[.agg #[.int .i64 d, .int .u8 b, .bool neg, .slice A l.length c]] w fun e w' => Gives w (writeL (toP d b neg l)) e w' := by
  have HC := Aside0.mk hC
  have HB := Aside0.mk (Below.refl w.heap.size w)
  clear hC
  by_cases h0 : d = 0
  · subst h0
    have e : writeL (toP 0 b neg l) = [42] := by rfl
    rw [e]
    clear e
    go_enter Tryd.func16, Tryd.ntmps16
    go_wp2_with (first
      | ((with_reducible refine gate_dst (N := 1) rfl ?_); refine box_event ?hg (N := 1) ?hd (cs := #[.int .i64 0, .int .u8 b, .bool neg, .slice A l.length c]) (t := 35) ?hr ?_; (case hd => rfl); (case hg => rfl); (case hr => first | (go_simp; done) | (go_simp; rfl)); intro gb hgb w5 hbox hb; have n0_ := Aside0.mk (below_step HB.out hb); have BK := Aside0.mk hbox; have z0 : w5.cell? ⟨gb, 0, none⟩ = some (.int .i64 0) := (blk_cell BK.out 0).trans rfl; have z1 : w5.cell? ⟨gb, 1, none⟩ = some (.int .u8 b) := (blk_cell BK.out 1).trans rfl; have z2 : w5.cell? ⟨gb, 2, none⟩ = some (.bool neg) := (blk_cell BK.out 2).trans rfl; have z3 : w5.cell? ⟨gb, 3, none⟩ = some (.slice A l.length c) := (blk_cell BK.out 3).trans rfl; clear HB; have HB := n0_; clear n0_ hb hbox hgb; have hc1 := conv_at (w := w5) w5.heap.size rfl #[.int .u8 42] 1 1))
    go_ret
    exact ⟨_, _, rfl, by simp, got_const _ _ rfl [42] _ (by simp), below_alloc HB.out _⟩
  by_cases h1 : d = 1
  · subst h1
    have e : writeL (toP 1 b neg l) = [63] := by rfl
    rw [e]
    clear e
    go_enter Tryd.func16, Tryd.ntmps16
    go_wp2_with (first
      | ((with_reducible refine gate_dst (N := 1) rfl ?_); refine box_event ?hg (N := 1) ?hd (cs := #[.int .i64 1, .int .u8 b, .bool neg, .slice A l.length c]) (t := 35) ?hr ?_; (case hd => rfl); (case hg => rfl); (case hr => first | (go_simp; done) | (go_simp; rfl)); intro gb hgb w5 hbox hb; have n0_ := Aside0.mk (below_step HB.out hb); have BK := Aside0.mk hbox; have z0 : w5.cell? ⟨gb, 0, none⟩ = some (.int .i64 1) := (blk_cell BK.out 0).trans rfl; have z1 : w5.cell? ⟨gb, 1, none⟩ = some (.int .u8 b) := (blk_cell BK.out 1).trans rfl; have z2 : w5.cell? ⟨gb, 2, none⟩ = some (.bool neg) := (blk_cell BK.out 2).trans rfl; have z3 : w5.cell? ⟨gb, 3, none⟩ = some (.slice A l.length c) := (blk_cell BK.out 3).trans rfl; clear HB; have HB := n0_; clear n0_ hb hbox hgb; have hc1 := conv_at (w := w5) w5.heap.size rfl #[.int .u8 63] 1 1))
    go_ret
    exact ⟨_, _, rfl, by simp, got_const _ _ rfl [63] _ (by simp), below_alloc HB.out _⟩
  by_cases h2 : d = 2
  · subst h2
    have e : writeL (toP 2 b neg l) = [92, b] := by rfl
    rw [e]
    clear e
    go_enter Tryd.func16, Tryd.ntmps16
    go_wp2_with (first
      | ((with_reducible refine gate_dst (N := 1) rfl ?_); refine box_event ?hg (N := 1) ?hd (cs := #[.int .i64 2, .int .u8 b, .bool neg, .slice A l.length c]) (t := 35) ?hr ?_; (case hd => rfl); (case hg => rfl); (case hr => first | (go_simp; done) | (go_simp; rfl)); intro gb hgb w5 hbox hb; have n0_ := Aside0.mk (below_step HB.out hb); have BK := Aside0.mk hbox; have z0 : w5.cell? ⟨gb, 0, none⟩ = some (.int .i64 2) := (blk_cell BK.out 0).trans rfl; have z1 : w5.cell? ⟨gb, 1, none⟩ = some (.int .u8 b) := (blk_cell BK.out 1).trans rfl; have z2 : w5.cell? ⟨gb, 2, none⟩ = some (.bool neg) := (blk_cell BK.out 2).trans rfl; have z3 : w5.cell? ⟨gb, 3, none⟩ = some (.slice A l.length c) := (blk_cell BK.out 3).trans rfl; clear HB; have HB := n0_; clear n0_ hb hbox hgb; skip))
    go_ret
    exact ⟨_, _, rfl, by simp, got_const _ _ rfl [92, b] _ (by simp), below_alloc HB.out _⟩
  have d0 : (d == 0) = false := by simpa using h0
  have d1 : (d == 1) = false := by simpa using h1
  have d2 : (d == 2) = false := by simpa using h2
  have HE := Aside0.mk (show writeL (toP d b neg l) = ([91] ++ (if neg then [94] else [])) ++ memsL (l.map toM) ++ [93] by unfold writeL; show (if d = 0 then [42] else if d = 1 then [63] else if d = 2 then [92, b] else ([91] ++ (if neg then [94] else [])) ++ memsL (l.map toM) ++ [93]) = _; rw [if_neg h0, if_neg h1, if_neg h2])
  clear h0 h1 h2
  go_enter Tryd.func16, Tryd.ntmps16
  go_upto_region 9 with (first
    | ((with_reducible refine gate_dst (N := 1) rfl ?_); refine box_event ?hg (N := 1) ?hd (cs := #[.int .i64 d, .int .u8 b, .bool neg, .slice A l.length c]) (t := 35) ?hr ?_; (case hd => rfl); (case hg => rfl); (case hr => first | (go_simp; done) | (go_simp; rfl)); intro gb hgb w5 hbox hb; have n0_ := Aside0.mk (below_step HB.out hb); have BK := Aside0.mk hbox; have z0 : w5.cell? ⟨gb, 0, none⟩ = some (.int .i64 d) := (blk_cell BK.out 0).trans rfl; have z1 : w5.cell? ⟨gb, 1, none⟩ = some (.int .u8 b) := (blk_cell BK.out 1).trans rfl; have z2 : w5.cell? ⟨gb, 2, none⟩ = some (.bool neg) := (blk_cell BK.out 2).trans rfl; have z3 : w5.cell? ⟨gb, 3, none⟩ = some (.slice A l.length c) := (blk_cell BK.out 3).trans rfl; clear HB; have HB := n0_; clear n0_ hb hbox hgb; have hc1 := conv_at (w := w5) w5.heap.size rfl #[.int .u8 91] 1 1))
  clear hc1
  have HB1 : Aside0 (Below w5.heap.size w5 (w5.alloc (.cells #[.int .u8 91] 5 (1, 2)))) := ⟨below_alloc (Below.refl _ _) _⟩
  have HO1 : Aside0 (OwnB (w5.alloc (.cells #[.int .u8 91] 5 (1, 2))) w5.heap.size (.slice (some ⟨w5.heap.size, 0, none⟩) 1 1) [91]) := ⟨.inr ⟨_, rfl, got_const _ _ rfl [91] _ (by decide), by decide⟩⟩
  obtain ⟨w6, hw6⟩ : ∃ w6, w6 = w5.alloc (.cells #[.int .u8 91] 5 (1, 2)) := ⟨_, rfl⟩
  rw [← hw6] at HB1 HO1 ⊢
  clear hw6
  have z2' := pw_cell_below HB1.out z2
  go_upto_if 24 with fail
  go_cut [3] (fun v3 wc => Aside0 (OwnB wc w5.heap.size v3 ([91] ++ if neg then [94] else []) ∧ Below w5.heap.size w5 wc))
  case first =>
    cases neg with
    | false =>
      go_wp2_with fail
      go_meet
      exact ⟨HO1.out, HB1.out⟩
    | true =>
      go_wp2_with (first
        | ((with_reducible refine gate_builtin (b := .append) (xs := #[.tmp 25, .tmp 26]) rfl ?_); at_builtin; refine wpList_append_big (w0 := w5) w5.heap.size rfl (.tmp 25) (.tmp 26) rfl _ [91] rfl (HO1.out.below (below_alloc (Below.refl _ _) _)) _ 1 [94] rfl (got_const w6 _ rfl [94] _ (by decide)) (PB.below_next HB1.out (below_alloc (Below.refl _ _) _)) (PB.below_next HB1.out (below_alloc (Below.refl _ _) _)).size (by decide) ⟨by decide, by decide⟩ _ rfl ?_; intro v7 w7 ho hb hk; have HO2 := Aside0.mk ho; have HB2 := Aside0.mk hb; clear ho hb hk))
      go_meet
      exact ⟨HO2.out, HB2.out⟩
  case rest =>
    obtain ⟨L0, hL0⟩ : ∃ L0 : List Int, L0 = ([91] ++ if neg = true then [94] else []) := ⟨_, rfl⟩
    have HE2 : Aside0 (writeL (toP d b neg l) = L0 ++ memsL (l.map toM) ++ [93]) := ⟨by rw [HE.out, hL0]⟩
    have HL0 : Aside0 (L0.length ≤ 2) := ⟨by rw [hL0]; cases neg <;> decide⟩
    rw [← hL0] at hcut
    clear hL0 HE HO1 HB1 z2'
    go_wp2_with fail
    go_loopw [3, 4] (fun v3 v4 wr => ∃ i : Nat, v4 = .int .i64 i ∧ i ≤ l.length ∧ Aside0 (OwnB wr w5.heap.size v3 (L0 ++ memsL ((l.take i).map toM)) ∧ Below w5.heap.size w5 wr)) (fun v3 v4 wr => l.length - (intOf v4).toNat)
    case atStart => exact ⟨0, rfl, by omega, ⟨by simpa [memsL] using hcut.out.1, hcut.out.2⟩⟩
    case round =>
      obtain ⟨i, rfl, hi2, HI⟩ := hrel
      have z3' := pw_cell_below HI.out.2 z3
      clear z0 z1 z2 z3
      by_cases hlt : i < l.length
      · have c1 : decide ((i : Int) < l.length) = true := decide_eq_true (by omega)
        have c1' : decide (i < l.length) = true := decide_eq_true hlt
        have HCr := Aside0.mk (Kd.C_below HC.out (PB.below_next HB.out HI.out.2))
        obtain ⟨y, hy⟩ : ∃ y, l[i]? = some y := ⟨_, List.getElem?_eq_getElem hlt⟩
        obtain ⟨ad, hAd⟩ : ∃ ad, A = some ad := by
          obtain ⟨ad, _, hh, _⟩ := Kd.C_get HCr.out y (i : Int) (by omega) (by omega)
          exact ⟨ad, hh⟩
        subst hAd
        have HK := Aside0.mk (mem_cells HCr.out i y hy)
        have HTK : Aside0 (memsL ((l.take (i + 1)).map toM) = memsL ((l.take i).map toM) ++ memL (toM y)) := ⟨by
          rw [List.take_add_one, hy, Option.toList_some, List.map_append]
          simp [memsL]⟩
        have HLN : Aside0 ((memsL ((l.take i).map toM)).length ≤ 5 * i) := ⟨mems_len l i hi2⟩
        obtain ⟨lo, hiB, rg, pl⟩ := y
        have HTY : Aside0 (memL (toM (lo, hiB, rg, pl)) = spellL lo pl ++ (if rg then 45 :: spellL hiB pl else [])) := ⟨rfl⟩
        have HSZ := Aside0.mk (show (Tryd.prog.info? 72).map (·.size) = some 4 by kernel_rfl)
        have HONE := Aside0.mk (show (#[.int .u8 lo, .int .u8 hiB, .bool rg, .bool pl] : Array Value).all (·.oneCell') = true by
          rw [Array.all_eq_true_iff_forall_mem]
          intro v hv
          have hv : v ∈ ([.int .u8 lo, .int .u8 hiB, .bool rg, .bool pl] : List Value) := by simpa using hv
          simp only [List.mem_cons, List.not_mem_nil, or_false] at hv
          rcases hv with rfl | rfl | rfl | rfl <;> rfl)
        have HSZ2 := Aside0.mk (show (Tryd.prog.info? 72).map (·.size) = some (#[.int .u8 lo, .int .u8 hiB, .bool rg, .bool pl] : Array Value).size from HSZ.out)
        clear hy
        go_upto_region 15 with (first
          | ((with_reducible refine gate_dst (N := 39) rfl ?_); refine wpList_load_at rfl 72 (.tmp 38) rfl (ad.add (i * 4)) rfl [.int .u8 lo, .int .u8 hiB, .bool rg, .bool pl] _ HK.out Tryd.underlying72 rfl HSZ.out ?_)
          | ((with_reducible refine gate_dst (N := 5) rfl ?_); refine box_event ?hg (N := 5) ?hd (cs := #[.int .u8 0, .int .u8 0, .bool false, .bool false]) (t := 72) ?hr ?_; (case hd => rfl); (case hg => rfl); (case hr => first | (go_simp; done) | (go_simp; rfl)); intro ga hga w7 hbox hb; have BA := Aside0.mk hbox; have HB7 := Aside0.mk hb; have GA := Aside0.mk hga; clear hbox hb hga)
          | ((with_reducible refine gate_store (p := 5) rfl ?_); refine wpList_store_row rfl 72 (.tmp 5) (.tmp 39) rfl ga #[.int .u8 lo, .int .u8 hiB, .bool rg, .bool pl] rfl rfl 72 #[.int .u8 0, .int .u8 0, .bool false, .bool false] BA.out HSZ2.out rfl HONE.out ?_; obtain ⟨w8, hw8⟩ : ∃ w8, w8 = w7.setRow ga #[.int .u8 lo, .int .u8 hiB, .bool rg, .bool pl] := ⟨_, rfl⟩; rw [← hw8]; have BC := Aside0.mk (show w8.heap[ga]? = some (.cells #[.int .u8 lo, .int .u8 hiB, .bool rg, .bool pl] 72 (0, 0)) by rw [hw8]; exact setRow_heap _ _ _ _ _ _ BA.out); have HB8 := Aside0.mk (show Below wr.heap.size wr w8 by rw [hw8]; exact below_setRow HB7.out (by rw [GA.out]; exact Nat.le_refl _) _); clear hw8))
        have x0 : w8.cell? ⟨ga, 0, none⟩ = some (.int .u8 lo) := (blk_cell BC.out 0).trans rfl
        have x3 : w8.cell? ⟨ga, 3, none⟩ = some (.bool pl) := (blk_cell BC.out 3).trans rfl
        have HO8 : Aside0 (OwnB w8 w5.heap.size u3 (L0 ++ memsL ((l.take i).map toM))) := ⟨HI.out.1.below HB8.out⟩
        have HW8 : Aside0 (Below w5.heap.size w5 w8) := ⟨PB.below_next HI.out.2 HB8.out⟩
        clear HB7 GA BA HSZ HSZ2 HONE HK z3'
        go_upto_region 16 with (first
          | (go_at_call 29; refine (spell.calls lo pl _).mono ?_; rintro e w9 ⟨As, cs, rfl, hcs, hCs, hb⟩; have HCS := Aside0.mk hCs; have HO9 := Aside0.mk (HO8.out.below hb); have HW9 := Aside0.mk (PB.below_next HW8.out hb); have BC9 := Aside0.mk (blk_below BC.out hb); clear hCs hb hcs)
          | ((with_reducible refine gate_builtin (b := .append) (xs := #[.tmp 40, .tmp 45]) rfl ?_); at_builtin; refine wpList_append_big (w0 := w5) w5.heap.size rfl (.tmp 40) (.tmp 45) rfl _ _ rfl HO9.out As cs (spellL lo pl) rfl HCS.out HW9.out HW9.out.size (spell_len lo pl).1 (by have := (spell_len lo pl).2; have := HL0.out; have := HLN.out; rw [List.length_append]; exact ⟨by omega, by omega⟩) _ rfl ?_; intro v10 w10 ho hb hk; have HO10 := Aside0.mk ho; have HW10 := Aside0.mk hb; have BC10 := Aside0.mk (hk _ _ _ BC9.out); clear ho hb hk))
        have y1 : w10.cell? ⟨ga, 1, none⟩ = some (.int .u8 hiB) := (blk_cell BC10.out 1).trans rfl
        have y2 : w10.cell? ⟨ga, 2, none⟩ = some (.bool rg) := (blk_cell BC10.out 2).trans rfl
        have y3 : w10.cell? ⟨ga, 3, none⟩ = some (.bool pl) := (blk_cell BC10.out 3).trans rfl
        clear HO9 HW9 BC9 HO8 HW8 BC x0 x3 HB8
        cases rg with
        | false =>
          have HR : Aside0 (OwnB w10 w5.heap.size v10 (L0 ++ memsL ((l.take (i + 1)).map toM)) ∧ Below w5.heap.size w5 w10) := ⟨by
            refine ⟨?_, HW10.out⟩
            have := HO10.out
            rw [HTK.out, HTY.out]
            simpa [List.append_assoc] using this⟩
          clear HO10 HW10
          go_wp2_with fail
          go_roundw
          case rel => exact ⟨i + 1, by go_num, by omega, HR⟩
          case measure => simp [intOf]; omega
        | true =>
          go_wp2_with (first
            | ((with_reducible refine gate_builtin (b := .append) (xs := #[.tmp 49, .tmp 50]) rfl ?_); at_builtin; refine wpList_append_big (w0 := w5) w5.heap.size rfl (.tmp 49) (.tmp 50) rfl _ _ rfl (HO10.out.below (below_alloc (Below.refl _ _) _)) _ 1 [45] rfl (got_const w10 _ rfl [45] _ (by decide)) (PB.below_next HW10.out (below_alloc (Below.refl _ _) _)) (PB.below_next HW10.out (below_alloc (Below.refl _ _) _)).size (by decide) (by have := (spell_len lo pl).2; have := HL0.out; have := HLN.out; simp only [List.length_append, List.length_singleton]; exact ⟨by omega, by omega⟩) _ rfl ?_; intro v11 w11 ho hb hk; have HO11 := Aside0.mk ho; have HW11 := Aside0.mk hb; have BC11 := Aside0.mk (hk _ _ _ (blk_below BC10.out (below_alloc (Below.refl _ _) _))); clear ho hb hk y1 y2 y3; have y1 : w11.cell? ⟨ga, 1, none⟩ = some (.int .u8 hiB) := (blk_cell BC11.out 1).trans rfl; have y3 : w11.cell? ⟨ga, 3, none⟩ = some (.bool pl) := (blk_cell BC11.out 3).trans rfl)
            | (go_at_call 29; refine (spell.calls hiB pl _).mono ?_; rintro e w12 ⟨As2, cs2, rfl, hcs, hCs, hb⟩; have HCS2 := Aside0.mk hCs; have HO12 := Aside0.mk (HO11.out.below hb); have HW12 := Aside0.mk (PB.below_next HW11.out hb); clear hCs hb hcs)
            | ((with_reducible refine gate_builtin (b := .append) (xs := #[.tmp 52, .tmp 57]) rfl ?_); at_builtin; refine wpList_append_big (w0 := w5) w5.heap.size rfl (.tmp 52) (.tmp 57) rfl _ _ rfl HO12.out As2 cs2 (spellL hiB pl) rfl HCS2.out HW12.out HW12.out.size (spell_len hiB pl).1 (by have := (spell_len lo pl).2; have := (spell_len hiB pl).2; have := HL0.out; have := HLN.out; simp only [List.length_append, List.length_singleton]; exact ⟨by omega, by omega⟩) _ rfl ?_; intro v13 w13 ho hb hk; have HO13 := Aside0.mk ho; have HW13 := Aside0.mk hb; clear ho hb hk))
          have HR : Aside0 (OwnB w13 w5.heap.size v13 (L0 ++ memsL ((l.take (i + 1)).map toM)) ∧ Below w5.heap.size w5 w13) := ⟨by
            refine ⟨?_, HW13.out⟩
            have := HO13.out
            rw [HTK.out, HTY.out]
            simpa [List.append_assoc] using this⟩
          go_roundw
          case rel => exact ⟨i + 1, by go_num, by omega, HR⟩
          case measure => simp [intOf]; omega
      · obtain rfl : i = l.length := by omega
        have c1 : decide ((l.length : Int) < l.length) = false := decide_eq_false (by omega)
        have HF : Aside0 (OwnB wr w5.heap.size u3 (L0 ++ memsL (l.map toM))) := ⟨by have := HI.out.1; rw [List.take_length] at this; exact this⟩
        have HFW : Aside0 (Below w5.heap.size w5 wr) := ⟨HI.out.2⟩
        have HLN : Aside0 ((memsL (l.map toM)).length ≤ 5 * l.length) := ⟨by have := mems_len l l.length (Nat.le_refl _); rw [List.take_length] at this; exact this⟩
        obtain ⟨LL, hLL⟩ : ∃ LL : List Int, LL = L0 ++ memsL (l.map toM) ++ [93] := ⟨_, rfl⟩
        have HLL := Aside0.mk hLL
        rw [← hLL] at HE2
        clear HI hLL
        go_wp2_with (first
          | ((with_reducible refine gate_builtin (b := .append) (xs := #[.tmp 59, .tmp 60]) rfl ?_); at_builtin; refine wpList_append_big (w0 := w5) w5.heap.size rfl (.tmp 59) (.tmp 60) rfl _ _ rfl (HF.out.below (below_alloc (Below.refl _ _) _)) _ 1 [93] rfl (got_const wr _ rfl [93] _ (by decide)) (PB.below_next HFW.out (below_alloc (Below.refl _ _) _)) (PB.below_next HFW.out (below_alloc (Below.refl _ _) _)).size (by decide) (by have := HL0.out; have := HLN.out; simp only [List.length_append, List.length_singleton]; exact ⟨by omega, by omega⟩) LL HLL.out ?_; intro v11 w11 ho hb hk; obtain ⟨Ae, ce, rfl, hce, hCe⟩ := ho.reads; have HCE := Aside0.mk hCe; have HWE := Aside0.mk hb; have HLE := Aside0.mk hce; clear ho hb hCe hce hk))
        go_ret
        exact ⟨Ae, ce, by rw [HE2.out]; rfl, by rw [HE2.out]; exact HLE.out, by rw [HE2.out]; exact HCE.out, PB.below_next HB.out HWE.out⟩
end Go.Proofs.YtdflblegdfpdpaaDoor.WriteW
end

section
/- larderlaw9.fits: the machine's calls. -/
namespace Go.Proofs.YtdflblegdfpdpaaDoor.FitW
open Go Go.RowKit Go.Proofs.YtdflblegdfpdpaaDoorW.PrintWords Go.Proofs.YtdflblegdfpdpaaDoorW.PrintLast Go.Proofs.YtdflblegdfpdpaaDoorW.PrintMore Go.Proofs.YtdflblegdfpdpaaDoor.HeldW Go.Proofs.YtdflblegdfpdpaaDoor.ScoreW Go.Proofs.YtdflblegdfpdpaaDoor.ClassS Go.Proofs.YtdflblegdfpdpaaDoor.AskW Go.Proofs.YtdflblegdfpdpaaDoor.WriteW
set_option linter.unusedVariables false
set_option maxRecDepth 100000

set_option maxHeartbeats 3200000 in
theorem fits.calls (d b0 : Int) (neg : Bool) (A : Option Addr) (c : Nat) (l : List MemT) (b : Int) (w : World) (hC : kMem.C w A l.length l) (hlen : l.length ≤ 140737488355328) :
    Calls Tryd.prog 17 #[.agg #[.int .i64 d, .int .u8 b0, .bool neg, .slice A l.length c], .int .u8 b] w fun e w' => e = .returned (.bool (fitsL (toP d b0 neg l) b)) ∧ Below w.heap.size w w' := by
  have HC := Aside0.mk hC
  have HB := Aside0.mk (Below.refl w.heap.size w)
  have HE : Aside0 (fitsL (toP d b0 neg l) b = ((l.any fun y => inMem (toM y) b) != neg)) := ⟨by simp [fitsL, toP, List.any_map, Function.comp_def]⟩
  clear hC
  go_enter Tryd.func17, Tryd.ntmps17
  go_wp2_with (first
    | ((with_reducible refine gate_dst (N := 2) rfl ?_); refine box_event ?hg (N := 2) ?hd (cs := #[.int .i64 d, .int .u8 b0, .bool neg, .slice A l.length c]) (t := 35) ?hr ?_; (case hd => rfl); (case hg => rfl); (case hr => first | (go_simp; done) | (go_simp; rfl)); intro gb hgb w5 hbox hb; have n0_ := Aside0.mk (below_step HB.out hb); have BK := Aside0.mk hbox; have z2 : w5.cell? ⟨gb, 2, none⟩ = some (.bool neg) := (blk_cell BK.out 2).trans rfl; have z3 : w5.cell? ⟨gb, 3, none⟩ = some (.slice A l.length c) := (blk_cell BK.out 3).trans rfl; clear HB; have HB := n0_; clear n0_ hb hbox hgb))
  go_loopw [5, 6] (fun v5 v6 wr => ∃ (i : Nat) (acc : Bool), v6 = .int .i64 i ∧ i ≤ l.length ∧ v5 = .bool acc ∧ Aside0 (((l.take i).any fun y => inMem (toM y) b) = acc ∧ Below w5.heap.size w5 wr)) (fun v5 v6 wr => l.length - (intOf v6).toNat)
  case atStart => exact ⟨0, false, rfl, by omega, rfl, ⟨by simp, Below.refl _ _⟩⟩
  case round =>
    obtain ⟨i, acc, rfl, hi2, rfl, HI⟩ := hrel
    have z3' := pw_cell_below HI.out.2 z3
    have z2' := pw_cell_below HI.out.2 z2
    clear z2 z3
    by_cases hlt : i < l.length
    · have c1 : decide ((i : Int) < l.length) = true := decide_eq_true (by omega)
      have c1' : decide (i < l.length) = true := decide_eq_true hlt
      have HCr := Aside0.mk (Kd.C_below HC.out (PB.below_next HB.out HI.out.2))
      obtain ⟨y, hy⟩ : ∃ y, l[i]? = some y := ⟨_, List.getElem?_eq_getElem hlt⟩
      obtain ⟨ad, hAd⟩ : ∃ ad, A = some ad := by
        obtain ⟨ad, _, hh, _⟩ := Kd.C_get HCr.out y (i : Int) (by omega) (by omega)
        exact ⟨ad, hh⟩
      subst hAd
      have HK := Aside0.mk (mem_cells HCr.out i y hy)
      have HIN : Aside0 (((l.take (i + 1)).any fun y => inMem (toM y) b) = (acc || inMem (toM y) b)) := ⟨by
        rw [List.take_add_one, hy, Option.toList_some, List.any_append, HI.out.1]
        simp⟩
      obtain ⟨lo, hiB, rg, pl⟩ := y
      obtain ⟨h8, hh8⟩ : ∃ h8, h8 = (if rg = true then hiB else lo) := ⟨_, rfl⟩
      have HTY : Aside0 (inMem (toM (lo, hiB, rg, pl)) b = decide (lo ≤ b ∧ b ≤ h8 ∨ h8 ≤ b ∧ b ≤ lo)) := ⟨by rw [hh8]; rfl⟩
      have H8 := Aside0.mk hh8
      have HSZ := Aside0.mk (show (Tryd.prog.info? 72).map (·.size) = some 4 by kernel_rfl)
      have HONE := Aside0.mk (show (#[.int .u8 lo, .int .u8 hiB, .bool rg, .bool pl] : Array Value).all (·.oneCell') = true by
        rw [Array.all_eq_true_iff_forall_mem]
        intro v hv
        have hv : v ∈ ([.int .u8 lo, .int .u8 hiB, .bool rg, .bool pl] : List Value) := by simpa using hv
        simp only [List.mem_cons, List.not_mem_nil, or_false] at hv
        rcases hv with rfl | rfl | rfl | rfl <;> rfl)
      have HSZ2 := Aside0.mk (show (Tryd.prog.info? 72).map (·.size) = some (#[.int .u8 lo, .int .u8 hiB, .bool rg, .bool pl] : Array Value).size from HSZ.out)
      clear hy hh8
      go_upto_region 6 with (first
        | ((with_reducible refine gate_dst (N := 20) rfl ?_); refine wpList_load_at rfl 72 (.tmp 19) rfl (ad.add (i * 4)) rfl [.int .u8 lo, .int .u8 hiB, .bool rg, .bool pl] _ HK.out Tryd.underlying72 rfl HSZ.out ?_)
        | ((with_reducible refine gate_dst (N := 7) rfl ?_); refine box_event ?hg (N := 7) ?hd (cs := #[.int .u8 0, .int .u8 0, .bool false, .bool false]) (t := 72) ?hr ?_; (case hd => rfl); (case hg => rfl); (case hr => first | (go_simp; done) | (go_simp; rfl)); intro ga hga w7 hbox hb; have BA := Aside0.mk hbox; have HB7 := Aside0.mk hb; have GA := Aside0.mk hga; clear hbox hb hga)
        | ((with_reducible refine gate_store (p := 7) rfl ?_); refine wpList_store_row rfl 72 (.tmp 7) (.tmp 20) rfl ga #[.int .u8 lo, .int .u8 hiB, .bool rg, .bool pl] rfl rfl 72 #[.int .u8 0, .int .u8 0, .bool false, .bool false] BA.out HSZ2.out rfl HONE.out ?_; obtain ⟨w8, hw8⟩ : ∃ w8, w8 = w7.setRow ga #[.int .u8 lo, .int .u8 hiB, .bool rg, .bool pl] := ⟨_, rfl⟩; rw [← hw8]; have BC := Aside0.mk (show w8.heap[ga]? = some (.cells #[.int .u8 lo, .int .u8 hiB, .bool rg, .bool pl] 72 (0, 0)) by rw [hw8]; exact setRow_heap _ _ _ _ _ _ BA.out); have HB8 := Aside0.mk (show Below wr.heap.size wr w8 by rw [hw8]; exact below_setRow HB7.out (by rw [GA.out]; exact Nat.le_refl _) _); clear hw8))
      have x0 : w8.cell? ⟨ga, 0, none⟩ = some (.int .u8 lo) := (blk_cell BC.out 0).trans rfl
      have x1 : w8.cell? ⟨ga, 1, none⟩ = some (.int .u8 hiB) := (blk_cell BC.out 1).trans rfl
      have x2 : w8.cell? ⟨ga, 2, none⟩ = some (.bool rg) := (blk_cell BC.out 2).trans rfl
      have HW8 : Aside0 (Below w5.heap.size w5 w8) := ⟨PB.below_next HI.out.2 HB8.out⟩
      clear HB7 GA BA HSZ HSZ2 HONE HK z3' z2' HB8
      go_upto_if 25 with fail
      go_cut [8] (fun v8 wc => v8 = .int .u8 h8 ∧ wc = w8)
      case first =>
        cases rg with
        | false =>
          go_wp2_with fail
          go_meet
          exact ⟨by rw [H8.out]; rfl, rfl⟩
        | true =>
          go_wp2_with fail
          go_meet
          exact ⟨by rw [H8.out]; rfl, rfl⟩
      case rest =>
        obtain ⟨rfl, rfl⟩ := hcut
        cases acc with
        | true =>
          have HR : Aside0 (((l.take (i + 1)).any fun y => inMem (toM y) b) = true) := ⟨by rw [HIN.out, HTY.out]; rfl⟩
          clear HIN HTY
          go_wp2_with fail
          go_roundw
          case rel => exact ⟨i + 1, true, by go_num, by omega, rfl, ⟨HR.out, HW8.out⟩⟩
          case measure => simp [intOf]; omega
        | false =>
          by_cases k1 : lo ≤ b
          · have e1 : decide (lo ≤ b) = true := decide_eq_true k1
            by_cases k2 : b ≤ h8
            · have e2 : decide (b ≤ h8) = true := decide_eq_true k2
              have HR : Aside0 (((l.take (i + 1)).any fun y => inMem (toM y) b) = true) := ⟨by rw [HIN.out, HTY.out]; simp only [Bool.false_or]; exact decide_eq_true (by omega)⟩
              clear HIN HTY
              go_wp2_with fail
              go_roundw
              case rel => exact ⟨i + 1, true, by go_num, by omega, rfl, ⟨HR.out, HW8.out⟩⟩
              case measure => simp [intOf]; omega
            · have e2 : decide (b ≤ h8) = false := decide_eq_false k2
              have e3 : decide (h8 ≤ b) = true := decide_eq_true (by omega)
              by_cases k4 : b ≤ lo
              · have e4 : decide (b ≤ lo) = true := decide_eq_true k4
                have HR : Aside0 (((l.take (i + 1)).any fun y => inMem (toM y) b) = true) := ⟨by rw [HIN.out, HTY.out]; simp only [Bool.false_or]; exact decide_eq_true (by omega)⟩
                clear HIN HTY
                go_wp2_with fail
                go_roundw
                case rel => exact ⟨i + 1, true, by go_num, by omega, rfl, ⟨HR.out, HW8.out⟩⟩
                case measure => simp [intOf]; omega
              · have e4 : decide (b ≤ lo) = false := decide_eq_false k4
                have HR : Aside0 (((l.take (i + 1)).any fun y => inMem (toM y) b) = false) := ⟨by rw [HIN.out, HTY.out]; simp only [Bool.false_or]; exact decide_eq_false (by omega)⟩
                clear HIN HTY
                go_wp2_with fail
                go_roundw
                case rel => exact ⟨i + 1, false, by go_num, by omega, rfl, ⟨HR.out, HW8.out⟩⟩
                case measure => simp [intOf]; omega
          · have e1 : decide (lo ≤ b) = false := decide_eq_false k1
            have e4 : decide (b ≤ lo) = true := decide_eq_true (by omega)
            by_cases k3 : h8 ≤ b
            · have e3 : decide (h8 ≤ b) = true := decide_eq_true k3
              have HR : Aside0 (((l.take (i + 1)).any fun y => inMem (toM y) b) = true) := ⟨by rw [HIN.out, HTY.out]; simp only [Bool.false_or]; exact decide_eq_true (by omega)⟩
              clear HIN HTY
              go_wp2_with fail
              go_roundw
              case rel => exact ⟨i + 1, true, by go_num, by omega, rfl, ⟨HR.out, HW8.out⟩⟩
              case measure => simp [intOf]; omega
            · have e3 : decide (h8 ≤ b) = false := decide_eq_false k3
              have HR : Aside0 (((l.take (i + 1)).any fun y => inMem (toM y) b) = false) := ⟨by rw [HIN.out, HTY.out]; simp only [Bool.false_or]; exact decide_eq_false (by omega)⟩
              clear HIN HTY
              go_wp2_with fail
              go_roundw
              case rel => exact ⟨i + 1, false, by go_num, by omega, rfl, ⟨HR.out, HW8.out⟩⟩
              case measure => simp [intOf]; omega
    · obtain rfl : i = l.length := by omega
      have c1 : decide ((l.length : Int) < l.length) = false := decide_eq_false (by omega)
      have HF : Aside0 ((l.any fun y => inMem (toM y) b) = acc) := ⟨by have := HI.out.1; rw [List.take_length] at this; exact this⟩
      have HFW : Aside0 (Below w5.heap.size w5 wr) := ⟨HI.out.2⟩
      clear HI
      go_wp2_with fail
      go_ret
      exact ⟨by rw [HE.out, HF.out]; rfl, PB.below_next HB.out HFW.out⟩
end Go.Proofs.YtdflblegdfpdpaaDoor.FitW
end

section
/- The laws' parameter Parts, opened; its pieces' cells. -/
namespace Go.Proofs.YtdflblegdfpdpaaDoor.PartW
open Go Go.RowKit Go.Proofs.YtdflblegdfpdpaaDoorW.PrintWords Go.Proofs.YtdflblegdfpdpaaDoor.Open Go.Proofs.YtdflblegdfpdpaaDoor.AskW Go.Proofs.YtdflblegdfpdpaaDoor.WriteW Go.Proofs.YtdflblegdfpdpaaDoor.ClassS Go.Proofs.YtdflblegdfpdpaaDoor.GlobS Go.Proofs.YtdflblegdfpdpaaDoor.GlobT
set_option linter.unusedVariables false
def gMem (y : MemT) : Prop := gB y.1 ∧ gB y.2.1 ∧ gT y.2.2.1 ∧ gT y.2.2.2
theorem o_mem : Opens Tryd.prog 72 kMem gMem :=
  opens_struct Tryd.underlying72 rfl (by kernel_rfl) (fields2 rfl o_u8 (fields2 rfl o_u8 (fields2 rfl o_bool (fields1 rfl o_bool))))
def kMems : Kd (List MemT) := Kd.slice 72 kMem
def gMems (l : List MemT) : Prop := GoodL 4 gMem l
theorem o_mems : Opens Tryd.prog 33 kMems gMems := opens_slice Tryd.underlying33 (by kernel_rfl) (by kernel_rfl) o_mem
abbrev PieT := Int × Int × Bool × List MemT
/-- Do, B, Not, Members -/
def kPie : Kd PieT := Kd.pair (Kd.int .i64) (Kd.pair (Kd.int .u8) (Kd.pair Kd.bool kMems))
def gPie (y : PieT) : Prop := gI y.1 ∧ gB y.2.1 ∧ gT y.2.2.1 ∧ gMems y.2.2.2
theorem o_pie : Opens Tryd.prog 35 kPie gPie :=
  opens_struct Tryd.underlying35 rfl (by kernel_rfl) (fields2 rfl o_int (fields2 rfl o_u8 (fields2 rfl o_bool (fields1 rfl o_mems))))
def kPies : Kd (List PieT) := Kd.slice 35 kPie
def gPies (l : List PieT) : Prop := GoodL 40 gPie l
theorem o_pies : Opens Tryd.prog 30 kPies gPies := opens_slice Tryd.underlying30 (by kernel_rfl) (by kernel_rfl) o_pie
abbrev PartT := List PieT × List PieT × List Int
/-- P, Q, T -/
def kParts : Kd PartT := Kd.pair kPies (Kd.pair kPies kBytes)
def gParts (y : PartT) : Prop := gPies y.1 ∧ gPies y.2.1 ∧ gBytes y.2.2
theorem o_parts : Opens Tryd.prog 32 kParts gParts :=
  opens_struct Tryd.underlying32 rfl (by kernel_rfl) (fields2 rfl o_pies (fields2 rfl o_pies (fields1 rfl o_bytes)))
theorem parts_cells {W : World} {y : PartT} {cs : List Value} (h : kParts.K W y cs) : ∃ Ap cp Aq cq At ct, cs = [.slice Ap y.1.length cp, .slice Aq y.2.1.length cq, .slice At y.2.2.length ct] ∧
    y.1.length ≤ cp ∧ kPie.C W Ap y.1.length y.1 ∧ y.2.1.length ≤ cq ∧ kPie.C W Aq y.2.1.length y.2.1 ∧ y.2.2.length ≤ ct ∧ (Kd.int .u8).C W At y.2.2.length y.2.2 := by
  obtain ⟨b0, b1, rfl, ⟨Ap, cp, rfl, hp, hP⟩, c0, c1, rfl, ⟨Aq, cq, rfl, hq, hQ⟩, ⟨At, ct, rfl, ht, hT⟩⟩ := h
  exact ⟨Ap, cp, Aq, cq, At, ct, rfl, hp, hP, hq, hQ, ht, hT⟩
theorem pie_cells {w : World} {ad : Addr} {n : Nat} {l : List PieT} (h : kPie.C w (some ad) n l) (i : Nat) (y : PieT) (hy : l[i]? = some y) :
    ∃ A c, y.2.2.2.length ≤ c ∧ kMem.C w A y.2.2.2.length y.2.2.2 ∧ ∀ j u, ([.int .i64 y.1, .int .u8 y.2.1, .bool y.2.2.1, .slice A y.2.2.2.length c] : List Value)[j]? = some u → w.cell? ((ad.add (i * 4)).add j) = some u := by
  obtain ⟨hi, hp'⟩ := List.getElem?_eq_some_iff.1 hy
  have hn : l.length = n := h.1
  obtain ⟨ad', c, hh, hc, hK, hcells⟩ := Kd.C_get h y (i : Int) (by omega) (by omega)
  obtain rfl : ad = ad' := Option.some.inj hh
  rw [Int.toNat_natCast] at hK hcells
  have he : l.getD i y = y := by rw [List.getD_eq_getElem?_getD, hy]; rfl
  rw [he] at hK
  obtain ⟨b0, b1, rfl, h0, c0, c1, rfl, h1, d0, d1, rfl, h2, ⟨A, cc, rfl, hl, hC⟩⟩ := hK
  have a0 : b0 = [_] := h0
  have a1 : c0 = [_] := h1
  have a2 : d0 = [_] := h2
  subst a0 a1 a2
  refine ⟨A, cc, hl, hC, ?_⟩
  intro j u hu
  rw [HeldW.add_add]
  exact hcells j u hu
theorem good_mems {l : List MemT} (h : gMems l) : ∀ m ∈ l.map toM, goodMem m := by
  intro m hm
  obtain ⟨y, hy, rfl⟩ := List.mem_map.1 hm
  have := h.2 y hy
  exact ⟨wf_u8 this.1, wf_u8 this.2.1⟩
theorem in_spell {b : Int} (pl : Bool) (hb : 0 ≤ b ∧ b < 256) : ∀ x ∈ spellL b pl, 0 ≤ x ∧ x < 256 := by
  intro x hx
  unfold spellL at hx
  split at hx
  · simp only [List.mem_cons, List.not_mem_nil, or_false] at hx; omega
  · simp only [List.mem_cons, List.not_mem_nil, or_false] at hx; omega
theorem in_mems (ms : List Mem) (h : ∀ m ∈ ms, goodMem m) : ∀ x ∈ memsL ms, 0 ≤ x ∧ x < 256 := by
  intro x hx
  obtain ⟨m, hm, hx⟩ := List.mem_flatMap.1 hx
  unfold memL at hx
  rcases List.mem_append.1 hx with hx | hx
  · exact in_spell _ (h m hm).1 x hx
  · split at hx
    · rcases List.mem_cons.1 hx with rfl | hx
      · decide
      · exact in_spell _ (h m hm).2 x hx
    · cases hx
theorem in_write (x : Pie) (hb : 0 ≤ x.b ∧ x.b < 256) (h : ∀ m ∈ x.ms, goodMem m) : ∀ c ∈ writeL x, 0 ≤ c ∧ c < 256 := by
  intro c hc
  unfold writeL at hc
  split at hc
  · simp at hc; omega
  split at hc
  · simp at hc; omega
  split at hc
  · simp at hc; omega
  · rcases List.mem_append.1 hc with hc | hc
    · rcases List.mem_append.1 hc with hc | hc
      · rcases List.mem_append.1 hc with hc | hc
        · simp at hc; omega
        · split at hc
          · simp at hc; omega
          · cases hc
      · exact in_mems _ h c hc
    · simp at hc; omega

/-- A class fits one byte, and that it names. -/
theorem class_pieces (b : Int) (neg : Bool) (l : List MemT) : piecesL (writeL (toP 3 b neg l)) = [⟨false, classQ (toP 3 b neg l)⟩] := by
  have := pieces_write (toP 3 b neg l) []
  rw [List.append_nil] at this
  rw [this]
  have e : piecesL [] = [] := by rw [piecesL]
  rw [e]
  rfl
theorem class_one (b : Int) (neg : Bool) (l : List MemT) (hg : gMems l) (c : Int) (hc : 0 ≤ c ∧ c < 256) : globL (writeL (toP 3 b neg l)) [c] = fitsL (toP 3 b neg l) c := by
  unfold globL
  rw [class_pieces, fits_set rfl, ← has_class (toP 3 b neg l) (good_mems hg) c hc]
  simp [fits]
theorem class_none (b : Int) (neg : Bool) (l : List MemT) : globL (writeL (toP 3 b neg l)) [] = false := by
  unfold globL
  rw [class_pieces, fits_set_nil rfl]
theorem class_two (b : Int) (neg : Bool) (l : List MemT) : globL (writeL (toP 3 b neg l)) [97, 98] = false := by
  unfold globL
  rw [class_pieces, fits_set rfl]
  simp [fits]
end Go.Proofs.YtdflblegdfpdpaaDoor.PartW
end

section
/- The laws' parameter Parts, opened with the second form's bound. -/
namespace Go.Proofs.YtdflblegdfpdpaaDoor.PartB
open Go Go.RowKit Go.Proofs.YtdflblegdfpdpaaDoorW.PrintWords Go.Proofs.YtdflblegdfpdpaaDoor.AskW Go.Proofs.YtdflblegdfpdpaaDoor.WriteW Go.Proofs.YtdflblegdfpdpaaDoor.ClassS Go.Proofs.YtdflblegdfpdpaaDoor.PartW Go.Proofs.YtdflblegdfpdpaaDoor.OpenB
set_option linter.unusedVariables false
theorem b_u8 : OpenB.Opens Tryd.prog 5 (Kd.int .u8) gB := OpenB.opens_int Tryd.underlying5 (by kernel_rfl)
theorem b_int : OpenB.Opens Tryd.prog 3 (Kd.int .i64) gI := OpenB.opens_int Tryd.underlying3 (by kernel_rfl)
theorem b_bool : OpenB.Opens Tryd.prog 4 Kd.bool gT := fun F => ⟨(OpenB.opens_bool Tryd.underlying4 (by kernel_rfl) F).sz, fun hf h hw hk => by
  obtain ⟨y, hy, _⟩ := (OpenB.opens_bool (P := Tryd.prog) Tryd.underlying4 (by kernel_rfl) F).op hf h hw hk
  exact ⟨y, hy, rfl⟩⟩
def gBytesB (l : List Int) : Prop := GoodB 1 (fun x => (Lit.int .u8 x).wf = true) l
theorem b_bytes : OpenB.Opens Tryd.prog 22 kBytes gBytesB := OpenB.opens_slice Tryd.underlying22 (by kernel_rfl) (by kernel_rfl) b_u8
theorem b_mem : OpenB.Opens Tryd.prog 72 kMem gMem :=
  OpenB.opens_struct Tryd.underlying72 rfl (by kernel_rfl) (OpenB.fields2 rfl b_u8 (OpenB.fields2 rfl b_u8 (OpenB.fields2 rfl b_bool (OpenB.fields1 rfl b_bool))))
def gMemsB (l : List MemT) : Prop := GoodB 4 gMem l
theorem b_mems : OpenB.Opens Tryd.prog 33 kMems gMemsB := OpenB.opens_slice Tryd.underlying33 (by kernel_rfl) (by kernel_rfl) b_mem
def gPieB (y : PieT) : Prop := gI y.1 ∧ gB y.2.1 ∧ gT y.2.2.1 ∧ gMemsB y.2.2.2
theorem b_pie : OpenB.Opens Tryd.prog 35 kPie gPieB :=
  OpenB.opens_struct Tryd.underlying35 rfl (by kernel_rfl) (OpenB.fields2 rfl b_int (OpenB.fields2 rfl b_u8 (OpenB.fields2 rfl b_bool (OpenB.fields1 rfl b_mems))))
def gPiesB (l : List PieT) : Prop := GoodB 40 gPieB l
theorem b_pies : OpenB.Opens Tryd.prog 30 kPies gPiesB := OpenB.opens_slice Tryd.underlying30 (by kernel_rfl) (by kernel_rfl) b_pie
def gPartsB (y : PartT) : Prop := gPiesB y.1 ∧ gPiesB y.2.1 ∧ gBytesB y.2.2
theorem b_parts : OpenB.Opens Tryd.prog 32 kParts gPartsB :=
  OpenB.opens_struct Tryd.underlying32 rfl (by kernel_rfl) (OpenB.fields2 rfl b_pies (OpenB.fields2 rfl b_pies (OpenB.fields1 rfl b_bytes)))
end Go.Proofs.YtdflblegdfpdpaaDoor.PartB
end

section
/- Layer 9's parameter Asks, opened with the second form's bound. -/
namespace Go.Proofs.YtdflblegdfpdpaaDoor.AskB
open Go Go.RowKit Go.Proofs.YtdflblegdfpdpaaDoorW.PrintWords Go.Proofs.YtdflblegdfpdpaaDoor.AskW Go.Proofs.YtdflblegdfpdpaaDoor.OpenB Go.Proofs.YtdflblegdfpdpaaDoor.PartB
set_option linter.unusedVariables false
theorem b_i64 : OpenB.Opens Tryd.prog 2 (Kd.int .i64) gI := OpenB.opens_int Tryd.underlying2 (by kernel_rfl)
theorem b_bound : OpenB.Opens Tryd.prog 41 kBound gBound :=
  show OpenB.Opens Tryd.prog 41 (Kd.pair (Kd.int .i64) (Kd.pair (Kd.int .i64) Kd.bool)) (fun y => gI y.1 ∧ gI y.2.1 ∧ gT y.2.2) from OpenB.opens_struct Tryd.underlying41 rfl (by kernel_rfl) (OpenB.fields2 rfl b_int (OpenB.fields2 rfl b_i64 (OpenB.fields1 rfl b_bool)))
def gLexB (y : Int × List Int × Bool) : Prop := gI y.1 ∧ gBytesB y.2.1 ∧ gT y.2.2
theorem b_lex : OpenB.Opens Tryd.prog 43 kLex gLexB :=
  show OpenB.Opens Tryd.prog 43 (Kd.pair (Kd.int .i64) (Kd.pair kBytes Kd.bool)) (fun y => gI y.1 ∧ gBytesB y.2.1 ∧ gT y.2.2) from OpenB.opens_struct Tryd.underlying43 rfl (by kernel_rfl) (OpenB.fields2 rfl b_int (OpenB.fields2 rfl b_bytes (OpenB.fields1 rfl b_bool)))
def gAskB (y : AskT) : Prop := gI y.1 ∧ gBytesB y.2.1 ∧ gBytesB y.2.2.1 ∧ gI y.2.2.2.1 ∧ gI y.2.2.2.2.1 ∧ gI y.2.2.2.2.2.1 ∧ gBound y.2.2.2.2.2.2.1 ∧ gBound y.2.2.2.2.2.2.2.1 ∧ gLexB y.2.2.2.2.2.2.2.2.1 ∧ gLexB y.2.2.2.2.2.2.2.2.2
theorem b_ask : OpenB.Opens Tryd.prog 45 kAsk gAskB :=
  OpenB.opens_struct Tryd.underlying45 rfl (by kernel_rfl) (OpenB.fields2 rfl b_int (OpenB.fields2 rfl b_bytes (OpenB.fields2 rfl b_bytes (OpenB.fields2 rfl b_i64 (OpenB.fields2 rfl b_i64 (OpenB.fields2 rfl b_int (OpenB.fields2 rfl b_bound (OpenB.fields2 rfl b_bound (OpenB.fields2 rfl b_lex (OpenB.fields1 rfl b_lex))))))))))
def gAsksB (l : List AskT) : Prop := GoodB 208 gAskB l
theorem b_asksl : OpenB.Opens Tryd.prog 58 kAsks gAsksB := OpenB.opens_slice Tryd.underlying58 (by kernel_rfl) (by kernel_rfl) b_ask
theorem b_asks : OpenB.Opens Tryd.prog 60 kAsks gAsksB :=
  OpenB.opens_struct Tryd.underlying60 rfl (by kernel_rfl) (OpenB.fields1 rfl b_asksl)
end Go.Proofs.YtdflblegdfpdpaaDoor.AskB
end

section
/- larderlaw9.great, answers to Glob; MatchGlob. -/
namespace Go.Proofs.YtdflblegdfpdpaaDoor.AnsG
open Go Go.RowKit Go.Proofs.YtdflblegdfpdpaaDoorW.PrintWords Go.Proofs.YtdflblegdfpdpaaDoorW.PrintLast Go.Proofs.YtdflblegdfpdpaaDoorW.PrintMore Go.Proofs.YtdflblegdfpdpaaDoor.AskW Go.Proofs.YtdflblegdfpdpaaDoor.HeldW Go.Proofs.YtdflblegdfpdpaaDoor.ScoreW Go.Proofs.YtdflblegdfpdpaaDoor.CopyW Go.Proofs.YtdflblegdfpdpaaDoor.AskB Go.Proofs.YtdflblegdfpdpaaDoor.PartB Go.Proofs.YtdflblegdfpdpaaDoor.GlobS Go.Proofs.YtdflblegdfpdpaaDoor.GlobW
set_option linter.unusedVariables false
set_option maxRecDepth 100000
/-- Would it take too long? -/
def greatB (n m : Nat) : Bool := decide (0 < n) && decide (25000000 / (n : Int) < m)
theorem sizeA : (Tryd.prog.info? 45).map (·.size) = some 18 := by kernel_rfl
theorem keepA {w W W' : World} {g1 : Nat} {cs : Array Value} (h : W.heap[g1]? = some (.cells cs 45 (0, 0)) ∧ Aside0 (Below w.heap.size w W)) (hb : Below W.heap.size W W') : W'.heap[g1]? = some (.cells cs 45 (0, 0)) ∧ Aside0 (Below w.heap.size w W') :=
  ⟨blk_below h.1 hb, ⟨PB.below_next h.2.out hb⟩⟩
theorem globX.calls (A : Option Addr) (c : Nat) (p : List Int) (A1 : Option Addr) (c1 : Nat) (t : List Int) (r : Bool) (hr : globL p t = r) (W : World) (h : Kd.C (Kd.int .u8) W A p.length p) (hc : p.length ≤ c) (hp : ∀ x ∈ p, 0 ≤ x ∧ x < 256) (hpl : p.length ≤ 1048576) (h1 : Kd.C (Kd.int .u8) W A1 t.length t) (hc1 : t.length ≤ c1) (ht : ∀ x ∈ t, 0 ≤ x ∧ x < 256) (htl : t.length ≤ 1048576) (hG : GL W) :
    Calls Tryd.prog 14 #[.slice A p.length c, .slice A1 t.length c1] W fun e w' => e = .returned (.bool r) ∧ Below W.heap.size W w' :=
  hr ▸ GlobW.glob.calls A c p A1 c1 t W h hc hp (by omega) h1 hc1 ht (by omega) hG
theorem refX.calls (A : Option Addr) (c : Nat) (p : List Int) (A1 : Option Addr) (c1 : Nat) (t : List Int) (r : Bool) (hr : globL p t = r) (W : World) (h : Kd.C (Kd.int .u8) W A p.length p) (hc : p.length ≤ c) (hp : ∀ x ∈ p, 0 ≤ x ∧ x < 256) (hpl : p.length ≤ 1048576) (h1 : Kd.C (Kd.int .u8) W A1 t.length t) (hc1 : t.length ≤ c1) (ht : ∀ x ∈ t, 0 ≤ x ∧ x < 256) (htl : t.length ≤ 1048576) :
    Calls Tryd.prog 45 #[.slice A p.length c, .slice A1 t.length c1] W fun e w' => e = .returned (.bool r) ∧ Below W.heap.size W w' :=
  hr ▸ GlobR.glob.calls A c p A1 c1 t W h hc hp hpl h1 hc1 ht htl
set_option maxHeartbeats 4000000 in
theorem great.calls (Ap At A3 A4 : Option Addr) (cp ct c3 c4 : Nat) (lp lt l3 l4 : List Int) (I J N f1 s1 f2 s2 f3 f4 : Int) (o1 o2 o3 o4 : Bool) (w : World) (hlp : lp.length ≤ 1048576) (hlt : lt.length ≤ 1048576) :
    Calls Tryd.prog 43 #[.agg #[.int .i64 1, .slice Ap lp.length cp, .slice At lt.length ct, .int .i64 I, .int .i64 J, .int .i64 N, .int .i64 f1, .int .i64 s1, .bool o1, .int .i64 f2, .int .i64 s2, .bool o2, .int .i64 f3, .slice A3 l3.length c3, .bool o3, .int .i64 f4, .slice A4 l4.length c4, .bool o4]] w fun e w' => e = .returned (.bool (greatB lp.length lt.length)) ∧ Below w.heap.size w w' := by
  have HB := Aside0.mk (Below.refl w.heap.size w)
  by_cases h0 : 0 < lp.length
  · have d0 : decide ((0 : Int) < lp.length) = true := decide_eq_true (by omega)
    have d0' : decide (0 < lp.length) = true := decide_eq_true h0
    have dz : ((lp.length : Int) == 0) = false := beq_eq_false_iff_ne.2 (by omega)
    have hz : ¬ ((lp.length : Int) = 0) := by omega
    obtain ⟨q, hq⟩ : ∃ q, q = 25000000 / (lp.length : Int) := ⟨_, rfl⟩
    have hq0 : 0 ≤ q := by rw [hq]; exact Int.ediv_nonneg (by decide) (by omega)
    have hq1 : q ≤ 25000000 := by rw [hq]; exact Int.ediv_le_self _ (by decide)
    obtain ⟨r, hr⟩ : ∃ r, r = decide (q < (lt.length : Int)) := ⟨_, rfl⟩
    have HRB : Aside0 (greatB lp.length lt.length = r) := ⟨by unfold greatB; rw [d0', Bool.true_and, ← hq, hr]⟩
    have hr2 : decide (q < (lt.length : Int)) = r := hr.symm
    have HTD : Aside0 (¬ lp = [] ∧ Int.tdiv 25000000 (lp.length : Int) = q) := ⟨⟨fun h => by rw [h] at h0; simp at h0, by rw [Int.tdiv_eq_ediv_of_nonneg (by decide), hq]⟩⟩
    clear hq hr h0
    go_enter Tryd.func43, Tryd.ntmps43
    go_upto_region 1 with (first
      | ((with_reducible refine gate_dst (N := 1) rfl ?_); refine box_event ?hg (N := 1) ?hd (cs := #[.int .i64 1, .slice Ap lp.length cp, .slice At lt.length ct, .int .i64 I, .int .i64 J, .int .i64 N, .int .i64 f1, .int .i64 s1, .bool o1, .int .i64 f2, .int .i64 s2, .bool o2, .int .i64 f3, .slice A3 l3.length c3, .bool o3, .int .i64 f4, .slice A4 l4.length c4, .bool o4]) (t := 45) ?hr ?_; (case hd => rfl); (case hg => rfl); (case hr => first | (go_simp; done) | (go_simp; rfl)); intro gb hgb w5 hbox hb; have n0_ := Aside0.mk (below_step HB.out hb); have BK := Aside0.mk hbox; clear HB; have HB := n0_; clear n0_ hb hbox hgb))
    have hS0 : w5.drew.heap[gb]? = some (.cells #[.int .i64 1, .slice Ap lp.length cp, .slice At lt.length ct, .int .i64 I, .int .i64 J, .int .i64 N, .int .i64 f1, .int .i64 s1, .bool o1, .int .i64 f2, .int .i64 s2, .bool o2, .int .i64 f3, .slice A3 l3.length c3, .bool o3, .int .i64 f4, .slice A4 l4.length c4, .bool o4] 45 (0, 0)) ∧ Aside0 (Below w.heap.size w w5.drew) := ⟨BK.out, ⟨HB.out.drew⟩⟩
    clear BK
    refine wp_region_held_drew (S := (fun W => W.heap[gb]? = some (.cells #[.int .i64 1, .slice Ap lp.length cp, .slice At lt.length ct, .int .i64 I, .int .i64 J, .int .i64 N, .int .i64 f1, .int .i64 s1, .bool o1, .int .i64 f2, .int .i64 s2, .bool o2, .int .i64 f3, .slice A3 l3.length c3, .bool o3, .int .i64 f4, .slice A4 l4.length c4, .bool o4] 45 (0, 0)) ∧ Aside0 (Below w.heap.size w W))) (by kernel_rfl) (by exact hS0) (fun hHeld => ?_)
    refine wpAnyH_take (i := 0) (oi := ({ dst := some 3, op := Go.Op.fieldAddr 45 (Go.Operand.tmp 1) 1, type := 0, pos := "law.go:71", after := #[], guard := none } : Oper)) (v := ?vq0) rfl (by kernel_rfl) (by kernel_rfl) (by kernel_rfl) (fun _ _ _ h => h) (Or.inl ⟨by rfl, ?hyq0⟩) (by assumption) ?restq0
    case hyq0 => (intro w hSw; (try dsimp only at hSw); go_simp; (try with_reducible rfl))
    (try simp only [Act.put, List.setIfInBounds_toArray, List.set_cons_zero, List.set_cons_succ])
    refine wpAnyH_take (i := 1) (oi := ({ dst := some 4, op := Go.Op.load 22 (Go.Operand.tmp 3), type := 22, pos := "law.go:71", after := #[{ on := 0, ground := Go.Ground.data }], guard := none } : Oper)) (v := ?vq1) rfl (by kernel_rfl) (by kernel_rfl) (by kernel_rfl) (fun _ _ _ h => h) (Or.inl ⟨by rfl, ?hyq1⟩) (by assumption) ?restq1
    case hyq1 => (intro w hSw; (try dsimp only at hSw); have z : w.cell? ⟨gb, 1, none⟩ = some (.slice Ap lp.length cp) := (blk_cell hSw.1 1).trans rfl; go_simp; (try with_reducible rfl))
    (try simp only [Act.put, List.setIfInBounds_toArray, List.set_cons_zero, List.set_cons_succ])
    refine wpAnyH_take (i := 2) (oi := ({ dst := some 5, op := Go.Op.call { callee := Go.Callee.builtin Go.Builtin.len, args := #[Go.Operand.tmp 4], argTypes := #[22] }, type := 3, pos := "law.go:71", after := #[{ on := 1, ground := Go.Ground.data }], guard := none } : Oper)) (v := ?vq2) rfl (by kernel_rfl) (by kernel_rfl) (by kernel_rfl) (fun _ _ _ h => h) (Or.inl ⟨by rfl, ?hyq2⟩) (by assumption) ?restq2
    case hyq2 => (intro w hSw; (try dsimp only at hSw); go_simp; (try with_reducible rfl))
    (try simp only [Act.put, List.setIfInBounds_toArray, List.set_cons_zero, List.set_cons_succ])
    refine wpAnyH_take (i := 3) (oi := ({ dst := some 6, op := Go.Op.binOp Go.BinOp.gtr 3 (Go.Operand.tmp 5) (Go.Operand.const (Go.Value.int Go.IntKind.i64 0)) 3, type := 4, pos := "law.go:71", after := #[{ on := 2, ground := Go.Ground.data }], guard := none } : Oper)) (v := ?vq3) rfl (by kernel_rfl) (by kernel_rfl) (by kernel_rfl) (fun _ _ _ h => h) (Or.inl ⟨by rfl, ?hyq3⟩) (by assumption) ?restq3
    case hyq3 => (intro w hSw; (try dsimp only at hSw); go_simp; (try with_reducible rfl))
    (try simp only [Act.put, List.setIfInBounds_toArray, List.set_cons_zero, List.set_cons_succ])
    refine wpAnyH_take (i := 4) (oi := ({ dst := some 7, op := Go.Op.move (Go.Operand.tmp 6), type := 4, pos := "law.go:71", after := #[{ on := 3, ground := Go.Ground.data }], guard := none } : Oper)) (v := ?vq4) rfl (by kernel_rfl) (by kernel_rfl) (by kernel_rfl) (fun _ _ _ h => h) (Or.inl ⟨by rfl, ?hyq4⟩) (by assumption) ?restq4
    case hyq4 => (intro w hSw; (try dsimp only at hSw); go_simp; (try with_reducible rfl))
    (try simp only [Act.put, List.setIfInBounds_toArray, List.set_cons_zero, List.set_cons_succ])
    refine wpAnyH_take (i := 5) (oi := ({ dst := some 8, op := Go.Op.fieldAddr 45 (Go.Operand.tmp 1) 2, type := 0, pos := "law.go:71", after := #[{ on := 4, ground := Go.Ground.guard }], guard := some (4, true) } : Oper)) (v := ?vq5) rfl (by kernel_rfl) (by kernel_rfl) (by kernel_rfl) (fun _ _ _ h => h) (Or.inl ⟨by rfl, ?hyq5⟩) (by assumption) ?restq5
    case hyq5 => (intro w hSw; (try dsimp only at hSw); go_simp; (try with_reducible rfl))
    (try simp only [Act.put, List.setIfInBounds_toArray, List.set_cons_zero, List.set_cons_succ])
    refine wpAnyH_take (i := 6) (oi := ({ dst := some 9, op := Go.Op.load 22 (Go.Operand.tmp 8), type := 22, pos := "law.go:71", after := #[{ on := 5, ground := Go.Ground.data }, { on := 4, ground := Go.Ground.guard }], guard := some (4, true) } : Oper)) (v := ?vq6) rfl (by kernel_rfl) (by kernel_rfl) (by kernel_rfl) (fun _ _ _ h => h) (Or.inl ⟨by rfl, ?hyq6⟩) (by assumption) ?restq6
    case hyq6 => (intro w hSw; (try dsimp only at hSw); have z : w.cell? ⟨gb, 2, none⟩ = some (.slice At lt.length ct) := (blk_cell hSw.1 2).trans rfl; go_simp; (try with_reducible rfl))
    (try simp only [Act.put, List.setIfInBounds_toArray, List.set_cons_zero, List.set_cons_succ])
    refine wpAnyH_take (i := 7) (oi := ({ dst := some 10, op := Go.Op.call { callee := Go.Callee.builtin Go.Builtin.len, args := #[Go.Operand.tmp 9], argTypes := #[22] }, type := 3, pos := "law.go:71", after := #[{ on := 6, ground := Go.Ground.data }, { on := 4, ground := Go.Ground.guard }], guard := some (4, true) } : Oper)) (v := ?vq7) rfl (by kernel_rfl) (by kernel_rfl) (by kernel_rfl) (fun _ _ _ h => h) (Or.inl ⟨by rfl, ?hyq7⟩) (by assumption) ?restq7
    case hyq7 => (intro w hSw; (try dsimp only at hSw); go_simp; (try with_reducible rfl))
    (try simp only [Act.put, List.setIfInBounds_toArray, List.set_cons_zero, List.set_cons_succ])
    refine wpAnyH_take (i := 8) (oi := ({ dst := some 11, op := Go.Op.fieldAddr 45 (Go.Operand.tmp 1) 1, type := 0, pos := "law.go:71", after := #[{ on := 4, ground := Go.Ground.guard }], guard := some (4, true) } : Oper)) (v := ?vq8) rfl (by kernel_rfl) (by kernel_rfl) (by kernel_rfl) (fun _ _ _ h => h) (Or.inl ⟨by rfl, ?hyq8⟩) (by assumption) ?restq8
    case hyq8 => (intro w hSw; (try dsimp only at hSw); go_simp; (try with_reducible rfl))
    (try simp only [Act.put, List.setIfInBounds_toArray, List.set_cons_zero, List.set_cons_succ])
    refine wpAnyH_take (i := 9) (oi := ({ dst := some 12, op := Go.Op.load 22 (Go.Operand.tmp 11), type := 22, pos := "law.go:71", after := #[{ on := 8, ground := Go.Ground.data }, { on := 4, ground := Go.Ground.guard }], guard := some (4, true) } : Oper)) (v := ?vq9) rfl (by kernel_rfl) (by kernel_rfl) (by kernel_rfl) (fun _ _ _ h => h) (Or.inl ⟨by rfl, ?hyq9⟩) (by assumption) ?restq9
    case hyq9 => (intro w hSw; (try dsimp only at hSw); have z : w.cell? ⟨gb, 1, none⟩ = some (.slice Ap lp.length cp) := (blk_cell hSw.1 1).trans rfl; go_simp; (try with_reducible rfl))
    (try simp only [Act.put, List.setIfInBounds_toArray, List.set_cons_zero, List.set_cons_succ])
    refine wpAnyH_take (i := 10) (oi := ({ dst := some 13, op := Go.Op.call { callee := Go.Callee.builtin Go.Builtin.len, args := #[Go.Operand.tmp 12], argTypes := #[22] }, type := 3, pos := "law.go:71", after := #[{ on := 9, ground := Go.Ground.data }, { on := 4, ground := Go.Ground.guard }], guard := some (4, true) } : Oper)) (v := ?vq10) rfl (by kernel_rfl) (by kernel_rfl) (by kernel_rfl) (fun _ _ _ h => h) (Or.inl ⟨by rfl, ?hyq10⟩) (by assumption) ?restq10
    case hyq10 => (intro w hSw; (try dsimp only at hSw); go_simp; (try with_reducible rfl))
    (try simp only [Act.put, List.setIfInBounds_toArray, List.set_cons_zero, List.set_cons_succ])
    refine wpAnyH_take (i := 11) (oi := ({ dst := some 14, op := Go.Op.binOp Go.BinOp.quo 3 (Go.Operand.const (Go.Value.int Go.IntKind.i64 25000000)) (Go.Operand.tmp 13) 3, type := 3, pos := "law.go:71", after := #[{ on := 10, ground := Go.Ground.data }, { on := 4, ground := Go.Ground.guard }], guard := some (4, true) } : Oper)) (v := Value.int .i64 q) rfl (by kernel_rfl) (by kernel_rfl) (by kernel_rfl) (fun _ _ _ h => h) (Or.inl ⟨by rfl, ?hyq11⟩) (by assumption) ?restq11
    case hyq11 => (intro w hSw; (try dsimp only at hSw); go_simp; rw [if_neg HTD.out.1, HTD.out.2, show IntKind.i64.wrap q = q by rw [IntKind.wrap_i64]; omega])
    (try simp only [Act.put, List.setIfInBounds_toArray, List.set_cons_zero, List.set_cons_succ])
    refine wpAnyH_take (i := 12) (oi := ({ dst := some 15, op := Go.Op.binOp Go.BinOp.gtr 3 (Go.Operand.tmp 10) (Go.Operand.tmp 14) 3, type := 4, pos := "law.go:71", after := #[{ on := 7, ground := Go.Ground.data }, { on := 11, ground := Go.Ground.data }, { on := 4, ground := Go.Ground.guard }], guard := some (4, true) } : Oper)) (v := ?vq12) rfl (by kernel_rfl) (by kernel_rfl) (by kernel_rfl) (fun _ _ _ h => h) (Or.inl ⟨by rfl, ?hyq12⟩) (by assumption) ?restq12
    case hyq12 => (intro w hSw; (try dsimp only at hSw); go_simp; (try with_reducible rfl))
    (try simp only [Act.put, List.setIfInBounds_toArray, List.set_cons_zero, List.set_cons_succ])
    refine wpAnyH_take (i := 13) (oi := ({ dst := some 16, op := Go.Op.pick (Go.Operand.tmp 7) (Go.Operand.tmp 15) (Go.Operand.const (Go.Value.bool false)), type := 4, pos := "law.go:71", after := #[{ on := 4, ground := Go.Ground.data }, { on := 12, ground := Go.Ground.data }], guard := none } : Oper)) (v := ?vq13) rfl (by kernel_rfl) (by kernel_rfl) (by kernel_rfl) (fun _ _ _ h => h) (Or.inl ⟨by rfl, ?hyq13⟩) (by assumption) ?restq13
    case hyq13 => (intro w hSw; (try dsimp only at hSw); go_simp; (try with_reducible rfl))
    (try simp only [Act.put, List.setIfInBounds_toArray, List.set_cons_zero, List.set_cons_succ])
    refine wpAnyH_take (i := 14) (oi := ({ dst := some 2, op := Go.Op.assign (Go.Operand.tmp 16), type := 4, pos := "law.go:71", after := #[{ on := 13, ground := Go.Ground.data }, { on := 4, ground := Go.Ground.chain }, { on := 0, ground := Go.Ground.phase }, { on := 1, ground := Go.Ground.phase }, { on := 2, ground := Go.Ground.phase }, { on := 3, ground := Go.Ground.phase }, { on := 4, ground := Go.Ground.phase }, { on := 5, ground := Go.Ground.phase }, { on := 6, ground := Go.Ground.phase }, { on := 7, ground := Go.Ground.phase }, { on := 8, ground := Go.Ground.phase }, { on := 9, ground := Go.Ground.phase }, { on := 10, ground := Go.Ground.phase }, { on := 11, ground := Go.Ground.phase }, { on := 12, ground := Go.Ground.phase }, { on := 13, ground := Go.Ground.phase }], guard := none } : Oper)) (v := ?vq14) rfl (by kernel_rfl) (by kernel_rfl) (by kernel_rfl) (fun _ _ _ h => h) (Or.inl ⟨by rfl, ?hyq14⟩) (by assumption) ?restq14
    case hyq14 => (intro w hSw; (try dsimp only at hSw); go_simp; (try with_reducible rfl))
    (try simp only [Act.put, List.setIfInBounds_toArray, List.set_cons_zero, List.set_cons_succ])
    refine wpAnyH_done (by kernel_rfl) ?_ _
    (try go_wp2_with fail)
    go_ret
    exact ⟨by rw [HRB.out]; rfl, hHeld.2.out⟩
  · have d0 : decide ((0 : Int) < lp.length) = false := decide_eq_false (by omega)
    have d0' : decide (0 < lp.length) = false := decide_eq_false h0
    have HRB : Aside0 (greatB lp.length lt.length = false) := ⟨by unfold greatB; rw [d0', Bool.false_and]⟩
    clear h0
    go_enter Tryd.func43, Tryd.ntmps43
    go_upto_region 1 with (first
      | ((with_reducible refine gate_dst (N := 1) rfl ?_); refine box_event ?hg (N := 1) ?hd (cs := #[.int .i64 1, .slice Ap lp.length cp, .slice At lt.length ct, .int .i64 I, .int .i64 J, .int .i64 N, .int .i64 f1, .int .i64 s1, .bool o1, .int .i64 f2, .int .i64 s2, .bool o2, .int .i64 f3, .slice A3 l3.length c3, .bool o3, .int .i64 f4, .slice A4 l4.length c4, .bool o4]) (t := 45) ?hr ?_; (case hd => rfl); (case hg => rfl); (case hr => first | (go_simp; done) | (go_simp; rfl)); intro gb hgb w5 hbox hb; have n0_ := Aside0.mk (below_step HB.out hb); have BK := Aside0.mk hbox; clear HB; have HB := n0_; clear n0_ hb hbox hgb))
    have hS0 : w5.drew.heap[gb]? = some (.cells #[.int .i64 1, .slice Ap lp.length cp, .slice At lt.length ct, .int .i64 I, .int .i64 J, .int .i64 N, .int .i64 f1, .int .i64 s1, .bool o1, .int .i64 f2, .int .i64 s2, .bool o2, .int .i64 f3, .slice A3 l3.length c3, .bool o3, .int .i64 f4, .slice A4 l4.length c4, .bool o4] 45 (0, 0)) ∧ Aside0 (Below w.heap.size w w5.drew) := ⟨BK.out, ⟨HB.out.drew⟩⟩
    clear BK
    refine wp_region_held_drew (S := (fun W => W.heap[gb]? = some (.cells #[.int .i64 1, .slice Ap lp.length cp, .slice At lt.length ct, .int .i64 I, .int .i64 J, .int .i64 N, .int .i64 f1, .int .i64 s1, .bool o1, .int .i64 f2, .int .i64 s2, .bool o2, .int .i64 f3, .slice A3 l3.length c3, .bool o3, .int .i64 f4, .slice A4 l4.length c4, .bool o4] 45 (0, 0)) ∧ Aside0 (Below w.heap.size w W))) (by kernel_rfl) (by exact hS0) (fun hHeld => ?_)
    refine wpAnyH_take (i := 0) (oi := ({ dst := some 3, op := Go.Op.fieldAddr 45 (Go.Operand.tmp 1) 1, type := 0, pos := "law.go:71", after := #[], guard := none } : Oper)) (v := ?vp0) rfl (by kernel_rfl) (by kernel_rfl) (by kernel_rfl) (fun _ _ _ h => h) (Or.inl ⟨by rfl, ?hyp0⟩) (by assumption) ?restp0
    case hyp0 => (intro w hSw; (try dsimp only at hSw); go_simp; (try with_reducible rfl))
    (try simp only [Act.put, List.setIfInBounds_toArray, List.set_cons_zero, List.set_cons_succ])
    refine wpAnyH_take (i := 1) (oi := ({ dst := some 4, op := Go.Op.load 22 (Go.Operand.tmp 3), type := 22, pos := "law.go:71", after := #[{ on := 0, ground := Go.Ground.data }], guard := none } : Oper)) (v := ?vp1) rfl (by kernel_rfl) (by kernel_rfl) (by kernel_rfl) (fun _ _ _ h => h) (Or.inl ⟨by rfl, ?hyp1⟩) (by assumption) ?restp1
    case hyp1 => (intro w hSw; (try dsimp only at hSw); have z : w.cell? ⟨gb, 1, none⟩ = some (.slice Ap lp.length cp) := (blk_cell hSw.1 1).trans rfl; go_simp; (try with_reducible rfl))
    (try simp only [Act.put, List.setIfInBounds_toArray, List.set_cons_zero, List.set_cons_succ])
    refine wpAnyH_take (i := 2) (oi := ({ dst := some 5, op := Go.Op.call { callee := Go.Callee.builtin Go.Builtin.len, args := #[Go.Operand.tmp 4], argTypes := #[22] }, type := 3, pos := "law.go:71", after := #[{ on := 1, ground := Go.Ground.data }], guard := none } : Oper)) (v := ?vp2) rfl (by kernel_rfl) (by kernel_rfl) (by kernel_rfl) (fun _ _ _ h => h) (Or.inl ⟨by rfl, ?hyp2⟩) (by assumption) ?restp2
    case hyp2 => (intro w hSw; (try dsimp only at hSw); go_simp; (try with_reducible rfl))
    (try simp only [Act.put, List.setIfInBounds_toArray, List.set_cons_zero, List.set_cons_succ])
    refine wpAnyH_take (i := 3) (oi := ({ dst := some 6, op := Go.Op.binOp Go.BinOp.gtr 3 (Go.Operand.tmp 5) (Go.Operand.const (Go.Value.int Go.IntKind.i64 0)) 3, type := 4, pos := "law.go:71", after := #[{ on := 2, ground := Go.Ground.data }], guard := none } : Oper)) (v := ?vp3) rfl (by kernel_rfl) (by kernel_rfl) (by kernel_rfl) (fun _ _ _ h => h) (Or.inl ⟨by rfl, ?hyp3⟩) (by assumption) ?restp3
    case hyp3 => (intro w hSw; (try dsimp only at hSw); go_simp; (try with_reducible rfl))
    (try simp only [Act.put, List.setIfInBounds_toArray, List.set_cons_zero, List.set_cons_succ])
    refine wpAnyH_take (i := 4) (oi := ({ dst := some 7, op := Go.Op.move (Go.Operand.tmp 6), type := 4, pos := "law.go:71", after := #[{ on := 3, ground := Go.Ground.data }], guard := none } : Oper)) (v := ?vp4) rfl (by kernel_rfl) (by kernel_rfl) (by kernel_rfl) (fun _ _ _ h => h) (Or.inl ⟨by rfl, ?hyp4⟩) (by assumption) ?restp4
    case hyp4 => (intro w hSw; (try dsimp only at hSw); go_simp; (try with_reducible rfl))
    (try simp only [Act.put, List.setIfInBounds_toArray, List.set_cons_zero, List.set_cons_succ])
    refine wpAnyH_take (i := 5) (oi := ({ dst := some 8, op := Go.Op.fieldAddr 45 (Go.Operand.tmp 1) 2, type := 0, pos := "law.go:71", after := #[{ on := 4, ground := Go.Ground.guard }], guard := some (4, true) } : Oper)) (v := undef) rfl (by kernel_rfl) (by kernel_rfl) (by kernel_rfl) (fun _ _ _ h => h) (Or.inr ⟨by rfl, rfl⟩) (by assumption) ?_
    (try simp only [Act.put, List.setIfInBounds_toArray, List.set_cons_zero, List.set_cons_succ])
    refine wpAnyH_take (i := 6) (oi := ({ dst := some 9, op := Go.Op.load 22 (Go.Operand.tmp 8), type := 22, pos := "law.go:71", after := #[{ on := 5, ground := Go.Ground.data }, { on := 4, ground := Go.Ground.guard }], guard := some (4, true) } : Oper)) (v := undef) rfl (by kernel_rfl) (by kernel_rfl) (by kernel_rfl) (fun _ _ _ h => h) (Or.inr ⟨by rfl, rfl⟩) (by assumption) ?_
    (try simp only [Act.put, List.setIfInBounds_toArray, List.set_cons_zero, List.set_cons_succ])
    refine wpAnyH_take (i := 7) (oi := ({ dst := some 10, op := Go.Op.call { callee := Go.Callee.builtin Go.Builtin.len, args := #[Go.Operand.tmp 9], argTypes := #[22] }, type := 3, pos := "law.go:71", after := #[{ on := 6, ground := Go.Ground.data }, { on := 4, ground := Go.Ground.guard }], guard := some (4, true) } : Oper)) (v := undef) rfl (by kernel_rfl) (by kernel_rfl) (by kernel_rfl) (fun _ _ _ h => h) (Or.inr ⟨by rfl, rfl⟩) (by assumption) ?_
    (try simp only [Act.put, List.setIfInBounds_toArray, List.set_cons_zero, List.set_cons_succ])
    refine wpAnyH_take (i := 8) (oi := ({ dst := some 11, op := Go.Op.fieldAddr 45 (Go.Operand.tmp 1) 1, type := 0, pos := "law.go:71", after := #[{ on := 4, ground := Go.Ground.guard }], guard := some (4, true) } : Oper)) (v := undef) rfl (by kernel_rfl) (by kernel_rfl) (by kernel_rfl) (fun _ _ _ h => h) (Or.inr ⟨by rfl, rfl⟩) (by assumption) ?_
    (try simp only [Act.put, List.setIfInBounds_toArray, List.set_cons_zero, List.set_cons_succ])
    refine wpAnyH_take (i := 9) (oi := ({ dst := some 12, op := Go.Op.load 22 (Go.Operand.tmp 11), type := 22, pos := "law.go:71", after := #[{ on := 8, ground := Go.Ground.data }, { on := 4, ground := Go.Ground.guard }], guard := some (4, true) } : Oper)) (v := undef) rfl (by kernel_rfl) (by kernel_rfl) (by kernel_rfl) (fun _ _ _ h => h) (Or.inr ⟨by rfl, rfl⟩) (by assumption) ?_
    (try simp only [Act.put, List.setIfInBounds_toArray, List.set_cons_zero, List.set_cons_succ])
    refine wpAnyH_take (i := 10) (oi := ({ dst := some 13, op := Go.Op.call { callee := Go.Callee.builtin Go.Builtin.len, args := #[Go.Operand.tmp 12], argTypes := #[22] }, type := 3, pos := "law.go:71", after := #[{ on := 9, ground := Go.Ground.data }, { on := 4, ground := Go.Ground.guard }], guard := some (4, true) } : Oper)) (v := undef) rfl (by kernel_rfl) (by kernel_rfl) (by kernel_rfl) (fun _ _ _ h => h) (Or.inr ⟨by rfl, rfl⟩) (by assumption) ?_
    (try simp only [Act.put, List.setIfInBounds_toArray, List.set_cons_zero, List.set_cons_succ])
    refine wpAnyH_take (i := 11) (oi := ({ dst := some 14, op := Go.Op.binOp Go.BinOp.quo 3 (Go.Operand.const (Go.Value.int Go.IntKind.i64 25000000)) (Go.Operand.tmp 13) 3, type := 3, pos := "law.go:71", after := #[{ on := 10, ground := Go.Ground.data }, { on := 4, ground := Go.Ground.guard }], guard := some (4, true) } : Oper)) (v := undef) rfl (by kernel_rfl) (by kernel_rfl) (by kernel_rfl) (fun _ _ _ h => h) (Or.inr ⟨by rfl, rfl⟩) (by assumption) ?_
    (try simp only [Act.put, List.setIfInBounds_toArray, List.set_cons_zero, List.set_cons_succ])
    refine wpAnyH_take (i := 12) (oi := ({ dst := some 15, op := Go.Op.binOp Go.BinOp.gtr 3 (Go.Operand.tmp 10) (Go.Operand.tmp 14) 3, type := 4, pos := "law.go:71", after := #[{ on := 7, ground := Go.Ground.data }, { on := 11, ground := Go.Ground.data }, { on := 4, ground := Go.Ground.guard }], guard := some (4, true) } : Oper)) (v := undef) rfl (by kernel_rfl) (by kernel_rfl) (by kernel_rfl) (fun _ _ _ h => h) (Or.inr ⟨by rfl, rfl⟩) (by assumption) ?_
    (try simp only [Act.put, List.setIfInBounds_toArray, List.set_cons_zero, List.set_cons_succ])
    refine wpAnyH_take (i := 13) (oi := ({ dst := some 16, op := Go.Op.pick (Go.Operand.tmp 7) (Go.Operand.tmp 15) (Go.Operand.const (Go.Value.bool false)), type := 4, pos := "law.go:71", after := #[{ on := 4, ground := Go.Ground.data }, { on := 12, ground := Go.Ground.data }], guard := none } : Oper)) (v := ?vp13) rfl (by kernel_rfl) (by kernel_rfl) (by kernel_rfl) (fun _ _ _ h => h) (Or.inl ⟨by rfl, ?hyp13⟩) (by assumption) ?restp13
    case hyp13 => (intro w hSw; (try dsimp only at hSw); go_simp; (try with_reducible rfl))
    (try simp only [Act.put, List.setIfInBounds_toArray, List.set_cons_zero, List.set_cons_succ])
    refine wpAnyH_take (i := 14) (oi := ({ dst := some 2, op := Go.Op.assign (Go.Operand.tmp 16), type := 4, pos := "law.go:71", after := #[{ on := 13, ground := Go.Ground.data }, { on := 4, ground := Go.Ground.chain }, { on := 0, ground := Go.Ground.phase }, { on := 1, ground := Go.Ground.phase }, { on := 2, ground := Go.Ground.phase }, { on := 3, ground := Go.Ground.phase }, { on := 4, ground := Go.Ground.phase }, { on := 5, ground := Go.Ground.phase }, { on := 6, ground := Go.Ground.phase }, { on := 7, ground := Go.Ground.phase }, { on := 8, ground := Go.Ground.phase }, { on := 9, ground := Go.Ground.phase }, { on := 10, ground := Go.Ground.phase }, { on := 11, ground := Go.Ground.phase }, { on := 12, ground := Go.Ground.phase }, { on := 13, ground := Go.Ground.phase }], guard := none } : Oper)) (v := ?vp14) rfl (by kernel_rfl) (by kernel_rfl) (by kernel_rfl) (fun _ _ _ h => h) (Or.inl ⟨by rfl, ?hyp14⟩) (by assumption) ?restp14
    case hyp14 => (intro w hSw; (try dsimp only at hSw); go_simp; (try with_reducible rfl))
    (try simp only [Act.put, List.setIfInBounds_toArray, List.set_cons_zero, List.set_cons_succ])
    refine wpAnyH_done (by kernel_rfl) ?_ _
    (try go_wp2_with fail)
    go_ret
    exact ⟨by rw [HRB.out]; rfl, hHeld.2.out⟩
theorem greatX.calls (Ap At A3 A4 : Option Addr) (cp ct c3 c4 : Nat) (lp lt l3 l4 : List Int) (I J N f1 s1 f2 s2 f3 f4 : Int) (o1 o2 o3 o4 : Bool) (b : Bool) (hb : greatB lp.length lt.length = b) (w : World) (hlp : lp.length ≤ 1048576) (hlt : lt.length ≤ 1048576) :
    Calls Tryd.prog 43 #[.agg #[.int .i64 1, .slice Ap lp.length cp, .slice At lt.length ct, .int .i64 I, .int .i64 J, .int .i64 N, .int .i64 f1, .int .i64 s1, .bool o1, .int .i64 f2, .int .i64 s2, .bool o2, .int .i64 f3, .slice A3 l3.length c3, .bool o3, .int .i64 f4, .slice A4 l4.length c4, .bool o4]] w fun e w' => e = .returned (.bool b) ∧ Below w.heap.size w w' := hb ▸ great.calls Ap At A3 A4 cp ct c3 c4 lp lt l3 l4 I J N f1 s1 f2 s2 f3 f4 o1 o2 o3 o4 w hlp hlt
set_option maxHeartbeats 8000000 in
theorem ans1 (y : AskT) (hd : y.1 = 1) (hP : gBytesB y.2.1) (hT : gBytesB y.2.2.1) : AnsOk y := by
  intro w ca hG hK
  obtain ⟨Ap, cp, At, ct, A3, c3, A4, c4, he, hcp, hCp, hct, hCt, _⟩ := ask_cells hK
  obtain ⟨d, lp, lt, I, J, N, ⟨f1, s1, o1⟩, ⟨f2, s2, o2⟩, ⟨f3, l3, o3⟩, ⟨f4, l4, o4⟩⟩ := y
  obtain rfl : d = 1 := hd
  obtain rfl : ca = #[.int .i64 1, .slice Ap lp.length cp, .slice At lt.length ct, .int .i64 I, .int .i64 J, .int .i64 N, .int .i64 f1, .int .i64 s1, .bool o1, .int .i64 f2, .int .i64 s2, .bool o2, .int .i64 f3, .slice A3 l3.length c3, .bool o3, .int .i64 f4, .slice A4 l4.length c4, .bool o4] := by cases ca; simp_all
  have hlp : lp.length ≤ 1048576 := hP.1
  have hlt : lt.length ≤ 1048576 := hT.1
  have HIP : Aside0 (∀ x ∈ lp, 0 ≤ x ∧ x < 256) := ⟨fun x hx => wf_u8 (hP.2.2 x hx)⟩
  have HIT : Aside0 (∀ x ∈ lt, 0 ≤ x ∧ x < 256) := ⟨fun x hx => wf_u8 (hT.2.2 x hx)⟩
  have hcp : lp.length ≤ cp := hcp
  have hct : lt.length ≤ ct := hct
  have hCp : Kd.C (Kd.int .u8) w Ap lp.length lp := hCp
  have hCt : Kd.C (Kd.int .u8) w At lt.length lt := hCt
  rename_i hrest_
  clear hrest_
  have HG := Aside0.mk hG
  have HP := Aside0.mk hCp
  have HT := Aside0.mk hCt
  have HB := Aside0.mk (Below.refl w.heap.size w)
  obtain ⟨r, hr⟩ : ∃ r, globL lp lt = r := ⟨_, rfl⟩
  have HRL := Aside0.mk hr
  obtain ⟨b, hb⟩ : ∃ b, greatB lp.length lt.length = b := ⟨_, rfl⟩
  have HGB := Aside0.mk hb
  clear hG hK he hP hT hCp hCt hr hb
  go_enter Tryd.func37, Tryd.ntmps37
  go_upto_region 3 with (first
    | ((with_reducible refine gate_dst (N := 1) rfl ?_); refine box_event ?hg (N := 1) ?hd (cs := #[.int .i64 1, .slice Ap lp.length cp, .slice At lt.length ct, .int .i64 I, .int .i64 J, .int .i64 N, .int .i64 f1, .int .i64 s1, .bool o1, .int .i64 f2, .int .i64 s2, .bool o2, .int .i64 f3, .slice A3 l3.length c3, .bool o3, .int .i64 f4, .slice A4 l4.length c4, .bool o4]) (t := 45) ?hr ?_; (case hd => rfl); (case hg => rfl); (case hr => first | (go_simp; done) | (go_simp; rfl)); intro gb hgb w5 hbox hb; have n0_ := Aside0.mk (below_step HB.out hb); have BK := Aside0.mk hbox; clear HB; have HB := n0_; clear n0_ hb hbox hgb; have z0 : w5.cell? ⟨gb, 0, none⟩ = some (.int .i64 1) := (blk_cell BK.out 0).trans rfl))
  have hS0 : w5.drew.heap[gb]? = some (.cells #[.int .i64 1, .slice Ap lp.length cp, .slice At lt.length ct, .int .i64 I, .int .i64 J, .int .i64 N, .int .i64 f1, .int .i64 s1, .bool o1, .int .i64 f2, .int .i64 s2, .bool o2, .int .i64 f3, .slice A3 l3.length c3, .bool o3, .int .i64 f4, .slice A4 l4.length c4, .bool o4] 45 (0, 0)) ∧ Aside0 (Below w.heap.size w w5.drew) := ⟨BK.out, ⟨HB.out.drew⟩⟩
  clear z0 BK
  cases b
  · skip
    refine wp_region_held_drew (S := (fun W => W.heap[gb]? = some (.cells #[.int .i64 1, .slice Ap lp.length cp, .slice At lt.length ct, .int .i64 I, .int .i64 J, .int .i64 N, .int .i64 f1, .int .i64 s1, .bool o1, .int .i64 f2, .int .i64 s2, .bool o2, .int .i64 f3, .slice A3 l3.length c3, .bool o3, .int .i64 f4, .slice A4 l4.length c4, .bool o4] 45 (0, 0)) ∧ Aside0 (Below w.heap.size w W))) (by kernel_rfl) (by exact hS0) (fun hHeld => ?_)
    refine wpAnyH_take (i := 0) (oi := ({ dst := some 17, op := Go.Op.load 45 (Go.Operand.tmp 1), type := 45, pos := "law.go:77", after := #[], guard := none } : Oper)) (v := Value.agg #[.int .i64 1, .slice Ap lp.length cp, .slice At lt.length ct, .int .i64 I, .int .i64 J, .int .i64 N, .int .i64 f1, .int .i64 s1, .bool o1, .int .i64 f2, .int .i64 s2, .bool o2, .int .i64 f3, .slice A3 l3.length c3, .bool o3, .int .i64 f4, .slice A4 l4.length c4, .bool o4]) rfl (by kernel_rfl) (by kernel_rfl) (by kernel_rfl) (fun _ _ _ h => h) (Or.inl ⟨by rfl, ?hys0⟩) (by assumption) ?rests0
    case hys0 => (intro w hSw; (try dsimp only at hSw); have hl := run_loadVar_row (P := Tryd.prog) w gb 45 45 _ (0, 0) _ hSw.1 Tryd.underlying45 rfl sizeA; simp [execOp, Act.eval, Instr.loadAt, Instr.sureAddr, hl]; (try rfl))
    (try simp only [Act.put, List.setIfInBounds_toArray, List.set_cons_zero, List.set_cons_succ])
    refine wpAnyH_ready (rs := [1]) (by kernel_rfl) (by simp) ?_
    refine AllReadyH.cons (o := ({ dst := some 18, op := Go.Op.call { callee := Go.Callee.value (Go.Operand.func 43), args := #[Go.Operand.tmp 17], argTypes := #[45] }, type := 4, pos := "law.go:77", after := #[{ on := 0, ground := Go.Ground.data }], guard := none } : Oper)) rfl (fun K hK => ?_) AllReadyH.nil
    go_simp
    refine (greatX.calls Ap At A3 A4 cp ct c3 c4 lp lt l3 l4 I J N f1 s1 f2 s2 f3 f4 o1 o2 o3 o4 false HGB.out _ hlp hlt).mono ?_
    rintro e wx ⟨rfl, hb⟩
    have hS1 := keepA hHeld hb
    clear hb
    (try go_wp2_with fail)
    refine hK.out _ _ (by exact hS1) (fun hHeld => ?_)
    clear hK K
    (try simp only [Act.put, List.setIfInBounds_toArray, List.set_cons_zero, List.set_cons_succ])
    refine wpAnyH_take (i := 2) (oi := ({ dst := some 19, op := Go.Op.move (Go.Operand.tmp 18), type := 4, pos := "law.go:77", after := #[{ on := 1, ground := Go.Ground.data }, { on := 1, ground := Go.Ground.chain }], guard := none } : Oper)) (v := ?vs2) rfl (by kernel_rfl) (by kernel_rfl) (by kernel_rfl) (fun _ _ _ h => h) (Or.inl ⟨by rfl, ?hys2⟩) (by assumption) ?rests2
    case hys2 => (intro w hSw; (try dsimp only at hSw); go_simp; (try with_reducible rfl))
    (try simp only [Act.put, List.setIfInBounds_toArray, List.set_cons_zero, List.set_cons_succ])
    refine wpAnyH_take (i := 3) (oi := ({ dst := some 20, op := Go.Op.fieldAddr 45 (Go.Operand.tmp 1) 1, type := 0, pos := "law.go:77", after := #[{ on := 2, ground := Go.Ground.guard }], guard := some (2, false) } : Oper)) (v := ?vs3) rfl (by kernel_rfl) (by kernel_rfl) (by kernel_rfl) (fun _ _ _ h => h) (Or.inl ⟨by rfl, ?hys3⟩) (by assumption) ?rests3
    case hys3 => (intro w hSw; (try dsimp only at hSw); go_simp; (try with_reducible rfl))
    (try simp only [Act.put, List.setIfInBounds_toArray, List.set_cons_zero, List.set_cons_succ])
    refine wpAnyH_take (i := 4) (oi := ({ dst := some 21, op := Go.Op.load 22 (Go.Operand.tmp 20), type := 22, pos := "law.go:77", after := #[{ on := 3, ground := Go.Ground.data }, { on := 2, ground := Go.Ground.guard }], guard := some (2, false) } : Oper)) (v := ?vs4) rfl (by kernel_rfl) (by kernel_rfl) (by kernel_rfl) (fun _ _ _ h => h) (Or.inl ⟨by rfl, ?hys4⟩) (by assumption) ?rests4
    case hys4 => (intro w hSw; (try dsimp only at hSw); have z : w.cell? ⟨gb, 1, none⟩ = some (.slice Ap lp.length cp) := (blk_cell hSw.1 1).trans rfl; go_simp; (try with_reducible rfl))
    (try simp only [Act.put, List.setIfInBounds_toArray, List.set_cons_zero, List.set_cons_succ])
    refine wpAnyH_take (i := 6) (oi := ({ dst := some 23, op := Go.Op.fieldAddr 45 (Go.Operand.tmp 1) 2, type := 0, pos := "law.go:77", after := #[{ on := 2, ground := Go.Ground.guard }], guard := some (2, false) } : Oper)) (v := ?vs6) rfl (by kernel_rfl) (by kernel_rfl) (by kernel_rfl) (fun _ _ _ h => h) (Or.inl ⟨by rfl, ?hys6⟩) (by assumption) ?rests6
    case hys6 => (intro w hSw; (try dsimp only at hSw); go_simp; (try with_reducible rfl))
    (try simp only [Act.put, List.setIfInBounds_toArray, List.set_cons_zero, List.set_cons_succ])
    refine wpAnyH_take (i := 7) (oi := ({ dst := some 24, op := Go.Op.load 22 (Go.Operand.tmp 23), type := 22, pos := "law.go:77", after := #[{ on := 6, ground := Go.Ground.data }, { on := 2, ground := Go.Ground.guard }], guard := some (2, false) } : Oper)) (v := ?vs7) rfl (by kernel_rfl) (by kernel_rfl) (by kernel_rfl) (fun _ _ _ h => h) (Or.inl ⟨by rfl, ?hys7⟩) (by assumption) ?rests7
    case hys7 => (intro w hSw; (try dsimp only at hSw); have z : w.cell? ⟨gb, 2, none⟩ = some (.slice At lt.length ct) := (blk_cell hSw.1 2).trans rfl; go_simp; (try with_reducible rfl))
    (try simp only [Act.put, List.setIfInBounds_toArray, List.set_cons_zero, List.set_cons_succ])
    refine wpAnyH_take (i := 10) (oi := ({ dst := some 27, op := Go.Op.fieldAddr 45 (Go.Operand.tmp 1) 1, type := 0, pos := "law.go:77", after := #[{ on := 2, ground := Go.Ground.guard }], guard := some (2, false) } : Oper)) (v := ?vs10) rfl (by kernel_rfl) (by kernel_rfl) (by kernel_rfl) (fun _ _ _ h => h) (Or.inl ⟨by rfl, ?hys10⟩) (by assumption) ?rests10
    case hys10 => (intro w hSw; (try dsimp only at hSw); go_simp; (try with_reducible rfl))
    (try simp only [Act.put, List.setIfInBounds_toArray, List.set_cons_zero, List.set_cons_succ])
    refine wpAnyH_take (i := 11) (oi := ({ dst := some 28, op := Go.Op.load 22 (Go.Operand.tmp 27), type := 22, pos := "law.go:77", after := #[{ on := 10, ground := Go.Ground.data }, { on := 2, ground := Go.Ground.guard }], guard := some (2, false) } : Oper)) (v := ?vs11) rfl (by kernel_rfl) (by kernel_rfl) (by kernel_rfl) (fun _ _ _ h => h) (Or.inl ⟨by rfl, ?hys11⟩) (by assumption) ?rests11
    case hys11 => (intro w hSw; (try dsimp only at hSw); have z : w.cell? ⟨gb, 1, none⟩ = some (.slice Ap lp.length cp) := (blk_cell hSw.1 1).trans rfl; go_simp; (try with_reducible rfl))
    (try simp only [Act.put, List.setIfInBounds_toArray, List.set_cons_zero, List.set_cons_succ])
    refine wpAnyH_take (i := 12) (oi := ({ dst := some 29, op := Go.Op.fieldAddr 45 (Go.Operand.tmp 1) 2, type := 0, pos := "law.go:77", after := #[{ on := 2, ground := Go.Ground.guard }], guard := some (2, false) } : Oper)) (v := ?vs12) rfl (by kernel_rfl) (by kernel_rfl) (by kernel_rfl) (fun _ _ _ h => h) (Or.inl ⟨by rfl, ?hys12⟩) (by assumption) ?rests12
    case hys12 => (intro w hSw; (try dsimp only at hSw); go_simp; (try with_reducible rfl))
    (try simp only [Act.put, List.setIfInBounds_toArray, List.set_cons_zero, List.set_cons_succ])
    refine wpAnyH_take (i := 13) (oi := ({ dst := some 30, op := Go.Op.load 22 (Go.Operand.tmp 29), type := 22, pos := "law.go:77", after := #[{ on := 12, ground := Go.Ground.data }, { on := 2, ground := Go.Ground.guard }], guard := some (2, false) } : Oper)) (v := ?vs13) rfl (by kernel_rfl) (by kernel_rfl) (by kernel_rfl) (fun _ _ _ h => h) (Or.inl ⟨by rfl, ?hys13⟩) (by assumption) ?rests13
    case hys13 => (intro w hSw; (try dsimp only at hSw); have z : w.cell? ⟨gb, 2, none⟩ = some (.slice At lt.length ct) := (blk_cell hSw.1 2).trans rfl; go_simp; (try with_reducible rfl))
    (try simp only [Act.put, List.setIfInBounds_toArray, List.set_cons_zero, List.set_cons_succ])
    refine wpAnyH_ready (rs := [5]) (by kernel_rfl) (by simp) ?_
    refine AllReadyH.cons (o := ({ dst := some 22, op := Go.Op.call { callee := Go.Callee.value (Go.Operand.func 44), args := #[Go.Operand.tmp 21], argTypes := #[22] }, type := 22, pos := "law.go:77", after := #[{ on := 4, ground := Go.Ground.data }, { on := 2, ground := Go.Ground.chain }, { on := 2, ground := Go.Ground.guard }], guard := some (2, false) } : Oper)) rfl (fun K hK => ?_) AllReadyH.nil
    go_simp
    refine (twin.calls Ap cp lp _ (Kd.C_below HP.out hHeld.2.out) (by omega)).mono ?_
    rintro e wx ⟨B1, cB1, rfl, hcB1, hC, hb, hzB1⟩
    have HW1 := Aside0.mk hC
    have hS1 := keepA hHeld hb
    clear hb hC
    (try go_wp2_with fail)
    refine hK.out _ _ (by exact hS1) (fun hHeld => ?_)
    clear hK K
    (try simp only [Act.put, List.setIfInBounds_toArray, List.set_cons_zero, List.set_cons_succ])
    refine wpAnyH_ready (rs := [8]) (by kernel_rfl) (by simp) ?_
    refine AllReadyH.cons (o := ({ dst := some 25, op := Go.Op.call { callee := Go.Callee.value (Go.Operand.func 44), args := #[Go.Operand.tmp 24], argTypes := #[22] }, type := 22, pos := "law.go:77", after := #[{ on := 7, ground := Go.Ground.data }, { on := 5, ground := Go.Ground.chain }, { on := 2, ground := Go.Ground.guard }], guard := some (2, false) } : Oper)) rfl (fun K hK => ?_) AllReadyH.nil
    go_simp
    refine (twin.calls At ct lt _ (Kd.C_below HT.out hHeld.2.out) (by omega)).mono ?_
    rintro e wx ⟨B2, cB2, rfl, hcB2, hC, hb, hzB2⟩
    have HW2 := Aside0.mk hC
    have HW1b := Aside0.mk (Kd.C_below HW1.out hb)
    have hS1 := keepA hHeld hb
    clear hb hC HW1
    (try go_wp2_with fail)
    refine hK.out _ _ (by exact hS1) (fun hHeld => ?_)
    clear hK K
    (try simp only [Act.put, List.setIfInBounds_toArray, List.set_cons_zero, List.set_cons_succ])
    refine wpAnyH_ready (rs := [9]) (by kernel_rfl) (by simp) ?_
    refine AllReadyH.cons (o := ({ dst := some 26, op := Go.Op.call { callee := Go.Callee.value (Go.Operand.func 14), args := #[Go.Operand.tmp 22, Go.Operand.tmp 25], argTypes := #[22, 22] }, type := 4, pos := "law.go:77", after := #[{ on := 5, ground := Go.Ground.data }, { on := 8, ground := Go.Ground.data }, { on := 8, ground := Go.Ground.chain }, { on := 2, ground := Go.Ground.guard }], guard := some (2, false) } : Oper)) rfl (fun K hK => ?_) AllReadyH.nil
    go_simp
    refine (globX.calls B1 cB1 lp B2 cB2 lt r HRL.out _ HW1b.out hcB1 HIP.out hlp HW2.out hcB2 HIT.out hlt (HG.out.below hHeld.2.out)).mono ?_
    rintro e wx ⟨rfl, hb⟩
    have hS1 := keepA hHeld hb
    clear hb
    (try go_wp2_with fail)
    refine hK.out _ _ (by exact hS1) (fun hHeld => ?_)
    clear hK K
    (try simp only [Act.put, List.setIfInBounds_toArray, List.set_cons_zero, List.set_cons_succ])
    refine wpAnyH_ready (rs := [14]) (by kernel_rfl) (by simp) ?_
    refine AllReadyH.cons (o := ({ dst := some 31, op := Go.Op.call { callee := Go.Callee.value (Go.Operand.func 45), args := #[Go.Operand.tmp 28, Go.Operand.tmp 30], argTypes := #[22, 22] }, type := 4, pos := "law.go:77", after := #[{ on := 11, ground := Go.Ground.data }, { on := 13, ground := Go.Ground.data }, { on := 9, ground := Go.Ground.chain }, { on := 2, ground := Go.Ground.guard }], guard := some (2, false) } : Oper)) rfl (fun K hK => ?_) AllReadyH.nil
    go_simp
    refine (refX.calls Ap cp lp At ct lt r HRL.out _ (Kd.C_below HP.out hHeld.2.out) hcp HIP.out hlp (Kd.C_below HT.out hHeld.2.out) hct HIT.out hlt).mono ?_
    rintro e wx ⟨rfl, hb⟩
    have hS1 := keepA hHeld hb
    clear hb
    (try go_wp2_with fail)
    refine hK.out _ _ (by exact hS1) (fun hHeld => ?_)
    clear hK K
    (try simp only [Act.put, List.setIfInBounds_toArray, List.set_cons_zero, List.set_cons_succ])
    refine wpAnyH_take (i := 15) (oi := ({ dst := some 32, op := Go.Op.binOp Go.BinOp.eql 4 (Go.Operand.tmp 26) (Go.Operand.tmp 31) 4, type := 4, pos := "law.go:77", after := #[{ on := 9, ground := Go.Ground.data }, { on := 14, ground := Go.Ground.data }, { on := 2, ground := Go.Ground.guard }], guard := some (2, false) } : Oper)) (v := Value.bool true) rfl (by kernel_rfl) (by kernel_rfl) (by kernel_rfl) (fun _ _ _ h => h) (Or.inl ⟨by rfl, ?hys15⟩) (by assumption) ?rests15
    case hys15 => (intro w hSw; (try dsimp only at hSw); go_simp; (try simp); (try with_reducible rfl))
    (try simp only [Act.put, List.setIfInBounds_toArray, List.set_cons_zero, List.set_cons_succ])
    refine wpAnyH_take (i := 16) (oi := ({ dst := some 33, op := Go.Op.pick (Go.Operand.tmp 19) (Go.Operand.const (Go.Value.bool true)) (Go.Operand.tmp 32), type := 4, pos := "law.go:77", after := #[{ on := 2, ground := Go.Ground.data }, { on := 15, ground := Go.Ground.data }], guard := none } : Oper)) (v := ?vs16) rfl (by kernel_rfl) (by kernel_rfl) (by kernel_rfl) (fun _ _ _ h => h) (Or.inl ⟨by rfl, ?hys16⟩) (by assumption) ?rests16
    case hys16 => (intro w hSw; (try dsimp only at hSw); go_simp; (try with_reducible rfl))
    (try simp only [Act.put, List.setIfInBounds_toArray, List.set_cons_zero, List.set_cons_succ])
    refine wpAnyH_take (i := 17) (oi := ({ dst := some 2, op := Go.Op.assign (Go.Operand.tmp 33), type := 4, pos := "law.go:77", after := #[{ on := 16, ground := Go.Ground.data }, { on := 14, ground := Go.Ground.chain }, { on := 0, ground := Go.Ground.phase }, { on := 1, ground := Go.Ground.phase }, { on := 2, ground := Go.Ground.phase }, { on := 3, ground := Go.Ground.phase }, { on := 4, ground := Go.Ground.phase }, { on := 5, ground := Go.Ground.phase }, { on := 6, ground := Go.Ground.phase }, { on := 7, ground := Go.Ground.phase }, { on := 8, ground := Go.Ground.phase }, { on := 9, ground := Go.Ground.phase }, { on := 10, ground := Go.Ground.phase }, { on := 11, ground := Go.Ground.phase }, { on := 12, ground := Go.Ground.phase }, { on := 13, ground := Go.Ground.phase }, { on := 14, ground := Go.Ground.phase }, { on := 15, ground := Go.Ground.phase }, { on := 16, ground := Go.Ground.phase }], guard := none } : Oper)) (v := ?vs17) rfl (by kernel_rfl) (by kernel_rfl) (by kernel_rfl) (fun _ _ _ h => h) (Or.inl ⟨by rfl, ?hys17⟩) (by assumption) ?rests17
    case hys17 => (intro w hSw; (try dsimp only at hSw); go_simp; (try with_reducible rfl))
    (try simp only [Act.put, List.setIfInBounds_toArray, List.set_cons_zero, List.set_cons_succ])
    refine wpAnyH_done (by kernel_rfl) ?_ _
    (try go_wp2_with fail)
    go_ret
    exact ⟨rfl, hHeld.2.out⟩
  · skip
    refine wp_region_held_drew (S := (fun W => W.heap[gb]? = some (.cells #[.int .i64 1, .slice Ap lp.length cp, .slice At lt.length ct, .int .i64 I, .int .i64 J, .int .i64 N, .int .i64 f1, .int .i64 s1, .bool o1, .int .i64 f2, .int .i64 s2, .bool o2, .int .i64 f3, .slice A3 l3.length c3, .bool o3, .int .i64 f4, .slice A4 l4.length c4, .bool o4] 45 (0, 0)) ∧ Aside0 (Below w.heap.size w W))) (by kernel_rfl) (by exact hS0) (fun hHeld => ?_)
    refine wpAnyH_take (i := 0) (oi := ({ dst := some 17, op := Go.Op.load 45 (Go.Operand.tmp 1), type := 45, pos := "law.go:77", after := #[], guard := none } : Oper)) (v := Value.agg #[.int .i64 1, .slice Ap lp.length cp, .slice At lt.length ct, .int .i64 I, .int .i64 J, .int .i64 N, .int .i64 f1, .int .i64 s1, .bool o1, .int .i64 f2, .int .i64 s2, .bool o2, .int .i64 f3, .slice A3 l3.length c3, .bool o3, .int .i64 f4, .slice A4 l4.length c4, .bool o4]) rfl (by kernel_rfl) (by kernel_rfl) (by kernel_rfl) (fun _ _ _ h => h) (Or.inl ⟨by rfl, ?hyr0⟩) (by assumption) ?restr0
    case hyr0 => (intro w hSw; (try dsimp only at hSw); have hl := run_loadVar_row (P := Tryd.prog) w gb 45 45 _ (0, 0) _ hSw.1 Tryd.underlying45 rfl sizeA; simp [execOp, Act.eval, Instr.loadAt, Instr.sureAddr, hl]; (try rfl))
    (try simp only [Act.put, List.setIfInBounds_toArray, List.set_cons_zero, List.set_cons_succ])
    refine wpAnyH_ready (rs := [1]) (by kernel_rfl) (by simp) ?_
    refine AllReadyH.cons (o := ({ dst := some 18, op := Go.Op.call { callee := Go.Callee.value (Go.Operand.func 43), args := #[Go.Operand.tmp 17], argTypes := #[45] }, type := 4, pos := "law.go:77", after := #[{ on := 0, ground := Go.Ground.data }], guard := none } : Oper)) rfl (fun K hK => ?_) AllReadyH.nil
    go_simp
    refine (greatX.calls Ap At A3 A4 cp ct c3 c4 lp lt l3 l4 I J N f1 s1 f2 s2 f3 f4 o1 o2 o3 o4 true HGB.out _ hlp hlt).mono ?_
    rintro e wx ⟨rfl, hb⟩
    have hS1 := keepA hHeld hb
    clear hb
    (try go_wp2_with fail)
    refine hK.out _ _ (by exact hS1) (fun hHeld => ?_)
    clear hK K
    (try simp only [Act.put, List.setIfInBounds_toArray, List.set_cons_zero, List.set_cons_succ])
    refine wpAnyH_take (i := 2) (oi := ({ dst := some 19, op := Go.Op.move (Go.Operand.tmp 18), type := 4, pos := "law.go:77", after := #[{ on := 1, ground := Go.Ground.data }, { on := 1, ground := Go.Ground.chain }], guard := none } : Oper)) (v := ?vr2) rfl (by kernel_rfl) (by kernel_rfl) (by kernel_rfl) (fun _ _ _ h => h) (Or.inl ⟨by rfl, ?hyr2⟩) (by assumption) ?restr2
    case hyr2 => (intro w hSw; (try dsimp only at hSw); go_simp; (try with_reducible rfl))
    (try simp only [Act.put, List.setIfInBounds_toArray, List.set_cons_zero, List.set_cons_succ])
    refine wpAnyH_take (i := 3) (oi := ({ dst := some 20, op := Go.Op.fieldAddr 45 (Go.Operand.tmp 1) 1, type := 0, pos := "law.go:77", after := #[{ on := 2, ground := Go.Ground.guard }], guard := some (2, false) } : Oper)) (v := undef) rfl (by kernel_rfl) (by kernel_rfl) (by kernel_rfl) (fun _ _ _ h => h) (Or.inr ⟨by rfl, rfl⟩) (by assumption) ?_
    (try simp only [Act.put, List.setIfInBounds_toArray, List.set_cons_zero, List.set_cons_succ])
    refine wpAnyH_take (i := 4) (oi := ({ dst := some 21, op := Go.Op.load 22 (Go.Operand.tmp 20), type := 22, pos := "law.go:77", after := #[{ on := 3, ground := Go.Ground.data }, { on := 2, ground := Go.Ground.guard }], guard := some (2, false) } : Oper)) (v := undef) rfl (by kernel_rfl) (by kernel_rfl) (by kernel_rfl) (fun _ _ _ h => h) (Or.inr ⟨by rfl, rfl⟩) (by assumption) ?_
    (try simp only [Act.put, List.setIfInBounds_toArray, List.set_cons_zero, List.set_cons_succ])
    refine wpAnyH_take (i := 5) (oi := ({ dst := some 22, op := Go.Op.call { callee := Go.Callee.value (Go.Operand.func 44), args := #[Go.Operand.tmp 21], argTypes := #[22] }, type := 22, pos := "law.go:77", after := #[{ on := 4, ground := Go.Ground.data }, { on := 2, ground := Go.Ground.chain }, { on := 2, ground := Go.Ground.guard }], guard := some (2, false) } : Oper)) (v := undef) rfl (by kernel_rfl) (by kernel_rfl) (by kernel_rfl) (fun _ _ _ h => h) (Or.inr ⟨by rfl, rfl⟩) (by assumption) ?_
    (try simp only [Act.put, List.setIfInBounds_toArray, List.set_cons_zero, List.set_cons_succ])
    refine wpAnyH_take (i := 6) (oi := ({ dst := some 23, op := Go.Op.fieldAddr 45 (Go.Operand.tmp 1) 2, type := 0, pos := "law.go:77", after := #[{ on := 2, ground := Go.Ground.guard }], guard := some (2, false) } : Oper)) (v := undef) rfl (by kernel_rfl) (by kernel_rfl) (by kernel_rfl) (fun _ _ _ h => h) (Or.inr ⟨by rfl, rfl⟩) (by assumption) ?_
    (try simp only [Act.put, List.setIfInBounds_toArray, List.set_cons_zero, List.set_cons_succ])
    refine wpAnyH_take (i := 7) (oi := ({ dst := some 24, op := Go.Op.load 22 (Go.Operand.tmp 23), type := 22, pos := "law.go:77", after := #[{ on := 6, ground := Go.Ground.data }, { on := 2, ground := Go.Ground.guard }], guard := some (2, false) } : Oper)) (v := undef) rfl (by kernel_rfl) (by kernel_rfl) (by kernel_rfl) (fun _ _ _ h => h) (Or.inr ⟨by rfl, rfl⟩) (by assumption) ?_
    (try simp only [Act.put, List.setIfInBounds_toArray, List.set_cons_zero, List.set_cons_succ])
    refine wpAnyH_take (i := 8) (oi := ({ dst := some 25, op := Go.Op.call { callee := Go.Callee.value (Go.Operand.func 44), args := #[Go.Operand.tmp 24], argTypes := #[22] }, type := 22, pos := "law.go:77", after := #[{ on := 7, ground := Go.Ground.data }, { on := 5, ground := Go.Ground.chain }, { on := 2, ground := Go.Ground.guard }], guard := some (2, false) } : Oper)) (v := undef) rfl (by kernel_rfl) (by kernel_rfl) (by kernel_rfl) (fun _ _ _ h => h) (Or.inr ⟨by rfl, rfl⟩) (by assumption) ?_
    (try simp only [Act.put, List.setIfInBounds_toArray, List.set_cons_zero, List.set_cons_succ])
    refine wpAnyH_take (i := 9) (oi := ({ dst := some 26, op := Go.Op.call { callee := Go.Callee.value (Go.Operand.func 14), args := #[Go.Operand.tmp 22, Go.Operand.tmp 25], argTypes := #[22, 22] }, type := 4, pos := "law.go:77", after := #[{ on := 5, ground := Go.Ground.data }, { on := 8, ground := Go.Ground.data }, { on := 8, ground := Go.Ground.chain }, { on := 2, ground := Go.Ground.guard }], guard := some (2, false) } : Oper)) (v := undef) rfl (by kernel_rfl) (by kernel_rfl) (by kernel_rfl) (fun _ _ _ h => h) (Or.inr ⟨by rfl, rfl⟩) (by assumption) ?_
    (try simp only [Act.put, List.setIfInBounds_toArray, List.set_cons_zero, List.set_cons_succ])
    refine wpAnyH_take (i := 10) (oi := ({ dst := some 27, op := Go.Op.fieldAddr 45 (Go.Operand.tmp 1) 1, type := 0, pos := "law.go:77", after := #[{ on := 2, ground := Go.Ground.guard }], guard := some (2, false) } : Oper)) (v := undef) rfl (by kernel_rfl) (by kernel_rfl) (by kernel_rfl) (fun _ _ _ h => h) (Or.inr ⟨by rfl, rfl⟩) (by assumption) ?_
    (try simp only [Act.put, List.setIfInBounds_toArray, List.set_cons_zero, List.set_cons_succ])
    refine wpAnyH_take (i := 11) (oi := ({ dst := some 28, op := Go.Op.load 22 (Go.Operand.tmp 27), type := 22, pos := "law.go:77", after := #[{ on := 10, ground := Go.Ground.data }, { on := 2, ground := Go.Ground.guard }], guard := some (2, false) } : Oper)) (v := undef) rfl (by kernel_rfl) (by kernel_rfl) (by kernel_rfl) (fun _ _ _ h => h) (Or.inr ⟨by rfl, rfl⟩) (by assumption) ?_
    (try simp only [Act.put, List.setIfInBounds_toArray, List.set_cons_zero, List.set_cons_succ])
    refine wpAnyH_take (i := 12) (oi := ({ dst := some 29, op := Go.Op.fieldAddr 45 (Go.Operand.tmp 1) 2, type := 0, pos := "law.go:77", after := #[{ on := 2, ground := Go.Ground.guard }], guard := some (2, false) } : Oper)) (v := undef) rfl (by kernel_rfl) (by kernel_rfl) (by kernel_rfl) (fun _ _ _ h => h) (Or.inr ⟨by rfl, rfl⟩) (by assumption) ?_
    (try simp only [Act.put, List.setIfInBounds_toArray, List.set_cons_zero, List.set_cons_succ])
    refine wpAnyH_take (i := 13) (oi := ({ dst := some 30, op := Go.Op.load 22 (Go.Operand.tmp 29), type := 22, pos := "law.go:77", after := #[{ on := 12, ground := Go.Ground.data }, { on := 2, ground := Go.Ground.guard }], guard := some (2, false) } : Oper)) (v := undef) rfl (by kernel_rfl) (by kernel_rfl) (by kernel_rfl) (fun _ _ _ h => h) (Or.inr ⟨by rfl, rfl⟩) (by assumption) ?_
    (try simp only [Act.put, List.setIfInBounds_toArray, List.set_cons_zero, List.set_cons_succ])
    refine wpAnyH_take (i := 14) (oi := ({ dst := some 31, op := Go.Op.call { callee := Go.Callee.value (Go.Operand.func 45), args := #[Go.Operand.tmp 28, Go.Operand.tmp 30], argTypes := #[22, 22] }, type := 4, pos := "law.go:77", after := #[{ on := 11, ground := Go.Ground.data }, { on := 13, ground := Go.Ground.data }, { on := 9, ground := Go.Ground.chain }, { on := 2, ground := Go.Ground.guard }], guard := some (2, false) } : Oper)) (v := undef) rfl (by kernel_rfl) (by kernel_rfl) (by kernel_rfl) (fun _ _ _ h => h) (Or.inr ⟨by rfl, rfl⟩) (by assumption) ?_
    (try simp only [Act.put, List.setIfInBounds_toArray, List.set_cons_zero, List.set_cons_succ])
    refine wpAnyH_take (i := 15) (oi := ({ dst := some 32, op := Go.Op.binOp Go.BinOp.eql 4 (Go.Operand.tmp 26) (Go.Operand.tmp 31) 4, type := 4, pos := "law.go:77", after := #[{ on := 9, ground := Go.Ground.data }, { on := 14, ground := Go.Ground.data }, { on := 2, ground := Go.Ground.guard }], guard := some (2, false) } : Oper)) (v := undef) rfl (by kernel_rfl) (by kernel_rfl) (by kernel_rfl) (fun _ _ _ h => h) (Or.inr ⟨by rfl, rfl⟩) (by assumption) ?_
    (try simp only [Act.put, List.setIfInBounds_toArray, List.set_cons_zero, List.set_cons_succ])
    refine wpAnyH_take (i := 16) (oi := ({ dst := some 33, op := Go.Op.pick (Go.Operand.tmp 19) (Go.Operand.const (Go.Value.bool true)) (Go.Operand.tmp 32), type := 4, pos := "law.go:77", after := #[{ on := 2, ground := Go.Ground.data }, { on := 15, ground := Go.Ground.data }], guard := none } : Oper)) (v := ?vr16) rfl (by kernel_rfl) (by kernel_rfl) (by kernel_rfl) (fun _ _ _ h => h) (Or.inl ⟨by rfl, ?hyr16⟩) (by assumption) ?restr16
    case hyr16 => (intro w hSw; (try dsimp only at hSw); go_simp; (try with_reducible rfl))
    (try simp only [Act.put, List.setIfInBounds_toArray, List.set_cons_zero, List.set_cons_succ])
    refine wpAnyH_take (i := 17) (oi := ({ dst := some 2, op := Go.Op.assign (Go.Operand.tmp 33), type := 4, pos := "law.go:77", after := #[{ on := 16, ground := Go.Ground.data }, { on := 14, ground := Go.Ground.chain }, { on := 0, ground := Go.Ground.phase }, { on := 1, ground := Go.Ground.phase }, { on := 2, ground := Go.Ground.phase }, { on := 3, ground := Go.Ground.phase }, { on := 4, ground := Go.Ground.phase }, { on := 5, ground := Go.Ground.phase }, { on := 6, ground := Go.Ground.phase }, { on := 7, ground := Go.Ground.phase }, { on := 8, ground := Go.Ground.phase }, { on := 9, ground := Go.Ground.phase }, { on := 10, ground := Go.Ground.phase }, { on := 11, ground := Go.Ground.phase }, { on := 12, ground := Go.Ground.phase }, { on := 13, ground := Go.Ground.phase }, { on := 14, ground := Go.Ground.phase }, { on := 15, ground := Go.Ground.phase }, { on := 16, ground := Go.Ground.phase }], guard := none } : Oper)) (v := ?vr17) rfl (by kernel_rfl) (by kernel_rfl) (by kernel_rfl) (fun _ _ _ h => h) (Or.inl ⟨by rfl, ?hyr17⟩) (by assumption) ?restr17
    case hyr17 => (intro w hSw; (try dsimp only at hSw); go_simp; (try with_reducible rfl))
    (try simp only [Act.put, List.setIfInBounds_toArray, List.set_cons_zero, List.set_cons_succ])
    refine wpAnyH_done (by kernel_rfl) ?_ _
    (try go_wp2_with fail)
    go_ret
    exact ⟨rfl, hHeld.2.out⟩

set_option maxHeartbeats 1600000 in
theorem globs (A : Option Addr) (c : Nat) (l : List AskT) (w : World) (hC : kAsk.C w A l.length l) (hlen : l.length ≤ 140737488355328) (hG : GL w) (hg : ∀ y ∈ l, gAskB y) :
    Calls Tryd.prog 8 #[.agg #[.slice A l.length c]] w fun e w' => e = .returned (.bool true) ∧ Below w.heap.size w w' := by
  have hh := HeldW.held A c l 1 1 (w.alloc (.cells #[.slice A l.length c] 60)) (Kd.C_alloc hC _) hlen (hG.below (below_alloc (Below.refl _ _) _)) (fun y hy h1 h2 => by
    obtain ⟨_, hP, hT, _⟩ := hg y hy
    exact ans1 y (by omega) hP hT)
  clear hC hG hg
  go_enter Tryd.func8, Tryd.ntmps8
  go_wp2_with fail
  refine hh.mono ?_
  rintro e w7 ⟨rfl, hb⟩
  go_wp2_with fail
  go_ret
  exact ⟨rfl, PB.below_next (below_alloc (Below.refl _ _) _) hb⟩
theorem walk (l : List AskT) (ca : Array Value) (W : World) (hK : kAsks.K W l ca.toList) (hg : gAsksB l) (hG : GL W) :
    Calls Tryd.prog 8 #[.agg ca] W fun e w' => e = .returned (.bool true) ∧ Below W.heap.size W w' := by
  obtain ⟨A, c, he, hc, hC⟩ := hK
  obtain rfl : ca = #[.slice A l.length c] := by cases ca; simp_all
  exact globs A c l W hC (by have := hg.1; omega) hG hg.2.2
end Go.Proofs.YtdflblegdfpdpaaDoor.AnsG
end

section
/- The law MatchGlob as its given card says it: for every argument that can be read as data the call returns true, and what the argument leads to reads as before; the two listed variables are tied to the program's text. Condition: the argument's bulk is at most the row's bound. -/
namespace Go.Proofs.YtdflblegdfpdpaaDoor.LawMatchGlob
open Go.ChangeShapes Go.WideShapes Go.ChangeAt Go.RowKit
theorem own : ownKnob Tryd.prog.godebug = none := by kernel_rfl
theorem laidOut : laidOutB Tryd.prog = true := by kernel_rfl
set_option maxRecDepth 100000 in
theorem contract (H : Type) (enc : TypeId × Value → H) (W : World) (base : Nat) (args : Array Value) (ds gs : List (DataW H)) (before : List MemPlace)
    (hval0 : ∀ (j : Nat) t v, Tryd.f8.params[j]? = some t → args[j]? = some v → Value.okWide Tryd.prog W .any base t v)
    (hW : DataW.Whole enc Tryd.prog Tryd.f8.params.toList Rows.matchGlobSpec.vars false W args.toList ds gs before)
    (hsz0 : (DataW.weightsEach Tryd.prog (Tryd.f8.params.toList ++ (OpenSpec.ofChange Rows.matchGlobSpec).bare.plain.varTypes Tryd.prog) (ds ++ gs)).all (· ≤ reachBytes) = true) (hL : laidMetH Tryd.prog Rows.matchGlobUptoRow.laid W) (hk : Rows.uptoSmall H (ds ++ gs) = true) :
    Calls Tryd.prog 8 args W fun e W' => ∃ v, e = .returned v ∧ Rows.matchGlobSpec.post enc Tryd.prog Tryd.f8 false true false false W args v W' := by
  have hsz : (DataW.weightsEach Tryd.prog (Tryd.f8.params.toList ++ Rows.matchGlobSpec.plain.varTypes Tryd.prog) (ds ++ gs)).all (· ≤ reachBytes) = true := hsz0
  have hG : GlobW.GL W := AskW.gl hL
  have hval : ∀ (j : Nat) t v, Tryd.f8.params[j]? = some t → args[j]? = some v → Value.okWide Tryd.prog W .any base t v := hval0
  have hW' := hW
  obtain ⟨p, q, hA0, hV, rfl, _, _⟩ := hW
  have hA : DataW.TrodAll enc Tryd.prog W 0 (fun _ => true) true Tryd.f8.params.toList args.toList ds p := hA0
  rw [Tryd.params8] at hA hval hsz
  obtain ⟨v0, vs0, d0, ds0, p0, q0, hargs, rfl, rfl, h0, r0⟩ := trodAll_cons hA
  obtain ⟨rfl, rfl, rfl⟩ := trodAll_nil r0
  obtain rfl : args = #[v0] := by cases args; simp_all
  obtain ⟨rfl, rfl⟩ := trodVars_none hV
  have k0 := h0
  have lt0 : ∀ x ∈ p0, x.block < W.heap.size := by obtain ⟨m, hm⟩ := k0; exact DataW.trod_lt m _ _ _ hm
  have hk0 : Rows.uptoBulkAll [d0] ≤ 1048576 := OpenB.bound (by simpa only [List.append_nil] using hk)
  obtain ⟨y, hK, hg⟩ := OpenB.open_arg AskB.b_asks hsz (j := 0) rfl rfl hk0 h0
  obtain ⟨ca, rfl, _⟩ := okWide_struct Tryd.underlying60 (hval 0 _ v0 rfl rfl)
  clear hA0 hval0 hsz0 hsz
  refine (AnsG.walk y ca W hK hg hG).mono fun e W' ⟨he, bel⟩ => ?_
  subst he
  exact ⟨_, rfl, _, _, _, [], _, [], hW', trodAll_mk1 (shut_bool Tryd.underlying4 _), (trodAll_cons_mk (Below.trod laidOut (by kernel_rfl) (of_decide_eq_true (by kernel_rfl)) k0 bel lt0) trodAll_mk0), rfl, bel.frame _, fun h => by cases h⟩
/-- A world for the witness: the settled one, the variables holding what their initialisers lay. -/
noncomputable def laidWorld (os : Os) : World :=
  { World.holding Tryd.prog os ⟨#[], #[], []⟩ with heap := (World.holding Tryd.prog os ⟨#[], #[], []⟩).heap.modify 1 fun
      | .cells _ t frozen => .cells #[.int .u64 18446744073709551615, .int .u64 18446744073709551615, .int .u64 18446744073709551615, .int .u64 18446744073709551615] t frozen
      | o => o }
theorem laid_met (os : Os) : laidMet Tryd.prog Rows.matchGlobUptoRow.laid ((laidWorld os).forCall (fun _ _ => 0) ⟨#[], #[.agg #[.slice none 0 0]], []⟩).memory :=
  laidMet_of_run' 8 (by kernel_rfl) (by kernel_rfl)
theorem reads (os : Os) {H : Type} (enc : TypeId × Value → H) : ∃ places, DataW.whole enc Tryd.prog ((laidWorld os).forCall (fun _ _ => 0) ⟨#[], #[.agg #[.slice none 0 0]], []⟩).memory Tryd.f8.params.toList Rows.matchGlobSpec.vars false (#[.agg #[.slice none 0 0]] : Array Value).toList 8 = some ([.agg [.nil]], [], places) :=
  ⟨[], by kernel_rfl⟩
set_option maxRecDepth 100000 in
theorem lifted (os : Os) (started : os.Started) (H : Type) (enc : TypeId × Value → H) (F : Stop.Interp) :
    ReturnsInHanded {} Tryd.checked os 8 .any ((Rows.OpenSpec.upto Rows.matchGlobSpec).preRow enc Tryd.prog Tryd.f8 Rows.matchGlobUptoRow.domain false Rows.matchGlobUptoRow.laid) (((Rows.OpenSpec.upto Rows.matchGlobSpec).at F).post enc Tryd.prog Tryd.f8 false true false false) := by
  obtain ⟨places, hx⟩ := reads os enc
  refine returnsInHanded_of_row (C := Tryd.checked) (s := Rows.OpenSpec.upto Rows.matchGlobSpec) own started (by kernel_rfl) Tryd.func8
    (witness_row_at (enc := enc) (C := Tryd.checked) false (laidWorld os) #[.agg #[.slice none 0 0]] rfl (by kernel_rfl) (by kernel_rfl) (by kernel_rfl)
      (OpenSpec.preRow_of_cond 8 hx (by kernel_rfl) (fun k hk => by cases hk; kernel_rfl) (by kernel_rfl) (laid_met os))) ?_
  intro W base args ds gs before hval hW _ hcond hsz hL _ _
  exact contract H enc W base args ds gs before hval hW hsz hL (hcond _ rfl)
theorem said : Rows.MatchGlobUptoSaid :=
  OpenClaim.holds_of_cond 8 Tryd.f8 rfl rfl rfl rfl rfl rfl rfl ⟨rfl, rfl, rfl, rfl, rfl⟩ rfl rfl rfl rfl rfl (by kernel_rfl) Tryd.func8 (by kernel_rfl)
    (of_decide_eq_true (by kernel_rfl)) (by unfold Func.isWrapper; first | (rw [if_pos (by decide +kernel)]; kernel_rfl) | (rw [if_neg (by decide +kernel)]; exact ⟨rfl, rfl⟩))
    (fun os started H enc _ F => by rw [OpenClaim.pre_eq_preRow]; exact lifted os started H enc F)
theorem plain (f : FuncId) (fn : Func) (hf : Tryd.pinned.checked.prog.funcNamed "larder/larderlaw9.MatchGlob" = some f) (hfn : Tryd.pinned.checked.prog.funcs[f]? = some fn) :
    false = Tryd.pinned.checked.prog.looks [] ∧ ∀ (j : Nat) t, fn.params[j]? = some t → Tryd.pinned.checked.prog.wantsStandIn t = false := by
  obtain rfl : f = 8 := Option.some.inj ((show Tryd.prog.funcNamed "larder/larderlaw9.MatchGlob" = some 8 by kernel_rfl).symm.trans hf) |>.symm
  obtain rfl : fn = Tryd.f8 := (Option.some.inj (Tryd.func8.symm.trans hfn)).symm
  refine ⟨by kernel_rfl, fun j t ht => ?_⟩
  rw [Tryd.params8] at ht
  obtain rfl : t = 60 := by simpa using Array.mem_of_getElem? ht
  exact (show Tryd.prog.wantsStandIn 60 = false by kernel_rfl)
theorem card : Rows.MatchGlobUptoCardSaid :=
  Claim7.holds_tied_plain_at .later [] _ _ _ _ said (fun _ h => by cases h) (by kernel_rfl) (fun _ h => by cases h) matchGlobUpto_row_tie rfl ⟨rfl, rfl⟩ (by kernel_rfl) rfl plain (by kernel_rfl)
#print axioms card
end Go.Proofs.YtdflblegdfpdpaaDoor.LawMatchGlob
namespace Go.Proofs.YtdflblegdfpdpaaDoor
/-- The card, under a short name, for the claim. -/
theorem matchGlob_holds : Rows.MatchGlobUptoCardSaid := LawMatchGlob.card
end Go.Proofs.YtdflblegdfpdpaaDoor
end
