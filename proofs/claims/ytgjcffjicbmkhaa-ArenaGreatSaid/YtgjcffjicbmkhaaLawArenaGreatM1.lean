-- JOINED by tailmerge3.py: WRepsOne WInv WInvWords WGuard PFx0 PFx1 PFx2 PFx3 GenM TakS ArV SumI ArB ArC ArP ArQ GenN GenS BokA RfM RfF LoadA RfG RfH RfT
import Derived.Test.YtgjcffjicbmkhaaWWords
import Derived.Test.YtgjcffjicbmkhaaWTab
import Derived.Test.YtgjcffjicbmkhaaWFootNe
import Derived.Test.YtgjcffjicbmkhaaProg
import Derived.Below
import Derived.Deep.Draws
import Derived.Deep.AppendLies
import Derived.Maps.AppendAt
import Derived.OwnWalk
import Derived.Laws.BytesArg
import Derived.Laws.MakeOwn
import Derived.Laws.OwnMore
import Derived.Deep.OwnRows
import Derived.Tactics
import Derived.Lib.ConvBytes
import Derived.Laws.Slices
import Derived.WalkKit
import Derived.KernelRfl
import Derived.RowKit3
import Derived.Deep.LoopGhost
import Derived.Deep.QuietTactic
import Derived.BigQuiet
import Derived.WideLaws
import Derived.Deep.DeepCutAuto
import Derived.Deep.CutBlock
import Derived.Deep.RegionHeld3
import Derived.Laws.Rows
import Derived.Lib.AppendStr
import Derived.ArgAppend
import Derived.Laws.IdiomCopy
import Derived.OrdersHeld
import Derived.Laws.BitsLemmas
import Derived.RowKit
import Derived.Test.YtgjcffjicbmkhaaWLast
import Derived.Test.YtgjcffjicbmkhaaWFour
import Derived.Test.YtgjcffjicbmkhaaWQPut
import Derived.Test.YtgjcffjicbmkhaaWApart
import Derived.Test.YtgjcffjicbmkhaaWArr
import Derived.Test.YtgjcffjicbmkhaaWZeros
import Derived.Test.YtgjcffjicbmkhaaWFoot
import Derived.Test.YtgjcffjicbmkhaaWKept
import Derived.Test.YtgjcffjicbmkhaaWShare
import Derived.Test.YtgjcffjicbmkhaaWN
import Derived.Test.YtgjcffjicbmkhaaWAt
import Derived.Test.YtgjcffjicbmkhaaWEqStruct
import Derived.Test.YtgjcffjicbmkhaaWNEv
import Derived.Test.YtgjcffjicbmkhaaWMore
import Derived.Test.YtgjcffjicbmkhaaArM
import Derived.Test.YtgjcffjicbmkhaaArY
import Derived.Test.YtgjcffjicbmkhaaArU
import Derived.Test.YtgjcffjicbmkhaaRowU
import Derived.StillTailTactics
import Derived.Laws.Tables
import Derived.Laws.CopyOwn
import Derived.Deep.DeepMust

section
namespace Go.Proofs.YtgjcffjicbmkhaaW.PrintWords
theorem Reps.one {α : Type} {R : α → List Value → Prop} {ps : List α} {cs : List Value} {p : α} {v : Value} (hp : R p [v]) (h : Reps R 1 ps cs) : Reps R 1 (p :: ps) (v :: cs) := by
  refine ⟨by simp [h.1], fun j q hq => ?_⟩
  cases j with
  | zero =>
    simp only [List.getElem?_cons_zero, Option.some.injEq] at hq
    subst hq
    simpa using hp
  | succ j =>
    simp only [List.getElem?_cons_succ] at hq
    have h1 := h.2 j q hq
    simpa [Nat.mul_one] using h1
theorem Reps.front {α : Type} {R : α → List Value → Prop} {size : Nat} {ps : List α} {cs c all : List Value} {p : α} (hp : R p c) (hc : c.length = size) (h : Reps R size ps cs) (ha : c ++ cs = all) : Reps R size (p :: ps) all := by
  subst ha
  refine ⟨by rw [List.length_append, hc, h.1, List.length_cons, Nat.succ_mul, Nat.add_comm], fun j q hq => ?_⟩
  cases j with
  | zero =>
    simp only [List.getElem?_cons_zero, Option.some.injEq] at hq
    subst hq
    rw [Nat.zero_mul, List.drop_zero, List.take_append_of_le_length (by omega), List.take_of_length_le (by omega)]
    exact hp
  | succ j =>
    simp only [List.getElem?_cons_succ] at hq
    have h1 := h.2 j q hq
    rw [Nat.succ_mul, List.drop_append, List.drop_of_length_le (by rw [hc]; exact Nat.le_add_left _ _), List.nil_append, hc, Nat.add_sub_cancel]
    exact h1
theorem Reps.c2 {α : Type} {R : α → List Value → Prop} {ps : List α} {cs : List Value} {p : α} {va vb : Value} (hp : R p [va, vb]) (h : Reps R 2 ps cs) : Reps R 2 (p :: ps) (va :: vb :: cs) := Reps.front hp rfl h rfl
theorem Reps.c3 {α : Type} {R : α → List Value → Prop} {ps : List α} {cs : List Value} {p : α} {va vb vc : Value} (hp : R p [va, vb, vc]) (h : Reps R 3 ps cs) : Reps R 3 (p :: ps) (va :: vb :: vc :: cs) := Reps.front hp rfl h rfl
theorem Reps.c4 {α : Type} {R : α → List Value → Prop} {ps : List α} {cs : List Value} {p : α} {va vb vc vd : Value} (hp : R p [va, vb, vc, vd]) (h : Reps R 4 ps cs) : Reps R 4 (p :: ps) (va :: vb :: vc :: vd :: cs) := Reps.front hp rfl h rfl
theorem Reps.c5 {α : Type} {R : α → List Value → Prop} {ps : List α} {cs : List Value} {p : α} {va vb vc vd ve : Value} (hp : R p [va, vb, vc, vd, ve]) (h : Reps R 5 ps cs) : Reps R 5 (p :: ps) (va :: vb :: vc :: vd :: ve :: cs) := Reps.front hp rfl h rfl
theorem Reps.c6 {α : Type} {R : α → List Value → Prop} {ps : List α} {cs : List Value} {p : α} {va vb vc vd ve vf : Value} (hp : R p [va, vb, vc, vd, ve, vf]) (h : Reps R 6 ps cs) : Reps R 6 (p :: ps) (va :: vb :: vc :: vd :: ve :: vf :: cs) := Reps.front hp rfl h rfl
theorem Reps.c7 {α : Type} {R : α → List Value → Prop} {ps : List α} {cs : List Value} {p : α} {va vb vc vd ve vf vg : Value} (hp : R p [va, vb, vc, vd, ve, vf, vg]) (h : Reps R 7 ps cs) : Reps R 7 (p :: ps) (va :: vb :: vc :: vd :: ve :: vf :: vg :: cs) := Reps.front hp rfl h rfl
theorem Reps.c8 {α : Type} {R : α → List Value → Prop} {ps : List α} {cs : List Value} {p : α} {va vb vc vd ve vf vg vh : Value} (hp : R p [va, vb, vc, vd, ve, vf, vg, vh]) (h : Reps R 8 ps cs) : Reps R 8 (p :: ps) (va :: vb :: vc :: vd :: ve :: vf :: vg :: vh :: cs) := Reps.front hp rfl h rfl
theorem Reps.c9 {α : Type} {R : α → List Value → Prop} {ps : List α} {cs : List Value} {p : α} {va vb vc vd ve vf vg vh vi : Value} (hp : R p [va, vb, vc, vd, ve, vf, vg, vh, vi]) (h : Reps R 9 ps cs) : Reps R 9 (p :: ps) (va :: vb :: vc :: vd :: ve :: vf :: vg :: vh :: vi :: cs) := Reps.front hp rfl h rfl
theorem Reps.c10 {α : Type} {R : α → List Value → Prop} {ps : List α} {cs : List Value} {p : α} {va vb vc vd ve vf vg vh vi vj : Value} (hp : R p [va, vb, vc, vd, ve, vf, vg, vh, vi, vj]) (h : Reps R 10 ps cs) : Reps R 10 (p :: ps) (va :: vb :: vc :: vd :: ve :: vf :: vg :: vh :: vi :: vj :: cs) := Reps.front hp rfl h rfl
end Go.Proofs.YtgjcffjicbmkhaaW.PrintWords
end

section
namespace Go.Proofs.YtgjcffjicbmkhaaW.PrintLast
def up (b : Nat → Bool) (i : Nat) : Nat → Bool := fun j => if j = i then true else b j
theorem up_self (b : Nat → Bool) (i : Nat) : up b i i = true := by simp [up]
theorem up_ne {b : Nat → Bool} {i j : Nat} (h : j ≠ i) : up b i j = b j := by simp [up, h]
def lof (n : Nat) (O : List Nat) (b : Nat → Bool) : List Bool := (List.range n).map fun j => if O.contains j then b j else true
def putSel (a : Act) (b : Nat → Bool) : List (Nat × Tmp × Value) → Act
  | [] => a
  | e :: r => putSel (if b e.1 = true then a.put (some e.2.1) e.2.2 else a) b r
section
variable {P : Program} {ops : Array Oper} {Q : Exit → Act → World → Prop} {md : Region.Mode} {T : Bool × List (List Nat × List Nat)} {B : List Nat} {O : List Nat} {b : Nat → Bool} {i j n : Nat}
theorem lof_length : (lof n O b).length = n := by simp [lof]
theorem lof_get {d : Bool} (hj : j < n) : (lof n O b).getD j d = if O.contains j then b j else true := by
  simp [lof, List.getD_eq_getElem?_getD, hj]
theorem lof_up (hi : O.contains i = true) : (lof n O b).set i true = lof n O (up b i) := by
  apply List.ext_getElem?
  intro j
  by_cases hj : j < n
  · by_cases hij : i = j
    · subst hij
      have hl : i < (lof n O b).length := by rw [lof_length]; exact hj
      rw [List.getElem?_set_self hl]
      simp only [lof, List.getElem?_map, List.getElem?_range hj, Option.map_some, hi, if_true, up_self]
    · rw [List.getElem?_set_ne hij]
      simp only [lof, List.getElem?_map, List.getElem?_range hj, Option.map_some]
      rw [up_ne (Ne.symm hij)]
  · rw [List.getElem?_eq_none (by simp [lof]; omega), List.getElem?_eq_none (by simp [lof]; omega)]
def StepAt (P : Program) (ops : Array Oper) (Q : Exit → Act → World → Prop) (B : List Nat) (O : List Nat) (I : (Nat → Bool) → Act → World → Prop) (i : Nat) : Prop :=
  ∀ b a w, I b a w → b i = false → (∀ j, (O.contains j && (B.getD i 0).testBit j) = true → b j = true) → (∀ d, (O.contains d && (B.getD d 0).testBit i) = true → b d = false) →
    ∃ oi, ops[i]? = some oi ∧ ∀ K : Act → World → Prop, Shut (∀ a' w', I (up b i) a' w' → K a' w') → if Region.wanted oi (yielded ops a.tmps) = true then Oper.wp P oi a w K Q else K (a.put oi.dst undef) w
theorem steps_nil {I : (Nat → Bool) → Act → World → Prop} : ∀ i ∈ ([] : List Nat), StepAt P ops Q B O I i := fun _ h => by cases h
theorem steps_cons {I : (Nat → Bool) → Act → World → Prop} {rs : List Nat} (h : StepAt P ops Q B O I i) (hs : ∀ j ∈ rs, StepAt P ops Q B O I j) : ∀ j ∈ i :: rs, StepAt P ops Q B O I j := fun j hj => by
  rcases List.mem_cons.1 hj with rfl | hj
  · exact h
  · exact hs j hj
def baseOk (T : List (List Nat × List Nat)) (O : List Nat) : Bool :=
  (List.range T.length).all (fun d => match T[d]? with
    | some r => (O.contains d || r.1.all fun n => !O.contains n) && r.1.all fun n => decide (n < d)
    | none => false) && O.all (fun i => decide (i < T.length)) && decide O.Nodup
theorem baseOk_row {T : List (List Nat × List Nat)} (h : baseOk T O = true) {d : Nat} {r : List Nat × List Nat} (hr : T[d]? = some r) : (O.contains d = false → ∀ n ∈ r.1, O.contains n = false) ∧ ∀ n ∈ r.1, n < d := by
  simp only [baseOk, Bool.and_eq_true] at h
  have h1 := List.all_eq_true.1 h.1.1 d (List.mem_range.2 (List.getElem?_eq_some_iff.1 hr).1)
  rw [hr] at h1
  simp only [Bool.and_eq_true, Bool.or_eq_true, List.all_eq_true, decide_eq_true_eq] at h1
  refine ⟨fun hd n hn => ?_, h1.2⟩
  rcases h1.1 with h2 | h2
  · rw [hd] at h2; cases h2
  · simpa using h2 n hn
theorem baseOk_lt {T : List (List Nat × List Nat)} (h : baseOk T O = true) {i : Nat} (hi : i ∈ O) : i < T.length := by
  simp only [baseOk, Bool.and_eq_true] at h
  simpa using List.all_eq_true.1 h.1.2 i hi
theorem baseOk_nodup {T : List (List Nat × List Nat)} (h : baseOk T O = true) : O.Nodup := by
  simp only [baseOk, Bool.and_eq_true] at h
  exact of_decide_eq_true h.2
def Closed (T : List (List Nat × List Nat)) (O : List Nat) (b : Nat → Bool) : Prop := ∀ d r, T[d]? = some r → O.contains d = true → b d = true → ∀ n ∈ r.1, O.contains n = true → b n = true
theorem bits_out {T : List (List Nat × List Nat)} (hw : waitsOk T B = true) (hk : baseOk T O = true) : ∀ (m d : Nat), d ≤ m → d < T.length → O.contains d = false → ∀ j, (B.getD d 0).testBit j = true → O.contains j = false := by
  intro m
  induction m with
  | zero =>
    intro d hd hl hO j hj
    have hd0 : d = 0 := by omega
    subst hd0
    have hr : T[0]? = some T[0] := List.getElem?_eq_getElem hl
    have h1 := List.all_eq_true.1 hw 0 (List.mem_range.2 hl)
    rw [hr] at h1
    simp only [beq_iff_eq] at h1
    have h2 : (upM B 0 T[0].1).testBit j = true := by rw [← h1, Nat.testBit_or, hj, Bool.true_or]
    obtain ⟨n, hn, h3⟩ := upM_bit h2
    have := (baseOk_row hk hr).2 n hn
    omega
  | succ m ih =>
    intro d hd hl hO j hj
    have hr : T[d]? = some T[d] := List.getElem?_eq_getElem hl
    have h1 := List.all_eq_true.1 hw d (List.mem_range.2 hl)
    rw [hr] at h1
    simp only [beq_iff_eq] at h1
    have h2 : (upM B d T[d].1).testBit j = true := by rw [← h1, Nat.testBit_or, hj, Bool.true_or]
    obtain ⟨n, hn, h3⟩ := upM_bit h2
    have hO2 := (baseOk_row hk hr).1 hO n hn
    rcases h3 with rfl | ⟨h4, h5⟩
    · exact hO2
    · exact ih n (by omega) (by omega) hO2 j h5
theorem closed_bits {T : List (List Nat × List Nat)} (hw : waitsOk T B = true) (hk : baseOk T O = true) (hc : Closed T O b) : ∀ (m d : Nat), d ≤ m → d < T.length → O.contains d = true → b d = true → ∀ j, O.contains j = true → (B.getD d 0).testBit j = true → b j = true := by
  intro m
  induction m with
  | zero =>
    intro d hd hl hO hb j hjO hj
    have hd0 : d = 0 := by omega
    subst hd0
    have hr : T[0]? = some T[0] := List.getElem?_eq_getElem hl
    have h1 := List.all_eq_true.1 hw 0 (List.mem_range.2 hl)
    rw [hr] at h1
    simp only [beq_iff_eq] at h1
    have h2 : (upM B 0 T[0].1).testBit j = true := by rw [← h1, Nat.testBit_or, hj, Bool.true_or]
    obtain ⟨n, hn, h3⟩ := upM_bit h2
    have := (baseOk_row hk hr).2 n hn
    omega
  | succ m ih =>
    intro d hd hl hO hb j hjO hj
    have hr : T[d]? = some T[d] := List.getElem?_eq_getElem hl
    have h1 := List.all_eq_true.1 hw d (List.mem_range.2 hl)
    rw [hr] at h1
    simp only [beq_iff_eq] at h1
    have h2 : (upM B d T[d].1).testBit j = true := by rw [← h1, Nat.testBit_or, hj, Bool.true_or]
    obtain ⟨n, hn, h3⟩ := upM_bit h2
    rcases h3 with rfl | ⟨h4, h5⟩
    · exact hc d _ hr hO hb n hn hjO
    · cases hO2 : O.contains n with
      | true => exact ih n (by omega) (by omega) hO2 (hc d _ hr hO hb n hn hO2) j hjO h5
      | false =>
        have := bits_out hw hk n n (Nat.le_refl _) (by omega) hO2 j h5
        rw [hjO] at this
        cases this
theorem up_count : ∀ {O : List Nat}, O.Nodup → i ∈ O → b i = false → (O.filter fun j => !up b i j).length + 1 = (O.filter fun j => !b j).length
  | [], _, hi, _ => by cases hi
  | x :: r, hn, hi, hb => by
    rw [List.nodup_cons] at hn
    rcases List.mem_cons.1 hi with rfl | hi
    · have h1 : (r.filter fun j => !up b i j) = r.filter fun j => !b j := by
        refine List.filter_congr (fun j hj => ?_)
        rw [up_ne (fun e => hn.1 (by rw [← e]; exact hj))]
      rw [List.filter_cons, List.filter_cons]
      simp [up_self, hb, h1]
    · have hxi : x ≠ i := fun e => hn.1 (e ▸ hi)
      have h1 := up_count hn.2 hi hb
      rw [List.filter_cons, List.filter_cons, up_ne hxi]
      cases hbx : b x
      · simp only [Bool.not_false, if_true, List.length_cons]
        omega
      · simpa using h1
theorem inv_all (hT : rtab md ops = T) (hw : waitsOk T.2 B = true) (hk : baseOk T.2 O = true) (I : (Nat → Bool) → Act → World → Prop) (hs : ∀ i ∈ O, StepAt P ops Q B O I i)
    (hend : ∀ b a w, (∀ j, O.contains j = true → b j = true) → I b a w → Q .normal a w) :
    ∀ (m : Nat) (b : Nat → Bool) (a : Act) (w : World), (O.filter fun j => !b j).length = m → Closed T.2 O b → I b a w → wpAnyLast P md ops Q (fun _ => True) [] m (lof T.2.length O b).toArray a w := by
  subst hT
  have mem_ready' : ∀ {b : Nat → Bool} {i : Nat}, i ∈ Region.ready md ops (lof (rtab md ops).2.length O b).toArray → i < (rtab md ops).2.length ∧ O.contains i = true ∧ b i = false ∧ ∀ r, (rtab md ops).2[i]? = some r → ∀ n ∈ r.1, n < (rtab md ops).2.length → O.contains n = true → b n = true := by
    intro b i hi
    rw [ready_eq] at hi
    unfold readyT at hi
    rw [List.mem_filter, List.mem_range] at hi
    obtain ⟨hl, h1⟩ := hi
    unfold readyAt at h1
    rw [Bool.and_eq_true, lof_get hl] at h1
    obtain ⟨h2, h3⟩ := h1
    have h4 : O.contains i = true := by
      cases h : O.contains i with
      | true => rfl
      | false => rw [h] at h2; simp at h2
    rw [h4] at h2
    refine ⟨hl, h4, by simpa using h2, fun r hr n hn hnl hO => ?_⟩
    rw [hr] at h3
    simp only [List.all_eq_true] at h3
    have h5 := h3 n hn
    rw [lof_get hnl, hO] at h5
    simpa using h5
  intro m
  induction m with
  | zero =>
    intro b a w hm hc hI
    have hall : ∀ j, O.contains j = true → b j = true := by
      intro j hj
      cases hb : b j with
      | true => rfl
      | false =>
        have : j ∈ O.filter fun j => !b j := List.mem_filter.2 ⟨List.contains_iff_mem.1 hj, by simp [hb]⟩
        rw [List.eq_nil_of_length_eq_zero hm] at this
        cases this
    refine ⟨?_, hend b a w hall hI⟩
    refine List.eq_nil_iff_forall_not_mem.2 (fun i hi => ?_)
    obtain ⟨_, h1, h2, _⟩ := mem_ready' hi
    rw [hall i h1] at h2
    cases h2
  | succ m ih =>
    intro b a w hm hc hI
    refine ⟨fun hr => ?_, fun i hi => ?_⟩
    · exfalso
      have hex : ∃ i, O.contains i = true ∧ b i = false := by
        cases hf : O.filter (fun j => !b j) with
        | nil => rw [hf] at hm; simp at hm
        | cons x r =>
          have hx : x ∈ O.filter (fun j => !b j) := by rw [hf]; exact List.mem_cons_self
          rw [List.mem_filter] at hx
          exact ⟨x, List.contains_iff_mem.2 hx.1, by simpa using hx.2⟩
      have hmin : ∀ k, (∃ i, i ≤ k ∧ O.contains i = true ∧ b i = false) → ∃ i, O.contains i = true ∧ b i = false ∧ ∀ j, j < i → O.contains j = true → b j = true := by
        intro k
        induction k with
        | zero =>
          rintro ⟨i, hi, h1, h2⟩
          exact ⟨i, h1, h2, fun j hj => by omega⟩
        | succ k ihk =>
          rintro ⟨i, hi, h1, h2⟩
          by_cases hlow : ∃ j, j ≤ k ∧ O.contains j = true ∧ b j = false
          · exact ihk hlow
          · refine ⟨i, h1, h2, fun j hj hO => ?_⟩
            cases hb : b j with
            | true => rfl
            | false => exact absurd ⟨j, by omega, hO, hb⟩ hlow
      obtain ⟨i0, h1, h2⟩ := hex
      obtain ⟨i, hO, hb, hlow⟩ := hmin i0 ⟨i0, Nat.le_refl _, h1, h2⟩
      have hl := baseOk_lt hk (List.contains_iff_mem.1 hO)
      have hin : i ∈ Region.ready md ops (lof (rtab md ops).2.length O b).toArray := by
        rw [ready_eq]
        unfold readyT
        rw [List.mem_filter, List.mem_range]
        refine ⟨hl, ?_⟩
        unfold readyAt
        rw [lof_get hl, hO, hb]
        have hr2 : (rtab md ops).2[i]? = some (rtab md ops).2[i] := List.getElem?_eq_getElem hl
        rw [hr2]
        simp only [if_true, Bool.not_false, Bool.true_and, List.all_eq_true]
        intro n hn
        have hni := (baseOk_row hk hr2).2 n hn
        rw [lof_get (by omega)]
        cases hOn : O.contains n with
        | true => simpa using hlow n hni hOn
        | false => simp
      rw [hr] at hin
      cases hin
    · obtain ⟨hl, hO, hb, hneed⟩ := mem_ready' hi
      have hon : ∀ j, (O.contains j && (B.getD i 0).testBit j) = true → b j = true := by
        intro j hj
        rw [Bool.and_eq_true] at hj
        have hr2 : (rtab md ops).2[i]? = some (rtab md ops).2[i] := List.getElem?_eq_getElem hl
        have h1 := List.all_eq_true.1 hw i (List.mem_range.2 hl)
        rw [hr2] at h1
        simp only [beq_iff_eq] at h1
        have h2 : (upM B i (rtab md ops).2[i].1).testBit j = true := by rw [← h1, Nat.testBit_or, hj.2, Bool.true_or]
        obtain ⟨n, hn, h3⟩ := upM_bit h2
        have hni := (baseOk_row hk hr2).2 n hn
        rcases h3 with rfl | ⟨h4, h5⟩
        · exact hneed _ hr2 n hn (by omega) hj.1
        · cases hO2 : O.contains n with
          | true => exact closed_bits hw hk hc n n (Nat.le_refl _) (by omega) hO2 (hneed _ hr2 n hn (by omega) hO2) j hj.1 h5
          | false =>
            have := bits_out hw hk n n (Nat.le_refl _) (by omega) hO2 j h5
            rw [hj.1] at this
            cases this
      have hoff : ∀ d, (O.contains d && (B.getD d 0).testBit i) = true → b d = false := by
        intro d hd
        rw [Bool.and_eq_true] at hd
        cases hbd : b d with
        | false => rfl
        | true =>
          have hdl := baseOk_lt hk (List.contains_iff_mem.1 hd.1)
          have := closed_bits hw hk hc d d (Nat.le_refl _) hdl hd.1 hbd i hO hd.2
          rw [hb] at this
          cases this
      obtain ⟨oi, hoi, hK⟩ := hs i (List.contains_iff_mem.1 hO) b a w hI hb hon hoff
      refine wpOp_step hoi (fun K' hK' => hK K' (fun a' w' hI' => hK' a' w' ⟨fun _ _ => trivial, ?_⟩))
      have hset : (lof (rtab md ops).2.length O b).toArray.setIfInBounds i true = (lof (rtab md ops).2.length O (up b i)).toArray := by
        apply Array.ext'
        rw [Array.toList_setIfInBounds]
        exact lof_up hO
      rw [hset]
      refine ih (up b i) a' w' ?_ ?_ hI'
      · have := up_count (baseOk_nodup hk) (List.contains_iff_mem.1 hO) hb
        omega
      · intro d r hr hOd hbd n hn hOn
        by_cases hni : n = i
        · rw [hni, up_self]
        · rw [up_ne hni]
          by_cases hdi : d = i
          · subst hdi
            exact hneed r hr n hn (by have := (baseOk_row hk hr).2 n hn; omega) hOn
          · rw [up_ne hdi] at hbd
            exact hc d r hr hOd hbd n hn hOn
theorem putSel_size (b : Nat → Bool) : ∀ (L : List (Nat × Tmp × Value)) (a : Act), (putSel a b L).tmps.size = a.tmps.size ∧ (putSel a b L).defers = a.defers
  | [], a => ⟨rfl, rfl⟩
  | e :: r, a => by
    unfold putSel
    by_cases h : b e.1 = true
    · rw [if_pos h]
      have := putSel_size b r (a.put (some e.2.1) e.2.2)
      exact ⟨this.1.trans (by simp [Act.put]), this.2.trans rfl⟩
    · rw [if_neg h]
      exact putSel_size b r a
theorem putSel_off {b : Nat → Bool} {t : Tmp} : ∀ {L : List (Nat × Tmp × Value)} {a : Act}, (L.all fun e => !(e.2.1 == t)) = true → (putSel a b L).tmps[t]? = a.tmps[t]?
  | [], _, _ => rfl
  | e :: r, a, h => by
    rw [List.all_cons, Bool.and_eq_true] at h
    have he : e.2.1 ≠ t := by simpa using h.1
    unfold putSel
    by_cases hb : b e.1 = true
    · rw [if_pos hb, putSel_off h.2]
      simp [Act.put, Array.getElem?_setIfInBounds_ne he]
    · rw [if_neg hb]
      exact putSel_off h.2
theorem putSel_on {b : Nat → Bool} {e : Nat × Tmp × Value} : ∀ {L : List (Nat × Tmp × Value)} {a : Act} (k : Nat), L[k]? = some e → ((L.drop (k + 1)).all fun x => !(x.2.1 == e.2.1)) = true → b e.1 = true → Nat.ble (e.2.1 + 1) a.tmps.size = true → (putSel a b L).tmps[e.2.1]? = some e.2.2
  | [], _, _, h, _, _, _ => by cases h
  | x :: r, a, 0, h, hd, hb, ht => by
    simp only [List.getElem?_cons_zero, Option.some.injEq] at h
    subst h
    unfold putSel
    rw [if_pos hb, putSel_off (by simpa using hd)]
    have ht2 : x.2.1 < a.tmps.size := Nat.le_of_ble_eq_true ht
    simp [Act.put, ht2]
  | x :: r, a, k + 1, h, hd, hb, ht => by
    unfold putSel
    refine putSel_on k (by simpa using h) (by simpa using hd) hb ?_
    by_cases hx : b x.1 = true
    · rw [if_pos hx]
      simpa [Act.put] using ht
    · rw [if_neg hx]
      exact ht
theorem put_comm {a : Act} {s t : Tmp} {u v : Value} (h : s ≠ t) : (a.put (some s) u).put (some t) v = (a.put (some t) v).put (some s) u := by
  simp only [Act.put]
  rw [Array.setIfInBounds_comm _ _ h]
theorem putSel_put {b : Nat → Bool} {t : Tmp} {v : Value} : ∀ {L : List (Nat × Tmp × Value)} {a : Act}, (L.all fun e => !(e.2.1 == t)) = true → (putSel a b L).put (some t) v = putSel (a.put (some t) v) b L
  | [], _, _ => rfl
  | e :: r, a, h => by
    rw [List.all_cons, Bool.and_eq_true] at h
    have he : e.2.1 ≠ t := by simpa using h.1
    unfold putSel
    by_cases hb : b e.1 = true
    · rw [if_pos hb, if_pos hb, putSel_put h.2, put_comm he]
    · rw [if_neg hb, if_neg hb]
      exact putSel_put h.2
theorem putSel_same {b : Nat → Bool} {i : Nat} : ∀ {L : List (Nat × Tmp × Value)} {a : Act}, (L.all fun e => !(e.1 == i)) = true → putSel a (up b i) L = putSel a b L
  | [], _, _ => rfl
  | e :: r, a, h => by
    rw [List.all_cons, Bool.and_eq_true] at h
    have he : e.1 ≠ i := by simpa using h.1
    unfold putSel
    rw [up_ne he]
    exact putSel_same h.2
theorem putSel_up {b : Nat → Bool} {i : Nat} {t : Tmp} {v0 v : Value} : ∀ {L1 L2 : List (Nat × Tmp × Value)} {a : Act}, b i = false → ((L1 ++ L2).all fun e => !(e.1 == i) && !(e.2.1 == t)) = true →
    (putSel a b (L1 ++ (i, t, v0) :: L2)).put (some t) v = putSel a (up b i) (L1 ++ (i, t, v) :: L2)
  | [], L2, a, hb, h => by
    simp only [List.nil_append] at h ⊢
    have h1 : (L2.all fun e => !(e.1 == i)) = true := List.all_eq_true.2 (fun e he => by have := List.all_eq_true.1 h e he; simp only [Bool.and_eq_true] at this; exact this.1)
    have h2 : (L2.all fun e => !(e.2.1 == t)) = true := List.all_eq_true.2 (fun e he => by have := List.all_eq_true.1 h e he; simp only [Bool.and_eq_true] at this; exact this.2)
    unfold putSel
    rw [if_neg (by rw [hb]; decide), if_pos (up_self b i), putSel_put h2, putSel_same h1]
  | e :: r, L2, a, hb, h => by
    simp only [List.cons_append, List.all_cons, Bool.and_eq_true] at h
    have he : e.1 ≠ i := by simpa using h.1.1
    simp only [List.cons_append]
    unfold putSel
    rw [up_ne he]
    exact putSel_up hb h.2
theorem putSel_upk {b : Nat → Bool} {i : Nat} {t : Tmp} {v0 v : Value} {a : Act} {L L' : List (Nat × Tmp × Value)} (k : Nat) (hb : b i = false) (hL : L[k]? = some (i, t, v0)) (hL' : L.set k (i, t, v) = L') (hd : ((L.take k ++ L.drop (k + 1)).all fun e => !(e.1 == i) && !(e.2.1 == t)) = true) :
    (putSel a b L).put (some t) v = putSel a (up b i) L' := by
  have hk := (List.getElem?_eq_some_iff.1 hL).1
  have h1 : L = L.take k ++ (i, t, v0) :: L.drop (k + 1) := by
    have h2 : L[k] = (i, t, v0) := (List.getElem?_eq_some_iff.1 hL).2
    rw [← h2, List.getElem_cons_drop, List.take_append_drop]
  have h3 : L' = L.take k ++ (i, t, v) :: L.drop (k + 1) := by rw [← hL', List.set_eq_take_append_cons_drop, if_pos hk]
  rw [h3]
  conv => lhs; rw [h1]
  exact putSel_up hb hd
theorem putSel_none {b : Nat → Bool} {i : Nat} {L : List (Nat × Tmp × Value)} {a : Act} {v : Value} (h : (L.all fun e => !(e.1 == i)) = true) : (putSel a b L).put none v = putSel a (up b i) L := (putSel_same h).symm
theorem inv_ {l : Array Bool} {fuel : Nat} {a : Act} {w : World} (O : List Nat) (I : (Nat → Bool) → Act → World → Prop) (hT : rtab md ops = T) (hw : waitsOk T.2 B = true) (hk : baseOk T.2 O = true)
    (hl : (lof T.2.length O (fun _ => false) == l.toList && O.length == fuel) = true) (h0 : I (fun _ => false) a w) (hs : ∀ i ∈ O, StepAt P ops Q B O I i)
    (hend : ∀ b a w, (∀ j, O.contains j = true → b j = true) → I b a w → Q .normal a w) : wpAnyLast P md ops Q (fun _ => True) [] fuel l a w := by
  rw [Bool.and_eq_true, beq_iff_eq, beq_iff_eq] at hl
  have h1 := inv_all hT hw hk I hs hend fuel (fun _ => false) a w (by rw [← hl.2]; simp) (fun d r _ _ hb => by cases hb) h0
  have h2 : (lof T.2.length O (fun _ => false)).toArray = l := by apply Array.ext'; exact hl.1
  rw [h2] at h1
  exact h1
theorem inv_at {l : Array Bool} {fuel : Nat} {a : Act} {w : World} (O : List Nat) (I : Act → (Nat → Bool) → Act → World → Prop) (hT : rtab md ops = T) (hw : waitsOk T.2 B = true) (hk : baseOk T.2 O = true)
    (hl : (lof T.2.length O (fun _ => false) == l.toList && O.length == fuel) = true) (h0 : I a (fun _ => false) a w) (hs : ∀ i ∈ O, StepAt P ops Q B O (I a) i)
    (hend : ∀ b a' w, (∀ j, O.contains j = true → b j = true) → I a b a' w → Q .normal a' w) : wpAnyLast P md ops Q (fun _ => True) [] fuel l a w := inv_ O (I a) hT hw hk hl h0 hs hend
end
end Go.Proofs.YtgjcffjicbmkhaaW.PrintLast
end

section
namespace Go.Proofs.YtgjcffjicbmkhaaW.PrintWords
open Go.RowKit
theorem Kd.R_slice1 {α : Type} {d : Kd α} {e base : Nat} {ok : Nat → Prop} {w : World} {v : Value} {xs : List α} (h : d.R e w base ok v xs) (hn : 0 < xs.length) : ∃ (ad : Addr) (c : Nat), v = .slice (some ad) xs.length c := by
  obtain ⟨A, c, rfl⟩ := Kd.R_slice h
  have h2 := (Kd.R_reads' h).2.2
  obtain ⟨ad, he, _⟩ := h2.2.2 hn
  subst he
  exact ⟨ad, c, rfl⟩
theorem Kd.R_flat {α : Type} {d : Kd α} {e base : Nat} {ok ok' : Nat → Prop} {w : World} {v : Value} {xs : List α} (hd : ∀ {ok1 ok2 : Nat → Prop} {x : α} {cs : List Value}, d.M w base ok1 x cs → d.M w base ok2 x cs) (h : d.R e w base ok v xs) (hok : ∀ k, v.ownBlock = some k → ok k → ok' k) : d.R e w base ok' v xs := by
  obtain ⟨h0, inner, hown, hr⟩ := h
  exact ⟨fun k hk => hok k hk (h0 k hk), inner, hown, hr.imp_ (fun _ _ hm => hd hm)⟩
theorem own_apart {v1 v2 : Value} {n : Nat} (hlt : ∀ k, v1.ownBlock = some k → k < n) (hge : ∀ k, v2.ownBlock = some k → n ≤ k) : v1.ownBlock = none ∨ v1.ownBlock ≠ v2.ownBlock := by
  cases h : v1.ownBlock with
  | none => exact .inl rfl
  | some k => exact .inr (fun e => by have := hlt k h; have := hge k e.symm; omega)
theorem own_apart' {v1 v2 : Value} {n : Nat} (hge : ∀ k, v1.ownBlock = some k → n ≤ k) (hlt : ∀ k, v2.ownBlock = some k → k < n) : v1.ownBlock = none ∨ v1.ownBlock ≠ v2.ownBlock := by
  cases h : v1.ownBlock with
  | none => exact .inl rfl
  | some k => exact .inr (fun e => by have := hge k h; have := hlt k e.symm; omega)
theorem atom_of {v1 v2 : Value} {k : Nat} (h : v1.ownBlock = none ∨ v1.ownBlock ≠ v2.ownBlock) (hk : v1.ownBlock = some k) : some k ≠ v2.ownBlock := by
  rcases h with h | h
  · rw [h] at hk; cases hk
  · rw [← hk]; exact h
theorem atom_of' {v1 v2 : Value} {k : Nat} (h : v1.ownBlock = none ∨ v1.ownBlock ≠ v2.ownBlock) (hk : v2.ownBlock = some k) : some k ≠ v1.ownBlock := by
  intro e
  rcases h with h | h
  · rw [h] at e; cases e
  · exact h (e.symm.trans hk.symm)
end Go.Proofs.YtgjcffjicbmkhaaW.PrintWords
namespace Go.Proofs.YtgjcffjicbmkhaaW.PrintLast
section
variable {ops : Array Oper} {a : Act} {o og : Oper} {g : Nat} {t : Tmp} {u : Bool}
theorem eval_of {v : Value} (h : a.tmps[t]? = some v) : a.eval (.tmp t) = v := by simp [Act.eval, h]
theorem putSel_not {b : Nat → Bool} {j : Nat} (hj : b j = false) : ∀ {L : List (Nat × Tmp × Value)} {a : Act}, (L.all fun e => !(e.2.1 == t) || e.1 == j) = true → (putSel a b L).tmps[t]? = a.tmps[t]?
  | [], _, _ => rfl
  | e :: r, a, h => by
    rw [List.all_cons, Bool.and_eq_true] at h
    unfold putSel
    by_cases hb : b e.1 = true
    · rw [if_pos hb, putSel_not hj h.2]
      have he : e.2.1 ≠ t := by
        intro ht
        rw [Bool.or_eq_true] at h
        rcases h.1 with h1 | h1
        · simp [ht] at h1
        · rw [beq_iff_eq] at h1
          rw [h1, hj] at hb
          cases hb
      simp [Act.put, Array.getElem?_setIfInBounds_ne he]
    · rw [if_neg hb]
      exact putSel_not hj h.2
theorem wanted_on (hg : o.guard = some (g, u)) (ho : ops[g]? = some og) (hd : og.dst = some t) (hv : a.tmps[t]? = some (.bool u)) : Region.wanted o (yielded ops a.tmps) = true := by
  simp [Region.wanted, hg, yielded, ho, hd, hv]
theorem wanted_off (hg : o.guard = some (g, u)) (ho : ops[g]? = some og) (hd : og.dst = some t) (hv : a.tmps[t]? = some (.bool (!u))) : Region.wanted o (yielded ops a.tmps) = false := by
  cases u <;> simp_all [Region.wanted, yielded]
end
end Go.Proofs.YtgjcffjicbmkhaaW.PrintLast
end

section
namespace Go.Proofs.YtgjcffjicbmkhaaW.PrintWords
open Go.RowKit
section
variable {P : Program} {ops : Array Oper} {rest : List Oper} {o : Oper} {a : Act} {Q : Exit → Act → World → Prop} {W : World}
theorem gate_guard (hw : Region.wanted o (yielded ops a.tmps) = true) (h : wpList P ops Q ({ o with guard := none } :: rest) a W) : wpList P ops Q (o :: rest) a W := by
  have h1 : Region.wanted { o with guard := none } (yielded ops a.tmps) = true := rfl
  unfold wpList at h ⊢
  rw [if_pos h1] at h
  rw [if_pos hw]
  exact h
theorem skip_guard (hw : Region.wanted o (yielded ops a.tmps) = false) (h : wpList P ops Q rest (a.put o.dst undef) W) : wpList P ops Q (o :: rest) a W := by
  unfold wpList
  rw [hw]
  exact h
end
end Go.Proofs.YtgjcffjicbmkhaaW.PrintWords
end

section
namespace Go.Proofs.Ytgjcffjicbmkhaa.PF
open Go.RowKit Go.Proofs.YtgjcffjicbmkhaaW.PrintWords Go.Proofs.YtgjcffjicbmkhaaW.PrintLast Go.Proofs.YtgjcffjicbmkhaaW.PrintMore
attribute [local go_sem] max2_int min2_int max_two min_two max_three min_three max_four min_four   -- for this text's walks alone
set_option linter.unusedVariables false
set_option linter.unusedSimpArgs false
def errW : Option Int → Value
  | none => .nilIface
  | some c => .iface 0 (.int .i64 c)
theorem errW_none : errW none = .nilIface := rfl
theorem errW_some (c : Int) : errW (some c) = .iface 0 (.int .i64 c) := rfl
theorem info5 : (Try.prog.info? 5).map (fun i => (i.zero, i.size, i.bytes)) = some (some (.int .u8 0), 1, 1) := by kernel_rfl
theorem info28 : (Try.prog.info? 28).map (fun i => (i.zero, i.size, i.bytes)) = some (some (.agg #[(.int .i64 0), (.int .i64 0), (.int .i64 0)]), 3, 24) := by kernel_rfl
theorem info36 : (Try.prog.info? 36).map (fun i => (i.zero, i.size, i.bytes)) = some (some (.int .u64 0), 1, 8) := by kernel_rfl
structure S28 where
  f0 : Int
  f1 : Int
  f2 : Int
def z28 : S28 := ⟨(0 : Int), (0 : Int), (0 : Int)⟩
def k28 : Kd S28 := Kd.iso (Kd.pair (Kd.int .i64) (Kd.pair (Kd.int .i64) (Kd.int .i64))) (fun x : S28 => (x.f0, x.f1, x.f2))
theorem k28_open {w : World} {x : S28} {cs : List Value} (h : k28.K w x cs) : cs = [.int .i64 x.f0, .int .i64 x.f1, .int .i64 x.f2] := by
  obtain ⟨_, _, rfl, rfl, ⟨_, _, rfl, rfl, rfl⟩⟩ := h
  exact rfl
theorem k28_openM {w : World} {base : Nat} {ok : Nat → Prop} {x : S28} {cs : List Value} (h : k28.M w base ok x cs) : cs = [.int .i64 x.f0, .int .i64 x.f1, .int .i64 x.f2] := by
  obtain ⟨_, _, rfl, rfl, ⟨_, _, rfl, rfl, rfl⟩⟩ := h
  exact rfl
theorem k28_mk (w : World) (x : S28)  : k28.K w x [.int .i64 x.f0, .int .i64 x.f1, .int .i64 x.f2] := ⟨[.int .i64 x.f0], [.int .i64 x.f1, .int .i64 x.f2], rfl, rfl, ⟨[.int .i64 x.f1], [.int .i64 x.f2], rfl, rfl, rfl⟩⟩
theorem k28_mkM (w : World) (base : Nat) (ok : Nat → Prop) (x : S28)  : k28.M w base ok x [.int .i64 x.f0, .int .i64 x.f1, .int .i64 x.f2] := ⟨[.int .i64 x.f0], [.int .i64 x.f1, .int .i64 x.f2], rfl, rfl, ⟨[.int .i64 x.f1], [.int .i64 x.f2], rfl, rfl, rfl⟩⟩
def rd_T28 (xs : List S28) (i : Int) : S28 := xs.getD i.toNat z28
theorem at_T28 {w : World} {A : Option Addr} {n : Nat} {xs : List S28} (h : Kd.C k28 w A n xs) (i : Int) (h0 : 0 ≤ i) (h1 : i < n) : ∃ ad , A = some ad ∧ w.cell? (ad.add (i.toNat * 3)) = some (.int .i64 (rd_T28 xs i).f0) ∧ w.cell? ⟨(ad.add (i.toNat * 3)).block, (ad.add (i.toNat * 3)).off + 1, none⟩ = some (.int .i64 (rd_T28 xs i).f1) ∧ w.cell? ⟨(ad.add (i.toNat * 3)).block, (ad.add (i.toNat * 3)).off + 2, none⟩ = some (.int .i64 (rd_T28 xs i).f2) := by
  obtain ⟨ad, c, e, _, hK, hc0⟩ := Kd.C_get h z28 i h0 h1
  have hc : ∀ j u, c[j]? = some u → w.cell? (ad.add (i.toNat * 3 + j)) = some u := hc0
  obtain rfl := k28_open hK
  exact ⟨ad, e, hc 0 _ rfl, by rw [← add_field _ _ 1 (by omega)]; exact hc 1 _ rfl, by rw [← add_field _ _ 2 (by omega)]; exact hc 2 _ rfl⟩
def rd_L4 (xs : List (List Int)) (i : Int) : (List Int) := xs.getD i.toNat ([] : List Int)
theorem at_L4 {w : World} {A : Option Addr} {n : Nat} {xs : List (List Int)} (h : Kd.C (Kd.slice 3 (Kd.int .i64)) w A n xs) (i : Int) (h0 : 0 ≤ i) (h1 : i < n) : ∃ ad A0 c0, A = some ad ∧ w.cell? (ad.add i.toNat) = some (.slice A0 (rd_L4 xs i).length c0) ∧ (rd_L4 xs i).length ≤ c0 ∧ (Kd.int .i64).C w A0 (rd_L4 xs i).length (rd_L4 xs i) := by
  obtain ⟨ad, c, e, _, hK, hc0⟩ := Kd.C_get h ([] : List Int) i h0 h1
  have hc : ∀ j u, c[j]? = some u → w.cell? (ad.add (i.toNat * 1 + j)) = some u := hc0
  obtain ⟨A0, c0, rfl, l0, g0⟩ := hK
  exact ⟨ad, A0, c0, e, by have hq := hc 0 _ rfl; rwa [Nat.mul_one, Nat.add_zero] at hq, l0, g0⟩
end Go.Proofs.Ytgjcffjicbmkhaa.PF
end

section
namespace Go.Proofs.Ytgjcffjicbmkhaa.PF
open Go.RowKit Go.Proofs.YtgjcffjicbmkhaaW.PrintWords Go.Proofs.YtgjcffjicbmkhaaW.PrintLast Go.Proofs.YtgjcffjicbmkhaaW.PrintMore
attribute [local go_sem] max2_int min2_int max_two min_two max_three min_three max_four min_four   -- for this text's walks alone
set_option linter.unusedVariables false
set_option linter.unusedSimpArgs false
def larderlaw2_within.f (a0 : Int) (a1 : Int) : Option (Int) := if a1 = 0 then (none) else (some (Int.tmod (wrap64 ((Int.tmod a0 a1) + a1)) a1))
set_option maxHeartbeats 8000000 in
set_option maxRecDepth 100000 in
theorem larderlaw2_within.calls (a0 : Int) (a1 : Int) (r : Int) (w : World) (h : larderlaw2_within.f a0 a1 = some r) :
    Calls Try.prog 12 #[.int .i64 a0, .int .i64 a1] w fun e w' => e = .returned (.int .i64 r) ∧ Drawn0 w w' := by
  have H : (if a1 = 0 then (none) else (some (Int.tmod (wrap64 ((Int.tmod a0 a1) + a1)) a1))) = some r := h
  clear h
  by_cases c3 : a1 = 0
  · rw [if_pos c3] at H
    exact absurd H (by simp)
  · rw [if_neg c3] at H
    have c3b0 : (a1 == 0) = false := beq_eq_false_iff_ne.mpr c3
    have c3b1 : (a1 != 0) = true := bne_iff_ne.mpr c3
    obtain rfl := Option.some.inj H
    go_enter Try.func12, Try.ntmps12
    go_wp2
    go_ret
    exact ⟨by first | rfl | (simp; done) | (simp [*]; done), by repeat (first | exact Drawn0.refl _ | apply Drawn0.step)⟩
end Go.Proofs.Ytgjcffjicbmkhaa.PF
end

section
namespace Go.Proofs.Ytgjcffjicbmkhaa.PF
open Go.RowKit Go.Proofs.YtgjcffjicbmkhaaW.PrintWords Go.Proofs.YtgjcffjicbmkhaaW.PrintLast Go.Proofs.YtgjcffjicbmkhaaW.PrintMore
attribute [local go_sem] max2_int min2_int max_two min_two max_three min_three max_four min_four   -- for this text's walks alone
set_option linter.unusedVariables false
set_option linter.unusedSimpArgs false
def larderlaw2_fit.f (a0_0 : Int) (a0_1 : Int) (a0_2 : Int) : Option (Int × Int × Int) := (larderlaw2_within.f a0_0 255).bind fun t103 => ((larderlaw2_within.f a0_1 24).bind fun t104 => ((larderlaw2_within.f a0_2 24).bind fun t105 => (some (wrap64 (1 + t103), t104, t105))))
def larderlaw2_fit.T1 : Bool × List (List Nat × List Nat) := (true, [([], []), ([0], [0]), ([1], [1]), ([2], [2]), ([], []), ([4], [4]), ([5, 2], [5]), ([], []), ([7], [7]), ([8, 6], [8]), ([3, 6, 9], [3, 6, 9]), ([10, 9, 0, 1, 2, 3, 4, 5, 6, 7, 8, 9, 10], [10])])
def larderlaw2_fit.B1 : List Nat := [0, 1, 3, 7, 0, 16, 55, 0, 128, 503, 1023, 2047]
theorem larderlaw2_fit.tab1 : rtab .any (opsOf Try.f34 1) = larderlaw2_fit.T1 := by kernel_rfl
theorem larderlaw2_fit.bits1 : waitsOk larderlaw2_fit.T1.2 larderlaw2_fit.B1 = true := by kernel_rfl
set_option maxHeartbeats 8000000 in
set_option maxRecDepth 100000 in
theorem larderlaw2_fit.calls (a0_0 : Int) (a0_1 : Int) (a0_2 : Int) (r1 : Int) (r2 : Int) (r3 : Int) (w : World) (h : larderlaw2_fit.f a0_0 a0_1 a0_2 = some (r1, r2, r3)) :
    Calls Try.prog 34 #[.agg #[.int .i64 a0_0, .int .i64 a0_1, .int .i64 a0_2]] w fun e w' => e = .returned (.agg #[.int .i64 r1, .int .i64 r2, .int .i64 r3]) ∧ Below w.heap.size w w' := by
  have hu28 := Try.underlying28
  have HB := Aside0.mk (Below.refl w.heap.size w)
  have H : ((larderlaw2_within.f a0_0 255).bind fun t103 => ((larderlaw2_within.f a0_1 24).bind fun t104 => ((larderlaw2_within.f a0_2 24).bind fun t105 => (some (wrap64 (1 + t103), t104, t105))))) = some (r1, r2, r3) := h
  clear h
  replace H := Option.bind_eq_some_iff.mp H
  obtain ⟨t103, A20, H⟩ := H
  replace H : ((larderlaw2_within.f a0_1 24).bind fun t104 => ((larderlaw2_within.f a0_2 24).bind fun t105 => (some (wrap64 (1 + t103), t104, t105)))) = some (r1, r2, r3) := H
  have A2 := Aside0.mk A20
  clear A20
  replace H := Option.bind_eq_some_iff.mp H
  obtain ⟨t104, A30, H⟩ := H
  replace H : ((larderlaw2_within.f a0_2 24).bind fun t105 => (some (wrap64 (1 + t103), t104, t105))) = some (r1, r2, r3) := H
  have A3 := Aside0.mk A30
  clear A30
  replace H := Option.bind_eq_some_iff.mp H
  obtain ⟨t105, A40, H⟩ := H
  replace H : (some (wrap64 (1 + t103), t104, t105)) = some (r1, r2, r3) := H
  have A4 := Aside0.mk A40
  clear A40
  simp only [Option.some.injEq, Prod.mk.injEq] at H
  obtain ⟨rfl, rfl, rfl⟩ := H
  go_enter Try.func34, Try.ntmps34
  try go_wp2_with (first | ((with_reducible refine gate_dst (N := 1) rfl ?_); refine box_event ?hg (N := 1) ?hd (cs := #[.int .i64 a0_0, .int .i64 a0_1, .int .i64 a0_2]) (t := 28) ?hr ?_; (case hd => rfl); (case hg => rfl); (case hr => first | (go_simp; done) | (go_simp; rfl)); intro gb101 hg w5 hbox hb; have n0_ := Aside0.mk (below_step (by repeat (first | (with_reducible first | exact HB.out | apply below_alloc | apply pw_below_drewN | apply below_drew1) | exact HB.out)) hb); have n1_ := Aside0.mk (hbox); have n2_ := Aside0.mk ((by rw [hg]; exact (below_size (by repeat (first | (with_reducible first | exact HB.out | apply below_alloc | apply pw_below_drewN | apply below_drew1) | exact HB.out))) : w.heap.size ≤ gb101)); have n3_ := Aside0.mk ((by rw [hg]; exact (below_size (by repeat (first | (with_reducible first | exact HB.out | apply below_alloc | apply pw_below_drewN | apply below_drew1) | exact HB.out))) : w.heap.size ≤ gb101)); clear HB; have HB := n0_; have BK101 := n1_; have GW101 := n2_; have GE101 := n3_; clear n0_ n1_ n2_ n3_; clear hb hbox hg) | ((with_reducible refine gate_dst (N := 2) rfl ?_); refine box_event ?hg (N := 2) ?hd (cs := #[.int .i64 0, .int .i64 0, .int .i64 0]) (t := 28) ?hr ?_; (case hd => rfl); (case hg => rfl); (case hr => first | (go_simp; done) | (go_simp; rfl)); intro gb102 hg w6 hbox hb; have n0_ := Aside0.mk (blk_below (g := gb101) (o := .cells #[.int .i64 a0_0, .int .i64 a0_1, .int .i64 a0_2] 28 (0, 0)) (by (with_reducible repeat (first | refine blk_drewN ?_ _ | refine blk_drew ?_ | refine blk_alloc ?_ _)); exact BK101.out) hb); have n1_ := Aside0.mk (below_step (by repeat (first | (with_reducible first | exact HB.out | apply below_alloc | apply pw_below_drewN | apply below_drew1 | refine below_set ?_ GE101.out) | exact HB.out)) hb); have n2_ := Aside0.mk (hbox); have n3_ := Aside0.mk ((by rw [hg]; exact (below_size (by repeat (first | (with_reducible first | exact HB.out | apply below_alloc | apply pw_below_drewN | apply below_drew1 | refine below_set ?_ GE101.out) | exact HB.out))) : w.heap.size ≤ gb102)); have n4_ := Aside0.mk ((by rw [hg]; exact (below_size (by repeat (first | (with_reducible first | exact HB.out | apply below_alloc | apply pw_below_drewN | apply below_drew1 | refine below_set ?_ GE101.out) | exact HB.out))) : w.heap.size ≤ gb102)); have n5_ := Aside0.mk ((by rw [hg]; exact Nat.ne_of_lt (blk_lt (g := gb101) (o := .cells #[.int .i64 a0_0, .int .i64 a0_1, .int .i64 a0_2] 28 (0, 0)) (by (with_reducible repeat (first | refine blk_drewN ?_ _ | refine blk_drew ?_ | refine blk_alloc ?_ _)); exact BK101.out)) : gb101 ≠ gb102)); have n6_ := Aside0.mk ((by rw [hg]; exact Nat.ne_of_gt (blk_lt (g := gb101) (o := .cells #[.int .i64 a0_0, .int .i64 a0_1, .int .i64 a0_2] 28 (0, 0)) (by (with_reducible repeat (first | refine blk_drewN ?_ _ | refine blk_drew ?_ | refine blk_alloc ?_ _)); exact BK101.out)) : gb102 ≠ gb101)); clear BK101; clear HB; have BK101 := n0_; have HB := n1_; have BK102 := n2_; have GW102 := n3_; have GE102 := n4_; have NB101_102 := n5_; have NB102_101 := n6_; clear n0_ n1_ n2_ n3_ n4_ n5_ n6_; clear hb hbox hg))
  have n0_ := Aside0.mk (blk_drew BK101.out)
  have n1_ := Aside0.mk (blk_drew BK102.out)
  have n2_ := Aside0.mk (below_drew1 HB.out)
  clear BK101
  clear BK102
  clear HB
  have BK101 := n0_
  have BK102 := n1_
  have HB := n2_
  clear n0_ n1_ n2_
  refine start_ (n := 12) (S := fun w' => w'.cell? ⟨gb101, 0, none⟩ = some (.int .i64 a0_0) ∧ w'.cell? ⟨gb101, 1, none⟩ = some (.int .i64 a0_1) ∧ w'.cell? ⟨gb101, 2, none⟩ = some (.int .i64 a0_2)) (ds := []) #[false, false, false, false, false, false, false, false, false, false, false, false] (by kernel_rfl) rfl rfl ⟨(blk_cell BK101.out 0).trans rfl, (blk_cell BK101.out 1).trans rfl, (blk_cell BK101.out 2).trans rfl⟩ (fun hHeld => ?_); refine with_tabW larderlaw2_fit.tab1 larderlaw2_fit.bits1 (fun HT_ HW_ => ?_)
  generalize w6.drew = w7 at BK101 BK102 HB hHeld ⊢
  refine pure_ (i := 0) (N := some 3) (v := ?_) (a' := ?_) #[true, false, false, false, false, false, false, false, false, false, false, false] rfl rfl (any_of HT_.out (by kernel_rfl)) (fun _ _ _ h => h) (Or.inl ⟨by rfl, ?_⟩) ?_ ?_
  rotate_left
  · intro w'
    go_simp
    with_reducible rfl
  rotate_left
  · simp only [Act.put, List.setIfInBounds_toArray, List.set_cons_zero, List.set_cons_succ, i64_w, i32_w]
    rfl
  refine pure_ (i := 4) (N := some 7) (v := ?_) (a' := ?_) #[true, false, false, false, true, false, false, false, false, false, false, false] rfl rfl (any_of HT_.out (by kernel_rfl)) (fun _ _ _ h => h) (Or.inl ⟨by rfl, ?_⟩) ?_ ?_
  rotate_left
  · intro w'
    go_simp
    with_reducible rfl
  rotate_left
  · simp only [Act.put, List.setIfInBounds_toArray, List.set_cons_zero, List.set_cons_succ, i64_w, i32_w]
    rfl
  refine pure_ (i := 7) (N := some 10) (v := ?_) (a' := ?_) #[true, false, false, false, true, false, false, true, false, false, false, false] rfl rfl (any_of HT_.out (by kernel_rfl)) (fun _ _ _ h => h) (Or.inl ⟨by rfl, ?_⟩) ?_ ?_
  rotate_left
  · intro w'
    go_simp
    with_reducible rfl
  rotate_left
  · simp only [Act.put, List.setIfInBounds_toArray, List.set_cons_zero, List.set_cons_succ, i64_w, i32_w]
    rfl
  refine take_ (i := 1) (N := some 4) (v := ?_) (a' := ?_) #[true, true, false, false, true, false, false, true, false, false, false, false] rfl rfl (take_ofW HT_.out HW_.out (by kernel_rfl)) (fun _ _ _ h => h) (Or.inl ⟨by rfl, ?_⟩) hHeld ?_ ?_
  rotate_left
  · rintro w' ⟨s0, s1, s2⟩
    go_simp
    with_reducible rfl
  rotate_left
  · simp only [Act.put, List.setIfInBounds_toArray, List.set_cons_zero, List.set_cons_succ, i64_w, i32_w]
    rfl
  refine take_ (i := 5) (N := some 8) (v := ?_) (a' := ?_) #[true, true, false, false, true, true, false, true, false, false, false, false] rfl rfl (take_ofW HT_.out HW_.out (by kernel_rfl)) (fun _ _ _ h => h) (Or.inl ⟨by rfl, ?_⟩) hHeld ?_ ?_
  rotate_left
  · rintro w' ⟨s0, s1, s2⟩
    go_simp
    with_reducible rfl
  rotate_left
  · simp only [Act.put, List.setIfInBounds_toArray, List.set_cons_zero, List.set_cons_succ, i64_w, i32_w]
    rfl
  refine take_ (i := 8) (N := some 11) (v := ?_) (a' := ?_) #[true, true, false, false, true, true, false, true, true, false, false, false] rfl rfl (take_ofW HT_.out HW_.out (by kernel_rfl)) (fun _ _ _ h => h) (Or.inl ⟨by rfl, ?_⟩) hHeld ?_ ?_
  rotate_left
  · rintro w' ⟨s0, s1, s2⟩
    go_simp
    with_reducible rfl
  rotate_left
  · simp only [Act.put, List.setIfInBounds_toArray, List.set_cons_zero, List.set_cons_succ, i64_w, i32_w]
    rfl
  refine one_ (i := 2) (N := some 5) #[true, true, true, false, true, true, false, true, true, false, false, false] rfl rfl (one_of HT_.out (by kernel_rfl)) (by decide) (fun K hK => ?_)
  refine goes_ Try.func12 (by kernel_rfl) rfl #[.int .i64 a0_0, .int .i64 255] (by rfl) rfl rfl (by (try simp only [List.map_toArray, List.map_cons, List.map_nil]); first | done | rfl | (simp only [List.length_drop, List.length_take]; rfl)) ?_
  with_reducible refine (larderlaw2_within.calls a0_0 255 t103 _ A2.out).mono ?_
  rintro e w' ⟨rfl, ⟨nd, rfl⟩⟩
  refine ⟨_, rfl, ?_⟩
  refine hK.out _ _ ⟨(blk_cell BK101.out 0).trans rfl, (blk_cell BK101.out 1).trans rfl, (blk_cell BK101.out 2).trans rfl⟩ (fun hHeld => ?_)
  clear hK K
  refine norm_ (a' := ?_) ?_ ?_
  rotate_left
  · show Act.put _ (some 5) _ = _
    simp only [Act.put, List.setIfInBounds_toArray, List.set_cons_zero, List.set_cons_succ, i64_w, i32_w]
    rfl
  refine pure_ (i := 3) (N := some 6) (v := ?_) (a' := ?_) #[true, true, true, true, true, true, false, true, true, false, false, false] rfl rfl (any_of HT_.out (by kernel_rfl)) (fun _ _ _ h => h) (Or.inl ⟨by rfl, ?_⟩) ?_ ?_
  rotate_left
  · intro w'
    go_simp
    with_reducible rfl
  rotate_left
  · simp only [Act.put, List.setIfInBounds_toArray, List.set_cons_zero, List.set_cons_succ, i64_w, i32_w]
    rfl
  refine one_ (i := 6) (N := some 9) #[true, true, true, true, true, true, true, true, true, false, false, false] rfl rfl (one_of HT_.out (by kernel_rfl)) (by decide) (fun K hK => ?_)
  refine goes_ Try.func12 (by kernel_rfl) rfl #[.int .i64 a0_1, .int .i64 24] (by rfl) rfl rfl (by (try simp only [List.map_toArray, List.map_cons, List.map_nil]); first | done | rfl | (simp only [List.length_drop, List.length_take]; rfl)) ?_
  with_reducible refine (larderlaw2_within.calls a0_1 24 t104 _ A3.out).mono ?_
  rintro e w' ⟨rfl, ⟨nd, rfl⟩⟩
  refine ⟨_, rfl, ?_⟩
  refine hK.out _ _ ⟨(blk_cell BK101.out 0).trans rfl, (blk_cell BK101.out 1).trans rfl, (blk_cell BK101.out 2).trans rfl⟩ (fun hHeld => ?_)
  clear hK K
  refine norm_ (a' := ?_) ?_ ?_
  rotate_left
  · show Act.put _ (some 9) _ = _
    simp only [Act.put, List.setIfInBounds_toArray, List.set_cons_zero, List.set_cons_succ, i64_w, i32_w]
    rfl
  refine one_ (i := 9) (N := some 12) #[true, true, true, true, true, true, true, true, true, true, false, false] rfl rfl (one_of HT_.out (by kernel_rfl)) (by decide) (fun K hK => ?_)
  refine goes_ Try.func12 (by kernel_rfl) rfl #[.int .i64 a0_2, .int .i64 24] (by rfl) rfl rfl (by (try simp only [List.map_toArray, List.map_cons, List.map_nil]); first | done | rfl | (simp only [List.length_drop, List.length_take]; rfl)) ?_
  with_reducible refine (larderlaw2_within.calls a0_2 24 t105 _ A4.out).mono ?_
  rintro e w' ⟨rfl, ⟨nd, rfl⟩⟩
  refine ⟨_, rfl, ?_⟩
  refine hK.out _ _ ⟨(blk_cell BK101.out 0).trans rfl, (blk_cell BK101.out 1).trans rfl, (blk_cell BK101.out 2).trans rfl⟩ (fun hHeld => ?_)
  clear hK K
  refine norm_ (a' := ?_) ?_ ?_
  rotate_left
  · show Act.put _ (some 12) _ = _
    simp only [Act.put, List.setIfInBounds_toArray, List.set_cons_zero, List.set_cons_succ, i64_w, i32_w]
    rfl
  refine pure_ (i := 10) (N := some 13) (v := ?_) (a' := ?_) #[true, true, true, true, true, true, true, true, true, true, true, false] rfl rfl (any_of HT_.out (by kernel_rfl)) (fun _ _ _ h => h) (Or.inl ⟨by rfl, ?_⟩) ?_ ?_
  rotate_left
  · intro w'
    go_simp
    with_reducible rfl
  rotate_left
  · simp only [Act.put, List.setIfInBounds_toArray, List.set_cons_zero, List.set_cons_succ, i64_w, i32_w]
    rfl
  refine one_ (i := 11) (N := none) #[true, true, true, true, true, true, true, true, true, true, true, true] rfl rfl (one_of HT_.out (by kernel_rfl)) (by decide) (fun K hK => ?_)
  have hs8 : w7.cell? ⟨gb102, 0, none⟩ = some (.int .i64 0) := (blk_cell BK102.out 0).trans rfl
  have hfs8 := blk_frozen BK102.out 0
  have hns8_0 := NB101_102.out
  have hms8_0 := NB102_101.out
  have hs9 : w7.cell? ⟨gb102, 1, none⟩ = some (.int .i64 0) := (blk_cell BK102.out 1).trans rfl
  have hfs9 := blk_frozen BK102.out 1
  have hns9_0 := NB101_102.out
  have hms9_0 := NB102_101.out
  have hs10 : w7.cell? ⟨gb102, 2, none⟩ = some (.int .i64 0) := (blk_cell BK102.out 2).trans rfl
  have hfs10 := blk_frozen BK102.out 2
  have hns10_0 := NB101_102.out
  have hms10_0 := NB102_101.out
  refine skip_ (w1 := ?_) (by rfl) rfl ?_ ?_
  rotate_left
  · go_simp
    rfl
  refine hK.out _ _ ⟨((cell_far (p := ⟨gb102, _, none⟩) NB101_102.out _).trans (((cell_far (p := ⟨gb102, _, none⟩) NB101_102.out _).trans (((cell_far (p := ⟨gb102, _, none⟩) NB101_102.out _).trans (hHeld.1)))))), ((cell_far (p := ⟨gb102, _, none⟩) NB101_102.out _).trans (((cell_far (p := ⟨gb102, _, none⟩) NB101_102.out _).trans (((cell_far (p := ⟨gb102, _, none⟩) NB101_102.out _).trans (hHeld.2.1)))))), ((cell_far (p := ⟨gb102, _, none⟩) NB101_102.out _).trans (((cell_far (p := ⟨gb102, _, none⟩) NB101_102.out _).trans (((cell_far (p := ⟨gb102, _, none⟩) NB101_102.out _).trans (hHeld.2.2))))))⟩ (fun hHeld => ?_)
  clear hK K
  refine done_ (done_of HT_.out (by kernel_rfl)) ?_
  try go_wp2
  refine bodyPost_ret (results_cell_row rfl _ _ gb102 28 #[.int .i64 (wrap64 (1 + t103)), .int .i64 t104, .int .i64 t105] (0, 0) _ rfl (by (with_reducible repeat (first | refine blk_drewN ?_ _ | refine blk_drew ?_ | refine blk_alloc ?_ _)); refine blk_put (cs := #[.int .i64 (wrap64 (1 + t103)), .int .i64 t104, .int .i64 0]) ?_ 2 _ rfl; (with_reducible repeat (first | refine blk_drewN ?_ _ | refine blk_drew ?_ | refine blk_alloc ?_ _)); refine blk_put (cs := #[.int .i64 (wrap64 (1 + t103)), .int .i64 0, .int .i64 0]) ?_ 1 _ rfl; (with_reducible repeat (first | refine blk_drewN ?_ _ | refine blk_drew ?_ | refine blk_alloc ?_ _)); refine blk_put (cs := #[.int .i64 0, .int .i64 0, .int .i64 0]) ?_ 0 _ rfl; (with_reducible repeat (first | refine blk_drewN ?_ _ | refine blk_drew ?_ | refine blk_alloc ?_ _)); exact BK102.out) Try.underlying28 rfl (by kernel_rfl)) rfl ?_
  exact ⟨by first | rfl | (simp [errW_none, errW_some] <;> rfl) | (simp [*, errW_none, errW_some] <;> rfl), by repeat (first | (with_reducible first | exact HB.out | apply below_alloc | apply pw_below_drewN | apply below_drew1 | refine below_set ?_ GE101.out | refine below_set ?_ GE102.out) | exact HB.out)⟩
end Go.Proofs.Ytgjcffjicbmkhaa.PF
end

section
namespace Go.Proofs.Ytgjcffjicbmkhaa.PF
open Go.RowKit Go.Proofs.YtgjcffjicbmkhaaW.PrintWords Go.Proofs.YtgjcffjicbmkhaaW.PrintLast Go.Proofs.YtgjcffjicbmkhaaW.PrintMore
attribute [local go_sem] max2_int min2_int max_two min_two max_three min_three max_four min_four   -- for this text's walks alone
set_option linter.unusedVariables false
set_option linter.unusedSimpArgs false
def larderlaw2_take.l0 : Nat → List (S28) → List (S28) → Int → Option ((List (S28)))
  | 0, _, _, _ => none
  | k + 1, x0, x3, x4 => if x4 < (x0.length : Int) then (if x4 < 2000 then (if 0 ≤ x4 then ((larderlaw2_fit.f ((rd_T28 x0 x4).f0) ((rd_T28 x0 x4).f1) ((rd_T28 x0 x4).f2)).bind fun bt107 => (if x3.length < 5864062014805 then (larderlaw2_take.l0 k x0 (x3 ++ [(⟨bt107.1, bt107.2.1, bt107.2.2⟩ : S28)]) (wrap64 (x4 + 1))) else (none))) else (none)) else (some x3)) else (some x3)
def larderlaw2_take.f (k : Nat) (l0 : List (S28)) : Option ((List (S28))) := larderlaw2_take.l0 k l0 ([] : List (S28)) 0
theorem larderlaw2_take.mono_l : ∀ k, (∀ y0 y1 y2, LeO (larderlaw2_take.l0 k y0 y1 y2) (larderlaw2_take.l0 (k + 1) y0 y1 y2))
  | 0 => fun _ _ _ r h => by simp [larderlaw2_take.l0] at h
  | k + 1 => by
    have ih0 := larderlaw2_take.mono_l k
    · intro y0 y1 y2
      unfold larderlaw2_take.l0
      repeat' first
      | (with_reducible exact ih0 _ _ _)
      | (with_reducible exact LeO.refl _)
      | (with_reducible exact LeO.none _)
      | (with_reducible refine LeO.ite ?_ ?_)
      | (with_reducible refine LeO.bind ?_ (fun _ => ?_))
      | exact ih0 _ _ _
      | exact LeO.none _
      | refine LeO.ite ?_ ?_
      | refine LeO.bind ?_ (fun _ => ?_)
theorem larderlaw2_take.mono : ∀ a0 k, LeO (larderlaw2_take.f k a0) (larderlaw2_take.f (k + 1) a0) := by
  intro a0 k
  have ih0 := larderlaw2_take.mono_l k
  unfold larderlaw2_take.f
  repeat' first
      | (with_reducible exact ih0 _ _ _)
      | (with_reducible exact LeO.refl _)
      | (with_reducible exact LeO.none _)
      | (with_reducible refine LeO.ite ?_ ?_)
      | (with_reducible refine LeO.bind ?_ (fun _ => ?_))
      | exact ih0 _ _ _
      | exact LeO.none _
      | refine LeO.ite ?_ ?_
      | refine LeO.bind ?_ (fun _ => ?_)
set_option maxHeartbeats 8000000 in
set_option maxRecDepth 100000 in
theorem larderlaw2_take.calls (k : Nat) (A0 : Option Addr) (c0 : Nat) (l0 : List (S28)) (r : List (S28)) (w : World) (hr0 : Kd.C k28 w A0 l0.length l0) (hc0 : l0.length ≤ c0) (h : larderlaw2_take.f k l0 = some r) :
    Calls Try.prog 10 #[.slice A0 l0.length c0] w fun e w' => ∃ v0_ : Value, e = .returned (v0_) ∧ Kd.R k28 28 w' w.heap.size (fun _ => True) v0_ r ∧ Below w.heap.size w w' := by
  have hu28 := Try.underlying28
  have HR0 := Aside0.mk hr0
  have HC0 := Aside0.mk hc0
  clear hr0 hc0
  have HB := Aside0.mk (Below.refl w.heap.size w)
  have H : (larderlaw2_take.l0 k l0 ([] : List (S28)) 0) = some r := h
  clear h
  have H' := Aside0.mk H
  clear H
  go_enter Try.func10, Try.ntmps10
  go_wp2
  go_loopg [3, 4] k (fun kq v3 v4 w' => ∃ (x3_1 : List (S28)) (x4_1 : Int), v4 = .int .i64 x4_1 ∧ Aside0 (larderlaw2_take.l0 kq l0 x3_1 x4_1 = some r) ∧ Aside0 (kq ≤ k) ∧ Aside0 (Kd.R k28 28 w' w.heap.size (fun _ => True) v3 x3_1) ∧ Aside0 (Below w.heap.size w w'))
  case atStart => exact ⟨(([] : List (S28))), (0), (by first | rfl | (simp; done) | (simp [*]; done)), H', ⟨Nat.le_refl _⟩, ⟨by first | exact Kd.R_nil _ _ _ _ _ | exact Kd.N_nil _ _ _ _ _ | exact Kd.V_nil _ _ _ _ _ | exact Kd.Q_nil _ _ _ _ _ | exact Kd.S_nil _ _ _ _ _⟩, ⟨by repeat (first | (with_reducible first | exact HB.out | apply below_alloc | apply pw_below_drewN | apply below_drew1) | exact HB.out)⟩⟩
  case round =>
    clear H'
    try clear c1
    obtain ⟨x3_1, x4_1, rfl, HA, HK1, HO_3, HB⟩ := hrel
    cases gk with
    | zero => exact absurd HA.out (by simp [larderlaw2_take.l0])
    | succ k1 =>
      have H := HA.out
      clear HA
      simp only [larderlaw2_take.l0] at H
      by_cases c2 : x4_1 < (l0.length : Int)
      · rw [if_pos c2] at H
        have c2b0 : decide (x4_1 < (l0.length : Int)) = true := decide_eq_true c2
        clear c2
        by_cases c3 : x4_1 < 2000
        · rw [if_pos c3] at H
          have c3b0 : decide (x4_1 < 2000) = true := decide_eq_true c3
          clear c3
          by_cases c4 : 0 ≤ x4_1
          · rw [if_pos c4] at H
            have c4b0 : decide (0 ≤ x4_1) = true := decide_eq_true c4
            clear c4
            replace H := Option.bind_eq_some_iff.mp H
            obtain ⟨⟨t107, t108, t109⟩, A50, H⟩ := H
            replace H : (if x3_1.length < 5864062014805 then (larderlaw2_take.l0 k1 l0 (x3_1 ++ [(⟨t107, t108, t109⟩ : S28)]) (wrap64 (x4_1 + 1))) else (none)) = some r := H
            have A5 := Aside0.mk A50
            clear A50
            by_cases c6 : x3_1.length < 5864062014805
            · rw [if_pos c6] at H
              have LMc6 := Aside0.mk c6
              clear c6
              obtain ⟨y111, hy111⟩ : ∃ y_ : List (S28), y_ = (x3_1 ++ [(⟨t107, t108, t109⟩ : S28)]) := ⟨_, rfl⟩
              replace H : (larderlaw2_take.l0 k1 l0 y111 (wrap64 (x4_1 + 1))) = some r := by first | (rw [hy111]; with_reducible exact H) | (have H2_ := (Option.bind_some _ _).symm.trans H; rw [hy111]; with_reducible exact H2_) | (have H2_ := (Option.bind_some _ _).symm.trans H; with_reducible exact H2_) | with_reducible exact H | (rw [hy111]; exact H) | exact H
              have Ny111 := Aside0.mk hy111
              clear hy111
              have H' := Aside0.mk H
              clear H
              have p106 : 0 ≤ (x4_1 : Int) := of_decide_eq_true (by first | (with_reducible assumption) | assumption)
              have q106 : x4_1 < (l0.length : Int) := of_decide_eq_true (by first | (with_reducible assumption) | assumption)
              obtain ⟨ad106, e106, hx106_0, hx106_1, hx106_2⟩ := at_T28 HR0.out x4_1 p106 q106
              cases e106
              replace hx106_0 := (HB.out.cell (World.block_lt_of_cell? w _ hx106_0)).trans hx106_0
              replace hx106_1 := (HB.out.cell (World.block_lt_of_cell? w _ hx106_1)).trans hx106_1
              replace hx106_2 := (HB.out.cell (World.block_lt_of_cell? w _ hx106_2)).trans hx106_2
              replace p106 := eq_true p106
              replace q106 := eq_true q106
              go_wp2_with (first | ((with_reducible refine gate_callee (f := 34) rfl ?_); refine goesL_ (some 20) rfl rfl Try.func34 (by kernel_rfl) rfl #[.agg #[.int .i64 ((rd_T28 l0 x4_1).f0), .int .i64 ((rd_T28 l0 x4_1).f1), .int .i64 ((rd_T28 l0 x4_1).f2)]] rfl (by (try simp only [List.map_toArray, List.map_cons, List.map_nil]); first | done | rfl | (simp only [List.length_drop, List.length_take]; rfl)) ?_; (with_reducible refine (larderlaw2_fit.calls ((rd_T28 l0 x4_1).f0) ((rd_T28 l0 x4_1).f1) ((rd_T28 l0 x4_1).f2) t107 t108 t109 _ A5.out).mono ?_); rintro e w7 ⟨rfl, hb⟩; refine ⟨_, rfl, ?_⟩; have n0_ := Aside0.mk (Kd.R_below (by (with_reducible repeat (first | apply Kd.R_alloc | apply Kd.R_drewN | apply Kd.R_drew)); exact HO_3.out) hb); have n1_ := Aside0.mk (below_step (by repeat (first | (with_reducible first | exact HB.out | apply below_alloc | apply pw_below_drewN | apply below_drew1) | exact HB.out)) hb); clear HO_3; clear HB; have HO_3 := n0_; have HB := n1_; clear n0_ n1_; (try clear hb); (try clear hb2); (try clear hk); (try clear hi)) | ((with_reducible refine gate_dst (N := 5) rfl ?_); refine box_event ?hg (N := 5) ?hd (cs := #[.int .i64 0, .int .i64 0, .int .i64 0]) (t := 28) ?hr ?_; (case hd => rfl); (case hg => rfl); (case hr => first | (go_simp; done) | (go_simp; rfl)); intro gb110 hg w8 hbox hb; have n0_ := Aside0.mk (Kd.R_below (Kd.R_elderB (by (with_reducible repeat (first | apply Kd.R_alloc | apply Kd.R_drewN | apply Kd.R_drew)); exact HO_3.out) gb110 (Nat.le_of_eq hg.symm)) hb); have n1_ := Aside0.mk (below_step (by repeat (first | (with_reducible first | exact HB.out | apply below_alloc | apply pw_below_drewN | apply below_drew1) | exact HB.out)) hb); have n2_ := Aside0.mk (hbox); have n3_ := Aside0.mk ((by rw [hg]; exact (below_size (by repeat (first | (with_reducible first | exact HB.out | apply below_alloc | apply pw_below_drewN | apply below_drew1) | exact HB.out))) : w.heap.size ≤ gb110)); have n4_ := Aside0.mk ((by rw [hg]; exact (below_size (by repeat (first | (with_reducible first | exact HB.out | apply below_alloc | apply pw_below_drewN | apply below_drew1) | exact HB.out))) : w.heap.size ≤ gb110)); clear HO_3; clear HB; have HO_3 := n0_; have HB := n1_; have BK110 := n2_; have GW110 := n3_; have GE110 := n4_; clear n0_ n1_ n2_ n3_ n4_; clear hb hbox hg; have hcz9_0 : w8.cell? ⟨gb110, 0, none⟩ = some (.int .i64 0) := (blk_cell BK110.out 0).trans rfl; have hcz9_1 : w8.cell? ⟨gb110, 1, none⟩ = some (.int .i64 0) := (blk_cell BK110.out 1).trans rfl; have hcz9_2 : w8.cell? ⟨gb110, 2, none⟩ = some (.int .i64 0) := (blk_cell BK110.out 2).trans rfl; have hfz9_0 := blk_frozen BK110.out 0; have hfz9_1 := blk_frozen BK110.out 1; have hfz9_2 := blk_frozen BK110.out 2) | ((with_reducible refine gate_builtin (b := .append) (xs := #[.tmp 21, .tmp 23]) rfl ?_); at_builtin; refine Kd.R_append k28 (w0 := w) w.heap.size rfl (.tmp 21) (.tmp 23) 22 28 (.agg #[(.int .i64 0), (.int .i64 0), (.int .i64 0)]) 24 rfl Try.underlying22 info28 rfl (by decide) (by omega) u3 x3_1 (⟨t107, t108, t109⟩ : S28) [.int .i64 t107, .int .i64 t108, .int .i64 t109] (fun k_ => k_ ≠ gb110) (fun _ => False) rfl (by first | (go_simp; done) | (go_simp; rfl)) ?aP (fun _ hk => hk.elim) ?aF ?aO ?aB ?aS ?aL ?_; (case aP => exact k28_mkM _ _ _ (⟨t107, t108, t109⟩ : S28)); (case aB => exact (by repeat (first | (with_reducible first | exact HB.out | apply below_alloc | apply pw_below_drewN | apply below_drew1 | refine below_set ?_ GE110.out) | exact HB.out))); (case aF => exact (fun k_ hk => Kd.freshB (g := gb110) (o := .cells #[.int .i64 t107, .int .i64 t108, .int .i64 t109] 28 (0, 0)) (by (with_reducible repeat (first | refine blk_drewN ?_ _ | refine blk_drew ?_ | refine blk_alloc ?_ _)); refine blk_put (cs := #[.int .i64 t107, .int .i64 t108, .int .i64 0]) ?_ 2 _ rfl; (with_reducible repeat (first | refine blk_drewN ?_ _ | refine blk_drew ?_ | refine blk_alloc ?_ _)); refine blk_put (cs := #[.int .i64 t107, .int .i64 0, .int .i64 0]) ?_ 1 _ rfl; (with_reducible repeat (first | refine blk_drewN ?_ _ | refine blk_drew ?_ | refine blk_alloc ?_ _)); refine blk_put (cs := #[.int .i64 0, .int .i64 0, .int .i64 0]) ?_ 0 _ rfl; (with_reducible repeat (first | refine blk_drewN ?_ _ | refine blk_drew ?_ | refine blk_alloc ?_ _)); exact BK110.out) k_ hk)); (case aO => exact (by (with_reducible repeat (first | apply Kd.R_alloc | apply Kd.R_drewN | apply Kd.R_drew)); exact Kd.R_mono (Kd.R_far (p := ⟨gb110, 2, none⟩) (Kd.R_far (p := ⟨gb110, 1, none⟩) (Kd.R_far (p := ⟨gb110, 0, none⟩) (Kd.R_mono HO_3.out (fun k_ hk => (⟨hk, hk.2⟩ : _ ∧ k_ ≠ gb110))) (fun _ hk => hk.2) (.int .i64 t107)) (fun _ hk => hk.2) (.int .i64 t108)) (fun _ hk => hk.2) (.int .i64 t109)) (fun _ hk => hk.1.2))); (case aS => exact (below_size (by repeat (first | (with_reducible first | exact HB.out | apply below_alloc | apply pw_below_drewN | apply below_drew1 | refine below_set ?_ GE110.out) | exact HB.out)))); (case aL => have := LMc6.out; omega); intro v112 w10 ho hb hg hat; rw [← Ny111.out] at ho; have n0_ := Aside0.mk (blk_grown (g := gb110) (o := .cells #[.int .i64 t107, .int .i64 t108, .int .i64 t109] 28 (0, 0)) (by (with_reducible repeat (first | refine blk_drewN ?_ _ | refine blk_drew ?_ | refine blk_alloc ?_ _)); refine blk_put (cs := #[.int .i64 t107, .int .i64 t108, .int .i64 0]) ?_ 2 _ rfl; (with_reducible repeat (first | refine blk_drewN ?_ _ | refine blk_drew ?_ | refine blk_alloc ?_ _)); refine blk_put (cs := #[.int .i64 t107, .int .i64 0, .int .i64 0]) ?_ 1 _ rfl; (with_reducible repeat (first | refine blk_drewN ?_ _ | refine blk_drew ?_ | refine blk_alloc ?_ _)); refine blk_put (cs := #[.int .i64 0, .int .i64 0, .int .i64 0]) ?_ 0 _ rfl; (with_reducible repeat (first | refine blk_drewN ?_ _ | refine blk_drew ?_ | refine blk_alloc ?_ _)); exact BK110.out) hg (Kd.R_away HO_3.out (fun _ hk => hk.2))); have n1_ := Aside0.mk (hb); have n2_ := Aside0.mk (ho); clear BK110; clear HB; clear HO_3; have BK110 := n0_; have HB := n1_; have HO113 := n2_; clear n0_ n1_ n2_; clear ho hb hg hat))
              go_roundg k1
              case measure => have := HK1.out; omega
              case rel => exact ⟨(y111), (wrap64 (x4_1 + 1)), (by first | rfl | (simp; done) | (simp [*]; done)), H', ⟨by have := HK1.out; omega⟩, ⟨by (with_reducible repeat (first | apply Kd.R_alloc | apply Kd.R_drewN | apply Kd.R_drew)); exact Kd.R_mono HO113.out (fun _ hk => trivial)⟩, ⟨by repeat (first | (with_reducible first | exact HB.out | apply below_alloc | apply pw_below_drewN | apply below_drew1 | refine below_set ?_ GE110.out) | exact HB.out)⟩⟩
            · rw [if_neg c6] at H
              exact absurd H (by simp)
          · rw [if_neg c4] at H
            exact absurd H (by simp)
        · rw [if_neg c3] at H
          have c3b0 : decide (x4_1 < 2000) = false := decide_eq_false c3
          clear c3
          obtain rfl := Option.some.inj H
          go_wp2
          go_ret
          exact ⟨_, by first | rfl | (simp [errW_none, errW_some] <;> rfl) | (simp [*, errW_none, errW_some] <;> rfl), by (with_reducible repeat (first | apply Kd.R_alloc | apply Kd.R_drewN | apply Kd.R_drew)); exact HO_3.out, by repeat (first | (with_reducible first | exact HB.out | apply below_alloc | apply pw_below_drewN | apply below_drew1) | exact HB.out)⟩
      · rw [if_neg c2] at H
        have c2b0 : decide (x4_1 < (l0.length : Int)) = false := decide_eq_false c2
        clear c2
        obtain rfl := Option.some.inj H
        go_wp2
        go_ret
        exact ⟨_, by first | rfl | (simp [errW_none, errW_some] <;> rfl) | (simp [*, errW_none, errW_some] <;> rfl), by (with_reducible repeat (first | apply Kd.R_alloc | apply Kd.R_drewN | apply Kd.R_drew)); exact HO_3.out, by repeat (first | (with_reducible first | exact HB.out | apply below_alloc | apply pw_below_drewN | apply below_drew1) | exact HB.out)⟩
end Go.Proofs.Ytgjcffjicbmkhaa.PF
end

section
namespace Go.Proofs.Ytgjcffjicbmkhaa.GenM
open Go Go.RowKit Go.Proofs.YtgjcffjicbmkhaaW.PrintWords Go.Proofs.YtgjcffjicbmkhaaW.PrintLast Go.Proofs.YtgjcffjicbmkhaaW.PrintMore Go.Proofs.Ytgjcffjicbmkhaa.RowU Go.Proofs.Ytgjcffjicbmkhaa.ArS Go.Proofs.Ytgjcffjicbmkhaa.ArM
set_option linter.unusedVariables false
set_option maxRecDepth 100000
def GenAt (T : TypeId) (W : World) (g cap : Nat) (l : List Value) : Prop :=
  ∃ cur : List Value, W.heap[g]? = some (.cells cur.toArray T (0, 0)) ∧ cur.length = cap ∧ l.length ≤ cap ∧ cap ≤ maxLen ∧ cur.take l.length = l
theorem GenAt.get {T : TypeId} {W : World} {g cap : Nat} {l : List Value} (h : GenAt T W g cap l) (j : Nat) (x : Value) (hx : l[j]? = some x) : W.cell? ⟨g, j, none⟩ = some x := by
  obtain ⟨cur, h1, h2, h3, _, h4⟩ := h
  have hj : j < l.length := (List.getElem?_eq_some_iff.1 hx).1
  have : cur.toArray[j]? = some x := by
    have h5 := congrArg (fun r => r[j]?) h4
    simp only [List.getElem?_take, if_pos hj, hx] at h5
    simpa using h5
  exact (blk_cell h1 j).trans this
theorem GenAt.upd {T : TypeId} {S : Nat → Prop} {W W' : World} {g cap : Nat} {l : List Value} (h : GenAt T W g cap l) (hu : Upd S W W') (hg : ¬ S g) : GenAt T W' g cap l := by
  obtain ⟨cur, h1, h2⟩ := h
  exact ⟨cur, blk_upd h1 hu hg, h2⟩
theorem GenAt.lt {T : TypeId} {W : World} {g cap : Nat} {l : List Value} (h : GenAt T W g cap l) : g < W.heap.size := by
  obtain ⟨cur, h1, h2⟩ := h
  exact cell_lt h1
def GV (T : TypeId) (W : World) (v : Value) (l : List Value) : Prop := (v = .slice none 0 0 ∧ l = []) ∨ ∃ g cap, v = .slice (some ⟨g, 0, none⟩) l.length cap ∧ GenAt T W g cap l
theorem GV.nil (T : TypeId) (W : World) : GV T W (.slice none 0 0) [] := .inl ⟨rfl, rfl⟩
theorem GV.upd {T : TypeId} {S : Nat → Prop} {W W' : World} {v : Value} {l : List Value} (h : GV T W v l) (hu : Upd S W W') (hg : ∀ k, v.ownBlock = some k → ¬ S k) : GV T W' v l := by
  rcases h with h | ⟨g, cap, rfl, h⟩
  · exact .inl h
  · exact .inr ⟨g, cap, rfl, h.upd hu (hg g rfl)⟩
theorem GV.get {T : TypeId} {W : World} {v : Value} {l : List Value} (h : GV T W v l) (j : Nat) (x : Value) (hx : l[j]? = some x) : ∃ g cap, v = .slice (some ⟨g, 0, none⟩) l.length cap ∧ W.cell? ⟨g, j, none⟩ = some x := by
  rcases h with ⟨rfl, rfl⟩ | ⟨g, cap, rfl, h⟩
  · simp at hx
  · exact ⟨g, cap, rfl, h.get j x hx⟩
theorem GV.lt {T : TypeId} {W : World} {v : Value} {l : List Value} (h : GV T W v l) (k : Nat) (hk : v.ownBlock = some k) : k < W.heap.size := by
  rcases h with ⟨rfl, rfl⟩ | ⟨g, cap, rfl, h⟩
  · cases hk
  · obtain rfl := Option.some.inj hk
    exact h.lt
theorem GV.slice {T : TypeId} {W : World} {v : Value} {l : List Value} (h : GV T W v l) : ∃ A c, v = .slice A l.length c := by
  rcases h with ⟨rfl, rfl⟩ | ⟨g, cap, rfl, h⟩
  · exact ⟨none, 0, rfl⟩
  · exact ⟨_, _, rfl⟩
theorem GV.own {T : TypeId} {W : World} {v : Value} {l : List Value} (h : GV T W v l) : ∃ B, (∀ k, v.ownBlock = some k → B ≤ k) ∧ (∀ k, v.ownBlock = some k → k = B) ∧ B ≤ W.heap.size ∧ W.ownsRow B T 1 v l.length l := by
  rcases h with ⟨rfl, rfl⟩ | ⟨g, cap, rfl, hg⟩
  · exact ⟨W.heap.size, fun k hk => (by cases hk), fun k hk => (by cases hk), Nat.le_refl _, by simp, .inl ⟨rfl, rfl⟩⟩
  · have hlt := hg.lt
    obtain ⟨cur, h1, h2, h3, h4, h5⟩ := hg
    refine ⟨g, fun k hk => ?_, fun k hk => ?_, Nat.le_of_lt hlt, by simp, .inr ⟨g, cap, cur.toArray, rfl, Nat.le_refl _, h1, h3, h4, by simpa using h2, by simpa using h5⟩⟩
    · obtain rfl := Option.some.inj hk; exact Nat.le_refl _
    · exact (Option.some.inj hk).symm
theorem GV.of_own {T : TypeId} {W : World} {base : Nat} {v : Value} {l : List Value} {n : Nat} (h : W.ownsRow base T 1 v n l) (hn : n = l.length) : GV T W v l ∧ ∀ k, v.ownBlock = some k → base ≤ k := by
  subst hn
  obtain ⟨h1, ⟨rfl, h2⟩ | ⟨g, cap, cur, rfl, hb, hg, hn, hm, hc, ht⟩⟩ := h
  · exact ⟨.inl ⟨rfl, List.eq_nil_of_length_eq_zero h2⟩, fun k hk => by cases hk⟩
  · refine ⟨.inr ⟨g, cap, rfl, cur.toList, by simpa using hg, by simpa using hc, hn, hm, by simpa using ht⟩, fun k hk => ?_⟩
    obtain rfl := Option.some.inj hk
    exact hb
theorem oper_gen {o : Oper} {a : Act} {K : Act → World → Prop} {Q : Exit → Act → World → Prop} (w : World) (s x : Operand) (t T : TypeId)
    (hop : o.op = Op.call { callee := Callee.builtin Builtin.append, args := #[s, x], argTypes := #[t, t] })
    (ht : Try.prog.underlying t = some (.slice T)) (z : Value) (by_ : Nat) (hi : (Try.prog.info? T).map (fun i => (i.zero, i.size, i.bytes)) = some (some z, 1, by_)) (hz : z.cells.size = 1) (hby : by_ ≤ 100)
    (v : Value) (l : List Value) (hs : a.eval s = v) (hv : GV T w v l) (ad : Addr) (y : Value) (hx : a.eval x = .slice (some ad) 1 1) (hc : w.cell? ad = some y) (h1 : y.oneCell' = true) (hb : l.length ≤ 100000000)
    (hK : ∀ v' w', GV T w' v' (l ++ [y]) → (∀ k, v'.ownBlock = some k → (v.ownBlock = some k ∨ w.heap.size ≤ k)) → Upd (fun k => v.ownBlock = some k) w w' → K (a.put o.dst v') w') :
    Oper.wp Try.prog o a w K Q := by
  obtain ⟨i, hi', hz'⟩ := Option.map_eq_some_iff.1 hi
  simp only [Prod.mk.injEq] at hz'
  obtain ⟨z0, z1, z2⟩ := hz'
  have hnews : ∀ j u, ([y] : List Value)[j]? = some u → w.cell? (ad.add j) = some u := by
    intro j u hu
    cases j with
    | zero =>
      simp at hu
      subst hu
      have : ad.add 0 = ad := rfl
      rw [this]; exact hc
    | succ j => simp at hu
  have h1' : ∀ u ∈ [y], u.oneCell' = true := fun u hu => by rw [List.mem_singleton.1 hu]; exact h1
  have hm := Nat.mul_le_mul_left (l.length + 1) hby
  rcases hv with ⟨rfl, rfl⟩ | ⟨g, cap, rfl, hg'⟩
  · obtain ⟨v', w', hrun, ho, hgr, _⟩ := run_append_own (P := Try.prog) w w.heap.size t o.type T i z 1 by_ ht hi' z0 z1 z2 hz (by decide) (.slice none 0 0) 0 [] (World.ownsRow_nil w _ T 1) ad 1 1 [y] (by simp) hnews h1' (by decide) (by simp; omega) (Nat.le_refl _)
    obtain ⟨r1, r2⟩ := GV.of_own ho (by simp)
    unfold Oper.wp
    simp [execOp, hop, resolve, invoke, builtin, hs, hx, hrun, Result.andThen]
    exact hK v' w' r1 (fun k hk => .inr (r2 k hk)) (Upd.of_grown hgr (fun k hk => by cases hk))
  · have hlt := hg'.lt
    have hget := fun j x hx => hg'.get j x hx
    obtain ⟨B, b1, b2, b3, hown⟩ := GV.own (.inr ⟨g, cap, rfl, hg'⟩ : GV T w (.slice (some ⟨g, 0, none⟩) l.length cap) l)
    by_cases hr : l.length + 1 ≤ cap
    · obtain ⟨w', hrun, hown', hgr⟩ := run_append_fits (P := Try.prog) w B t o.type T i 1 ht hi' z1 g l.length cap l hown ad 1 1 [y] (by simp) hnews h1' hr
      obtain ⟨r1, r2⟩ := GV.of_own hown' (by simp)
      unfold Oper.wp
      simp [execOp, hop, resolve, invoke, builtin, hs, hx, hrun, Result.andThen]
      exact hK _ w' r1 (fun k hk => .inl hk) (Upd.of_grown hgr (fun k hk => by rw [← hk]; rfl))
    · obtain ⟨v', w', hrun, hown', hgr⟩ := run_append_arg_grows (P := Try.prog) w t o.type T i z 1 by_ ht hi' z0 z1 z2 hz (by decide) ⟨g, 0, none⟩ l.length cap l (by simp) (by
        intro j u hu
        have := hget j u hu
        simpa [Addr.add_lit] using this) ad 1 1 [y] (by simp) hnews (by omega) (by unfold maxLen; omega) (by omega)
      obtain ⟨r1, r2⟩ := GV.of_own hown' (by simp)
      unfold Oper.wp
      simp [execOp, hop, resolve, invoke, builtin, hs, hx, hrun, Result.andThen]
      exact hK v' w' r1 (fun k hk => .inr (r2 k hk)) (Upd.of_grown hgr (fun k hk => by cases hk))
theorem wpList_gen {ops : Array Oper} {rest : List Oper} {o : Oper} {a : Act} {Q : Exit → Act → World → Prop} (w : World) (hg : o.guard = none) (s x : Operand) (t T : TypeId)
    (hop : o.op = Op.call { callee := Callee.builtin Builtin.append, args := #[s, x], argTypes := #[t, t] })
    (ht : Try.prog.underlying t = some (.slice T)) (z : Value) (by_ : Nat) (hi : (Try.prog.info? T).map (fun i => (i.zero, i.size, i.bytes)) = some (some z, 1, by_)) (hz : z.cells.size = 1) (hby : by_ ≤ 100)
    (v : Value) (l : List Value) (hs : a.eval s = v) (hv : GV T w v l) (ad : Addr) (y : Value) (hx : a.eval x = .slice (some ad) 1 1) (hc : w.cell? ad = some y) (h1 : y.oneCell' = true) (hb : l.length ≤ 100000000)
    (hK : ∀ v' w', GV T w' v' (l ++ [y]) → (∀ k, v'.ownBlock = some k → (v.ownBlock = some k ∨ w.heap.size ≤ k)) → Upd (fun k => v.ownBlock = some k) w w' → wpList Try.prog ops Q rest (a.put o.dst v') w') :
    wpList Try.prog ops Q (o :: rest) a w :=
  wpList_plain hg fun K hK' => oper_gen w s x t T hop ht z by_ hi hz hby v l hs hv ad y hx hc h1 hb (fun v' w' r1 r2 r3 => hK' _ _ (hK v' w' r1 r2 r3))
theorem step_gen {ops : Array Oper} {o : Oper} {a : Act} {K : Act → World → Prop} {Q : Exit → Act → World → Prop} {E : Prop} (w : World) (hg : o.guard = none) (s x : Operand) (t T : TypeId)
    (hop : o.op = Op.call { callee := Callee.builtin Builtin.append, args := #[s, x], argTypes := #[t, t] })
    (ht : Try.prog.underlying t = some (.slice T)) (z : Value) (by_ : Nat) (hi : (Try.prog.info? T).map (fun i => (i.zero, i.size, i.bytes)) = some (some z, 1, by_)) (hz : z.cells.size = 1) (hby : by_ ≤ 100)
    (v : Value) (l : List Value) (hs : a.eval s = v) (hv : GV T w v l) (ad : Addr) (y : Value) (hx : a.eval x = .slice (some ad) 1 1) (hc : w.cell? ad = some y) (h1 : y.oneCell' = true) (hb : l.length ≤ 100000000)
    (hK : ∀ v' w', GV T w' v' (l ++ [y]) → (∀ k, v'.ownBlock = some k → (v.ownBlock = some k ∨ w.heap.size ≤ k)) → Upd (fun k => v.ownBlock = some k) w w' → K (a.put o.dst v') w') :
    if Region.wanted o (yielded ops a.tmps) = true then Oper.wp Try.prog o a w K Q else E := by
  rw [if_pos (by simp [Region.wanted, hg])]
  exact oper_gen w s x t T hop ht z by_ hi hz hby v l hs hv ad y hx hc h1 hb hK
end Go.Proofs.Ytgjcffjicbmkhaa.GenM
end

section
namespace Go.Proofs.Ytgjcffjicbmkhaa.TakS
open Go Go.RowKit Go.Proofs.YtgjcffjicbmkhaaW.PrintWords Go.Proofs.YtgjcffjicbmkhaaW.PrintLast Go.Proofs.YtgjcffjicbmkhaaW.PrintMore Go.Proofs.Ytgjcffjicbmkhaa.PF Go.Proofs.Ytgjcffjicbmkhaa.ArS Go.Proofs.Ytgjcffjicbmkhaa.ArY
set_option linter.unusedVariables false
theorem within_ok (a : Int) (m : Nat) (h : 0 < m) (hm : m ≤ 1000000) : ∃ r : Nat, larderlaw2_within.f a m = some (r : Int) ∧ r < m := by
  have h1 : -(m : Int) < Int.tmod a m := Int.lt_tmod_of_pos a (by omega)
  have h2 : Int.tmod a m < m := Int.tmod_lt_of_pos a (by omega)
  generalize hx : Int.tmod a m = x at *
  have e : wrap64 (x + m) = x + m := ArW.w64_small _ (by omega) (by omega)
  have h3 : 0 ≤ Int.tmod (x + m) m := Int.tmod_nonneg _ (by omega)
  have h4 : Int.tmod (x + m) m < m := Int.tmod_lt_of_pos _ (by omega)
  refine ⟨(Int.tmod (x + m) m).toNat, ?_, by omega⟩
  unfold larderlaw2_within.f
  rw [if_neg (by omega), hx, e]
  congr 1
  omega
structure ShOk (x : S28) : Prop where
  k1 : 1 ≤ x.f0
  k2 : x.f0 ≤ 255
  r1 : 0 ≤ x.f1
  r2 : x.f1 ≤ 24
  s1 : 0 ≤ x.f2
  s2 : x.f2 ≤ 24
theorem fit_ok (a b c : Int) : ∃ x : S28, larderlaw2_fit.f a b c = some (x.f0, x.f1, x.f2) ∧ ShOk x := by
  obtain ⟨k, hk, hk2⟩ := within_ok a 255 (by decide) (by decide)
  obtain ⟨r, hr, hr2⟩ := within_ok b 24 (by decide) (by decide)
  obtain ⟨s, hs, hs2⟩ := within_ok c 24 (by decide) (by decide)
  refine ⟨⟨wrap64 (1 + k), r, s⟩, ?_, ?_⟩
  · unfold larderlaw2_fit.f
    have hk' : larderlaw2_within.f a 255 = some (k : Int) := hk
    have hr' : larderlaw2_within.f b 24 = some (r : Int) := hr
    have hs' : larderlaw2_within.f c 24 = some (s : Int) := hs
    rw [hk', hr', hs']
    rfl
  · have e : wrap64 (1 + (k : Int)) = 1 + k := ArW.w64_small _ (by omega) (by omega)
    exact ⟨by show 1 ≤ wrap64 (1 + (k : Int)); omega, by show wrap64 (1 + (k : Int)) ≤ 255; omega, by show (0 : Int) ≤ r; omega, by show (r : Int) ≤ 24; omega, by show (0 : Int) ≤ s; omega, by show (s : Int) ≤ 24; omega⟩
theorem take_loop (l0 : List S28) (hl : l0.length ≤ 100000000000000) : ∀ (n : Nat) (x3 : List S28) (i : Nat), 2000 - i ≤ n → i ≤ 2000 → x3.length = i → (∀ x ∈ x3, ShOk x) → ∃ r, larderlaw2_take.l0 (n + 1) l0 x3 i = some r ∧ r.length ≤ 2000 ∧ ∀ x ∈ r, ShOk x := by
  intro n
  induction n with
  | zero =>
    intro x3 i h1 h2 h3 h4
    obtain rfl : i = 2000 := by omega
    unfold larderlaw2_take.l0
    by_cases hc : ((2000 : Nat) : Int) < l0.length
    · rw [if_pos hc, if_neg (by omega)]
      exact ⟨x3, rfl, by omega, h4⟩
    · rw [if_neg hc]
      exact ⟨x3, rfl, by omega, h4⟩
  | succ n ih =>
    intro x3 i h1 h2 h3 h4
    unfold larderlaw2_take.l0
    by_cases hc : (i : Int) < l0.length
    · rw [if_pos hc]
      by_cases hd : (i : Int) < 2000
      · obtain ⟨y, hy, hok⟩ := fit_ok (rd_T28 l0 i).f0 (rd_T28 l0 i).f1 (rd_T28 l0 i).f2
        rw [if_pos hd, if_pos (by omega), hy]
        have e : wrap64 ((i : Int) + 1) = ((i + 1 : Nat) : Int) := by rw [ArW.w64_small _ (by omega) (by omega)]; omega
        simp only [Option.bind_some]
        rw [if_pos (by omega), e]
        refine ih (x3 ++ [y]) (i + 1) (by omega) (by omega) (by rw [List.length_append, List.length_singleton]; omega) ?_
        intro x hx
        rcases List.mem_append.1 hx with hx | hx
        · exact h4 x hx
        · rw [List.mem_singleton.1 hx]; exact hok
      · rw [if_neg hd]
        exact ⟨x3, rfl, by omega, h4⟩
    · rw [if_neg hc]
      exact ⟨x3, rfl, by omega, h4⟩
theorem take_ok (l0 : List S28) (hl : l0.length ≤ 100000000000000) : ∃ r, larderlaw2_take.f 2001 l0 = some r ∧ r.length ≤ 2000 ∧ ∀ x ∈ r, ShOk x :=
  take_loop l0 hl 2000 [] 0 (by omega) (by omega) rfl (fun x hx => by cases hx)
def obOf (x : S28) : Ob := newOb x.f0.toNat x.f1.toNat x.f2.toNat
def obsOf (l : List S28) : List Ob := l.map obOf
theorem obOf_len (x : S28) : (obOf x).fields.length = x.f1.toNat + x.f2.toNat := by simp [obOf, newOb]
theorem obsOf_snoc (l : List S28) (i : Nat) (x : S28) (h : l[i]? = some x) : obsOf (l.take (i + 1)) = obsOf (l.take i) ++ [obOf x] := by
  unfold obsOf
  rw [List.take_add_one, h, Option.toList_some, List.map_append]
  rfl
theorem used_snoc' (l : List S28) (i : Nat) (x : S28) (h : l[i]? = some x) : used (obsOf (l.take (i + 1))) = used (obsOf (l.take i)) + (1 + (x.f1.toNat + x.f2.toNat)) := by
  rw [obsOf_snoc l i x h, used_snoc, obOf_len]
theorem ws_bound (l : List S28) (h : ∀ x ∈ l, ShOk x) : ((obsOf l).flatMap Ob.ws).length ≤ 49 * l.length := by
  induction l with
  | nil => simp [obsOf]
  | cons x l ih =>
    have h1 := ih (fun y hy => h y (List.mem_cons_of_mem _ hy))
    have hx := h x (List.mem_cons_self ..)
    have h2 := hx.r2
    have h3 := hx.s2
    unfold obsOf at *
    rw [List.map_cons, List.flatMap_cons, List.length_append, ws_len, obOf_len, List.length_cons]
    omega
theorem used_bound (l : List S28) (h : ∀ x ∈ l, ShOk x) : used (obsOf l) ≤ 1 + 49 * l.length := by
  have := ws_bound l h
  have h2 : used (obsOf l) = 1 + ((obsOf l).flatMap Ob.ws).length := by simp [used, words]; omega
  omega
theorem used_mono (l : List S28) (i : Nat) : used (obsOf (l.take i)) ≤ used (obsOf l) := by
  have e : obsOf l = obsOf (l.take i) ++ obsOf (l.drop i) := by unfold obsOf; rw [← List.map_append, List.take_append_drop]
  rw [e, used_append]
  omega
theorem rd_get (l : List S28) (i : Nat) (h : i < l.length) : l[i]? = some (rd_T28 l i) := by
  unfold rd_T28
  rw [Int.toNat_natCast, List.getD_eq_getElem?_getD, List.getElem?_eq_getElem h]
  rfl
theorem sh_nat {x : S28} (h : ShOk x) : ∃ k r s : Nat, x = ⟨k, r, s⟩ ∧ 1 ≤ k ∧ k ≤ 255 ∧ r ≤ 24 ∧ s ≤ 24 := by
  obtain ⟨h1, h2, h3, h4, h5, h6⟩ := h
  obtain ⟨a, b, c⟩ := x
  obtain ⟨k, rfl⟩ := Int.eq_ofNat_of_zero_le (show 0 ≤ a by simp only at *; omega)
  obtain ⟨r, rfl⟩ := Int.eq_ofNat_of_zero_le (show 0 ≤ b by simp only at *; omega)
  obtain ⟨s, rfl⟩ := Int.eq_ofNat_of_zero_le (show 0 ≤ c by simp only at *; omega)
  exact ⟨k, r, s, rfl, by simp only at *; omega, by simp only at *; omega, by simp only at *; omega, by simp only at *; omega⟩
end Go.Proofs.Ytgjcffjicbmkhaa.TakS
end

section
namespace Go.Proofs.Ytgjcffjicbmkhaa.ArV
open Go Go.RowKit Go.Proofs.YtgjcffjicbmkhaaW.PrintWords Go.Proofs.YtgjcffjicbmkhaaW.PrintLast Go.Proofs.YtgjcffjicbmkhaaW.PrintMore Go.Proofs.Ytgjcffjicbmkhaa.PF Go.Proofs.Ytgjcffjicbmkhaa.RowU Go.Proofs.Ytgjcffjicbmkhaa.ArS Go.Proofs.Ytgjcffjicbmkhaa.ArM Go.Proofs.Ytgjcffjicbmkhaa.ArW Go.Proofs.Ytgjcffjicbmkhaa.ArX Go.Proofs.Ytgjcffjicbmkhaa.ArY Go.Proofs.Ytgjcffjicbmkhaa.ArZ Go.Proofs.Ytgjcffjicbmkhaa.GenM Go.Proofs.Ytgjcffjicbmkhaa.TakS
set_option linter.unusedVariables false
theorem within_calls (a : Int) (m : Nat) (h : 0 < m) (hm : m ≤ 1000000) : ∃ r : Nat, r < m ∧ larderlaw2_within.f a m = some (r : Int) ∧ ∀ w : World, Calls Try.prog 12 #[.int .i64 a, .int .i64 (m : Int)] w fun e w' => e = .returned (.int .i64 (r : Int)) ∧ Below w.heap.size w w' := by
  obtain ⟨r, h1, h2⟩ := within_ok a m h hm
  exact ⟨r, h2, h1, fun w => (larderlaw2_within.calls a m r w h1).mono fun e w' ⟨he, hd⟩ => ⟨he, hd.below⟩⟩
theorem set_yes {W : World} {g gw gf sz : Nat} {l : List Ob} (hA : ArAt W g gw gf sz l) {k : Nat} {o : Ob} (h : l[k]? = some o) (hg : o.gone = none) (i v : Nat) (hi : i < o.fields.length) (hv : v < 18446744073709551616) (p : Nat) (hp : p = place l k) :
    Calls Try.prog 13 #[.pointer (some ⟨g, 0, none⟩), .int .i64 (p : Int), .int .i64 (i : Int), .int .u64 (v : Int)] W fun e' w' => e' = .returned (.int .i64 0) ∧ ArAt w' g gw gf sz (l.set k (Ob.put o i v)) ∧ Upd (fun b => b = gw) W w' := by
  subst hp
  obtain ⟨cw, cf, fs, hA⟩ := hA
  exact (set.yes hA h hg i v hi hv).mono fun e w' ⟨he, h1, h2⟩ => ⟨he, ⟨cw, cf, fs, h1⟩, h2⟩
theorem set_far {W : World} {g gw gf sz : Nat} {l : List Ob} (hA : ArAt W g gw gf sz l) {k : Nat} {o : Ob} (h : l[k]? = some o) (hg : o.gone = none) (i v : Int) (hi : i < 0 ∨ o.fields.length ≤ i) (p : Nat) (hp : p = place l k) :
    Calls Try.prog 13 #[.pointer (some ⟨g, 0, none⟩), .int .i64 (p : Int), .int .i64 i, .int .u64 v] W fun e' w' => e' = .returned (.int .i64 24) ∧ Below W.heap.size W w' := by
  subst hp
  obtain ⟨cw, cf, fs, hA⟩ := hA
  exact set.far hA h hg i v hi
theorem get_yes {W : World} {g gw gf sz : Nat} {l : List Ob} (hA : ArAt W g gw gf sz l) {k : Nat} {o : Ob} (h : l[k]? = some o) (hg : o.gone = none) (i : Nat) (x : Nat) (hi : o.fields[i]? = some x) (p : Nat) (hp : p = place l k) :
    Calls Try.prog 16 #[.pointer (some ⟨g, 0, none⟩), .int .i64 (p : Int), .int .i64 (i : Int)] W fun e' w' => e' = .returned (.tuple #[.int .u64 (x : Int), .int .i64 0]) ∧ Below W.heap.size W w' := by
  subst hp
  obtain ⟨cw, cf, fs, hA⟩ := hA
  exact get.yes hA h hg i x hi
theorem object_yes {W : World} {g gw gf sz : Nat} {l : List Ob} (hA : ArAt W g gw gf sz l) {k : Nat} {o : Ob} (h : l[k]? = some o) (hg : o.gone = none) (p : Nat) (hp : p = place l k) (a b c : Nat) (h1 : o.kind = a) (h2 : o.refs = b) (h3 : o.fields.length = b + c) :
    Calls Try.prog 15 #[.pointer (some ⟨g, 0, none⟩), .int .i64 (p : Int)] W fun e w' => e = .returned (.tuple #[.int .i64 (a : Int), .int .i64 (b : Int), .int .i64 (c : Int), .int .i64 0]) ∧ Below W.heap.size W w' := by
  subst hp
  obtain ⟨cw, cf, fs, hA⟩ := hA
  have hr : o.raws = c := by unfold Ob.raws; omega
  have := object.yes hA h hg
  rw [h1, h2, hr] at this
  exact this
theorem object_bad {W : World} {g gw gf sz : Nat} {l : List Ob} (hA : ArAt W g gw gf sz l) {p e : Int} (h : Bad l p e) :
    Calls Try.prog 15 #[.pointer (some ⟨g, 0, none⟩), .int .i64 p] W fun e' w' => e' = .returned (.tuple #[.int .i64 0, .int .i64 0, .int .i64 0, .int .i64 e]) ∧ Below W.heap.size W w' := by
  obtain ⟨cw, cf, fs, hA⟩ := hA
  exact object.bad hA h
theorem _root_.Go.Proofs.Ytgjcffjicbmkhaa.GenM.GV.cell {T : TypeId} {W : World} {g n c : Nat} {l : List Value} (h : GV T W (.slice (some ⟨g, 0, none⟩) n c) l) (j : Nat) (x : Value) (hx : l[j]? = some x) : W.cell? ⟨g, j, none⟩ = some x := by
  obtain ⟨g', c', h1, h2⟩ := h.get j x hx
  simp at h1
  rw [h1.1]; exact h2
theorem _root_.Go.Proofs.Ytgjcffjicbmkhaa.GenM.GV.form {T : TypeId} {W : World} {v : Value} {l : List Value} (h : GV T W v l) (hl : 0 < l.length) : ∃ g c, v = .slice (some ⟨g, 0, none⟩) l.length c ∧ l.length ≤ c := by
  rcases h with ⟨_, rfl⟩ | ⟨g, c, rfl, h⟩
  · simp at hl
  · obtain ⟨cur, h1, h2, h3, h4⟩ := h
    exact ⟨g, c, rfl, h3⟩
theorem placesV_get (l : List S28) (n j : Nat) (hj : j < n) : ((List.range n).map fun k => Value.int .i64 (place (obsOf l) k : Int))[j]? = some (.int .i64 (place (obsOf l) j : Int)) := by
  rw [List.getElem?_map, List.getElem?_range hj]; rfl
end Go.Proofs.Ytgjcffjicbmkhaa.ArV
end

section
namespace Go.Proofs.Ytgjcffjicbmkhaa.NumB
open Go Go.RowKit
theorem sum_i (a b : Int) (c : Nat) (h : a + b = c) (hc : c < 4611686018427387904) : wrap64 (a + b) = (c : Int) ∧ IntKind.i64.wrap (a + b) = (c : Int) := by
  rw [h]
  exact ⟨by unfold wrap64; omega, by rw [IntKind.wrap_i64]; omega⟩
theorem dif_i (a b : Int) (c : Nat) (h : a - b = c) (hc : c < 4611686018427387904) : wrap64 (a - b) = (c : Int) ∧ IntKind.i64.wrap (a - b) = (c : Int) := by
  rw [h]
  exact ⟨by unfold wrap64; omega, by rw [IntKind.wrap_i64]; omega⟩
theorem mul_i (a b : Int) (c : Nat) (h : a * b = c) (hc : c < 4611686018427387904) : wrap64 (a * b) = (c : Int) ∧ IntKind.i64.wrap (a * b) = (c : Int) := by
  rw [h]
  exact ⟨by unfold wrap64; omega, by rw [IntKind.wrap_i64]; omega⟩
end Go.Proofs.Ytgjcffjicbmkhaa.NumB
end

section
namespace Go.Proofs.Ytgjcffjicbmkhaa.ArB
open Go Go.RowKit Go.Proofs.YtgjcffjicbmkhaaW.PrintWords Go.Proofs.YtgjcffjicbmkhaaW.PrintLast Go.Proofs.YtgjcffjicbmkhaaW.PrintMore Go.Proofs.Ytgjcffjicbmkhaa.RowU Go.Proofs.Ytgjcffjicbmkhaa.ArS Go.Proofs.Ytgjcffjicbmkhaa.ArM Go.Proofs.Ytgjcffjicbmkhaa.ArW Go.Proofs.Ytgjcffjicbmkhaa.ArX Go.Proofs.Ytgjcffjicbmkhaa.ArY Go.Proofs.Ytgjcffjicbmkhaa.ArZ Go.Proofs.Ytgjcffjicbmkhaa.GenM Go.Proofs.Ytgjcffjicbmkhaa.ArV
set_option linter.unusedVariables false
set_option maxRecDepth 100000
set_option maxHeartbeats 1600000 in
theorem span.bad {W : World} {g gw gf sz : Nat} {l : List Ob} (hA : ArAt W g gw gf sz l) {p e : Int} (h : Bad l p e) (from_ n : Int) :
    Calls Try.prog 43 #[.pointer (some ⟨g, 0, none⟩), .int .i64 p, .int .i64 from_, .int .i64 n] W fun e' w' => e' = .returned (.tuple #[.slice none 0 0, .int .i64 e]) ∧ Below W.heap.size W w' := by
  obtain ⟨cw, cf, fs, hA⟩ := hA
  have HB := Aside0.mk (fields.bad hA h)
  have he := h.ne
  clear hA h
  go_enter Try.func43, Try.ntmps43
  go_wp2_with fail
  refine HB.out.mono ?_
  rintro e' w2 ⟨rfl, hb⟩
  have H2 := Aside0.mk hb
  clear hb HB
  go_wp2_with fail
  go_ret2
  exact ⟨rfl, H2.out⟩
theorem raws_lt {l : List Ob} {W : World} {g gw gf sz : Nat} (hA : ArAt W g gw gf sz l) {k : Nat} {o : Ob} (h : l[k]? = some o) : o.ok ∧ o.fields.length = o.refs + o.raws ∧ o.raws ≤ 1048576 ∧ o.refs ≤ 1048576 := by
  obtain ⟨cw, cf, fs, hA⟩ := hA
  have hok := hA.ok o (List.mem_of_getElem? h)
  exact ⟨hok, Ob.len hok, hok.s1, hok.r1⟩
def InSpan (s : Nat) (from_ n : Int) : Prop := 0 ≤ from_ ∧ 0 ≤ n ∧ from_ + n ≤ 8 * s
theorem fields_span {W : World} {g gw gf sz : Nat} {l : List Ob} (hA : ArAt W g gw gf sz l) {k : Nat} {o : Ob} (h : l[k]? = some o) (hg : o.gone = none) (p : Nat) (hp : p = place l k) (r s : Nat) (h1 : o.refs = r) (h2 : o.fields.length = r + s) :
    Calls Try.prog 37 #[.pointer (some ⟨g, 0, none⟩), .int .i64 (p : Int)] W fun e w' => (∃ A, (0 < r + s → A = ⟨gw, p + 1, none⟩) ∧ e = .returned (.tuple #[.slice (some A) (r + s) (r + s), .int .i64 (r : Int), .int .i64 0])) ∧ Below W.heap.size W w' := by
  subst hp
  obtain ⟨cw, cf, fs, hA⟩ := hA
  have := fields.yes hA h hg
  rw [h1, h2] at this
  exact this
set_option maxHeartbeats 1600000 in
theorem span.no {W : World} {g gw gf sz : Nat} {l : List Ob} (hA : ArAt W g gw gf sz l) {k : Nat} {o : Ob} (h : l[k]? = some o) (hg : o.gone = none) (p : Nat) (hp : p = place l k) (r s : Nat) (h1 : o.refs = r) (h2 : o.fields.length = r + s) (from_ n : Int) (hn : ¬ InSpan s from_ n) :
    Calls Try.prog 43 #[.pointer (some ⟨g, 0, none⟩), .int .i64 (p : Int), .int .i64 from_, .int .i64 n] W fun e' w' => e' = .returned (.tuple #[.slice none 0 0, .int .i64 25]) ∧ Below W.heap.size W w' := by
  have HB := Aside0.mk (fields_span hA h hg p hp r s h1 h2)
  obtain ⟨_, hl, hs, hr⟩ := raws_lt hA h
  have hs : s ≤ 1048576 := by omega
  have hr : r ≤ 1048576 := by omega
  clear hA h hg hp h1 h2 hl
  obtain ⟨m, hm⟩ : ∃ m, m = r + s := ⟨_, rfl⟩
  have hrm : r ≤ m := by omega
  have hms : m - r = s := by omega
  rw [← hm] at HB
  clear hm
  by_cases c1 : from_ < 0
  · have d1 : decide (from_ < 0) = true := decide_eq_true c1
    clear hn
    go_enter Try.func43, Try.ntmps43
    go_wp2_with fail
    refine HB.out.mono ?_
    rintro e' w2 ⟨⟨A, hA, rfl⟩, hb⟩
    have H2 := Aside0.mk hb
    clear hb HB hA
    go_wp2_with fail
    all_goals (go_ret2; exact ⟨rfl, H2.out⟩)
  · have d1 : decide (from_ < 0) = false := decide_eq_false c1
    by_cases c2 : n < 0
    · have d2 : decide (n < 0) = true := decide_eq_true c2
      clear hn
      go_enter Try.func43, Try.ntmps43
      go_wp2_with fail
      refine HB.out.mono ?_
      rintro e' w2 ⟨⟨A, hA, rfl⟩, hb⟩
      have H2 := Aside0.mk hb
      clear hb HB hA
      go_wp2_with fail
      all_goals (go_ret2; exact ⟨rfl, H2.out⟩)
    · have d2 : decide (n < 0) = false := decide_eq_false c2
      have hn' : 8 * (s : Int) < from_ + n := by unfold InSpan at hn; omega
      clear hn
      obtain ⟨z, hz⟩ : ∃ z : Nat, z = 8 * s := ⟨_, rfl⟩
      by_cases c3 : (z : Int) < from_
      · have d3 : decide ((z : Int) < from_) = true := decide_eq_true c3
        have HE := Aside0.mk (NumB.mul_i 8 (s : Int) z (by omega) (by omega))
        clear hn' hz
        obtain ⟨e1, f1⟩ := HE.out
        go_enter Try.func43, Try.ntmps43
        go_wp2_with fail
        refine HB.out.mono ?_
        rintro e' w2 ⟨⟨A, hA, rfl⟩, hb⟩
        have H2 := Aside0.mk hb
        clear hb HB hA
        go_wp2_with fail
        all_goals (go_ret2; exact ⟨rfl, H2.out⟩)
      · have d3 : decide ((z : Int) < from_) = false := decide_eq_false c3
        obtain ⟨y, hy⟩ : ∃ y : Nat, (y : Int) = z - from_ := ⟨((z : Int) - from_).toNat, by omega⟩
        have d4 : decide ((y : Int) < n) = true := decide_eq_true (by omega)
        have HE := Aside0.mk (And.intro (NumB.mul_i 8 (s : Int) z (by omega) (by omega)) (NumB.dif_i (z : Int) from_ y (by omega) (by omega)))
        clear hn' hz hy
        obtain ⟨⟨e1, f1⟩, e2, f2⟩ := HE.out
        go_enter Try.func43, Try.ntmps43
        go_wp2_with fail
        refine HB.out.mono ?_
        rintro e' w2 ⟨⟨A, hA, rfl⟩, hb⟩
        have H2 := Aside0.mk hb
        clear hb HB hA
        go_wp2_with fail
        all_goals (go_ret2; exact ⟨rfl, H2.out⟩)
set_option maxHeartbeats 1600000 in
theorem span.yes {W : World} {g gw gf sz : Nat} {l : List Ob} (hA : ArAt W g gw gf sz l) {k : Nat} {o : Ob} (h : l[k]? = some o) (hg : o.gone = none) (p : Nat) (hp : p = place l k) (r s : Nat) (h1 : o.refs = r) (h2 : o.fields.length = r + s) (from_ n : Nat) (hn : from_ + n ≤ 8 * s) :
    Calls Try.prog 43 #[.pointer (some ⟨g, 0, none⟩), .int .i64 (p : Int), .int .i64 (from_ : Int), .int .i64 (n : Int)] W fun e' w' => (∃ A, (0 < s → A = ⟨gw, p + 1 + r, none⟩) ∧ e' = .returned (.tuple #[.slice (some A) s s, .int .i64 0])) ∧ Below W.heap.size W w' := by
  have HB := Aside0.mk (fields_span hA h hg p hp r s h1 h2)
  obtain ⟨_, hl, hs, hr⟩ := raws_lt hA h
  have hs : s ≤ 1048576 := by omega
  have hr : r ≤ 1048576 := by omega
  clear hA h hg hp h1 h2 hl
  obtain ⟨m, hm⟩ : ∃ m, m = r + s := ⟨_, rfl⟩
  have hrm : r ≤ m := by omega
  have hms : m - r = s := by omega
  have HM : Aside0 (0 < s → 0 < r + s ∧ ¬ m = r) := ⟨fun _ => ⟨by omega, by omega⟩⟩
  have HM0 : Aside0 (s = 0 → m = r) := ⟨fun _ => by omega⟩
  rw [← hm] at HB
  have HMM := Aside0.mk hm
  clear hm
  obtain ⟨z, hz⟩ : ∃ z : Nat, z = 8 * s := ⟨_, rfl⟩
  obtain ⟨y, hy⟩ : ∃ y : Nat, (y : Int) = (z : Int) - from_ := ⟨z - from_, by omega⟩
  have d1 : decide ((from_ : Int) < 0) = false := decide_eq_false (by omega)
  have d2 : decide ((n : Int) < 0) = false := decide_eq_false (by omega)
  have d3 : decide ((z : Int) < (from_ : Int)) = false := decide_eq_false (by omega)
  have d4 : decide ((y : Int) < (n : Int)) = false := decide_eq_false (by omega)
  have d3' : decide (z < from_) = false := decide_eq_false (by omega)
  have d4' : decide (y < n) = false := decide_eq_false (by omega)
  have HE := Aside0.mk (And.intro (NumB.mul_i 8 (s : Int) z (by omega) (by omega)) (NumB.dif_i (z : Int) (from_ : Int) y (by omega) (by omega)))
  clear hn hz hy
  obtain ⟨⟨e1, f1⟩, e2, f2⟩ := HE.out
  go_enter Try.func43, Try.ntmps43
  go_wp2_with fail
  refine HB.out.mono ?_
  rintro e' w2 ⟨⟨A, hA, rfl⟩, hb⟩
  have H2 := Aside0.mk hb
  have HAd := Aside0.mk hA
  clear hb HB hA
  go_wp2_with fail
  all_goals
    go_ret2
    refine ⟨⟨_, fun h0 => ?_, rfl⟩, H2.out⟩
    first
      | exact absurd ‹m = r› (HM.out h0).2
      | (have e := HAd.out (by rw [HMM.out]; exact (HM.out h0).1); rw [e]; exact Addr.add_lit _ _ _)
def Ob.byte (o : Ob) (j : Nat) : Nat := NumB.byteAt (o.fields.getD (o.refs + j / 8) 0) (8 * (j % 8))
def Ob.putB (o : Ob) (j c : Nat) : Ob := Ob.put o (o.refs + j / 8) (NumB.putAt (o.fields.getD (o.refs + j / 8) 0) (8 * (j % 8)) c)
def putBs (o : Ob) (from_ : Nat) : List Nat → Ob
  | [] => o
  | c :: l => putBs (Ob.putB o from_ c) (from_ + 1) l
theorem putBs_snoc (l : List Nat) : ∀ (o : Ob) (from_ c : Nat), putBs o from_ (l ++ [c]) = Ob.putB (putBs o from_ l) (from_ + l.length) c := by
  induction l with
  | nil => intro o from_ c; rfl
  | cons x l ih =>
    intro o from_ c
    show putBs (Ob.putB o from_ x) (from_ + 1) (l ++ [c]) = _
    rw [ih]
    simp only [putBs, List.length_cons]
    rw [show from_ + 1 + l.length = from_ + (l.length + 1) by omega]
theorem putB_same (o : Ob) (j c : Nat) : (Ob.putB o j c).kind = o.kind ∧ (Ob.putB o j c).refs = o.refs ∧ (Ob.putB o j c).fields.length = o.fields.length ∧ (Ob.putB o j c).gone = o.gone := ⟨rfl, rfl, Ob.put_len _ _ _, rfl⟩
theorem putBs_same (l : List Nat) : ∀ (o : Ob) (from_ : Nat), (putBs o from_ l).kind = o.kind ∧ (putBs o from_ l).refs = o.refs ∧ (putBs o from_ l).fields.length = o.fields.length ∧ (putBs o from_ l).gone = o.gone := by
  induction l with
  | nil => intro o from_; exact ⟨rfl, rfl, rfl, rfl⟩
  | cons c l ih =>
    intro o from_
    obtain ⟨h1, h2, h3, h4⟩ := ih (Ob.putB o from_ c) (from_ + 1)
    obtain ⟨k1, k2, k3, k4⟩ := putB_same o from_ c
    exact ⟨h1.trans k1, h2.trans k2, h3.trans k3, h4.trans k4⟩
theorem getD_lt {o : Ob} (h : o.ok) (i : Nat) : o.fields.getD i 0 < 18446744073709551616 := by
  rw [List.getD_eq_getElem?_getD]
  cases hx : o.fields[i]? with
  | none => decide
  | some x => exact h.f1 x (List.mem_of_getElem? hx)
theorem putB_ok {o : Ob} (h : o.ok) (j c : Nat) (hc : c < 256) : (Ob.putB o j c).ok := Ob.put_ok h _ _ (NumB.put_lt _ _ _ (by omega) (getD_lt h _) hc)
theorem putBs_ok (l : List Nat) (hl : ∀ c ∈ l, c < 256) : ∀ {o : Ob} (from_ : Nat), o.ok → (putBs o from_ l).ok := by
  induction l with
  | nil => intro o from_ h; exact h
  | cons c l ih =>
    intro o from_ h
    exact ih (fun x hx => hl x (List.mem_cons_of_mem _ hx)) (from_ + 1) (putB_ok h from_ c (hl c (List.mem_cons_self ..)))
theorem byte_putB {o : Ob} (h : o.ok) (j c i : Nat) (hj : o.refs + j / 8 < o.fields.length) (hc : c < 256) : Ob.byte (Ob.putB o j c) i = if i = j then c else Ob.byte o i := by
  unfold Ob.byte Ob.putB
  have hr : (Ob.put o (o.refs + j / 8) (NumB.putAt (o.fields.getD (o.refs + j / 8) 0) (8 * (j % 8)) c)).refs = o.refs := rfl
  rw [hr]
  have hf : (Ob.put o (o.refs + j / 8) (NumB.putAt (o.fields.getD (o.refs + j / 8) 0) (8 * (j % 8)) c)).fields = o.fields.set (o.refs + j / 8) (NumB.putAt (o.fields.getD (o.refs + j / 8) 0) (8 * (j % 8)) c) := rfl
  rw [hf]
  by_cases hw : i / 8 = j / 8
  · rw [hw]
    have e1 : (o.fields.set (o.refs + j / 8) (NumB.putAt (o.fields.getD (o.refs + j / 8) 0) (8 * (j % 8)) c)).getD (o.refs + j / 8) 0 = NumB.putAt (o.fields.getD (o.refs + j / 8) 0) (8 * (j % 8)) c := by
      rw [List.getD_eq_getElem?_getD, List.getElem?_set_self hj]; rfl
    rw [e1]
    by_cases hij : i = j
    · subst hij
      rw [if_pos rfl, NumB.byte_put_same _ _ _ (by omega) (getD_lt h _) hc]
    · rw [if_neg hij, NumB.byte_put_other _ _ _ _ (by omega) (getD_lt h _) hc (by omega)]
  · have e1 : (o.fields.set (o.refs + j / 8) (NumB.putAt (o.fields.getD (o.refs + j / 8) 0) (8 * (j % 8)) c)).getD (o.refs + i / 8) 0 = o.fields.getD (o.refs + i / 8) 0 := by
      simp only [List.getD_eq_getElem?_getD]
      rw [List.getElem?_set_ne (by omega)]
    rw [e1, if_neg (fun h => hw (by rw [h]))]
theorem _root_.Go.Proofs.Ytgjcffjicbmkhaa.GenM.GenAt.set {T : TypeId} {W : World} {g cap : Nat} {l : List Value} (h : GenAt T W g cap l) (j : Nat) (hj : j < l.length) (y : Value) : GenAt T (W.setCell ⟨g, j, none⟩ y) g cap (l.set j y) := by
  obtain ⟨cur, h1, h2, h3, h5, h4⟩ := h
  refine ⟨cur.set j y, ?_, by simpa using h2, by simpa using h3, h5, ?_⟩
  · have := blk_set h1 j y
    rw [List.setIfInBounds_toArray] at this
    exact this
  · rw [List.length_set, List.take_set, h4]
theorem _root_.Go.Proofs.Ytgjcffjicbmkhaa.GenM.GenAt.frozen {T : TypeId} {W : World} {g cap : Nat} {l : List Value} (h : GenAt T W g cap l) (j : Nat) : W.frozen? ⟨g, j, none⟩ = false := by
  obtain ⟨cur, h1, h2⟩ := h
  exact blk_frozen h1 j
def bytesV (f : Nat → Nat) (i n : Nat) : List Value := (List.range n).map fun j => .int .u8 ((if j < i then f j else 0 : Nat) : Int)
theorem bytesV_len (f : Nat → Nat) (i n : Nat) : (bytesV f i n).length = n := by simp [bytesV]
theorem bytesV_get (f : Nat → Nat) (i n j : Nat) (hj : j < n) : (bytesV f i n)[j]? = some (.int .u8 ((if j < i then f j else 0 : Nat) : Int)) := by
  unfold bytesV
  rw [List.getElem?_map, List.getElem?_range hj]; rfl
theorem bytesV_zero (f : Nat → Nat) (n : Nat) : bytesV f 0 n = List.replicate n (.int .u8 0) := by
  apply List.ext_getElem?
  intro j
  by_cases hj : j < n
  · rw [bytesV_get f 0 n j hj, List.getElem?_replicate, if_pos hj]; rfl
  · rw [List.getElem?_eq_none (by rw [bytesV_len]; omega), List.getElem?_eq_none (by simp; omega)]
theorem bytesV_set (f : Nat → Nat) (i n : Nat) (hi : i < n) : (bytesV f i n).set i (.int .u8 (f i : Int)) = bytesV f (i + 1) n := by
  apply List.ext_getElem?
  intro j
  by_cases hj : j < n
  · rw [bytesV_get f (i + 1) n j hj]
    by_cases hij : i = j
    · subst hij
      rw [List.getElem?_set_self (by rw [bytesV_len]; exact hi), if_pos (by omega)]
    · rw [List.getElem?_set_ne hij, bytesV_get f i n j hj]
      by_cases h : j < i
      · rw [if_pos h, if_pos (by omega)]
      · rw [if_neg h, if_neg (by omega)]
  · rw [List.getElem?_eq_none (by rw [List.length_set, bytesV_len]; omega), List.getElem?_eq_none (by rw [bytesV_len]; omega)]
theorem infoB : ∃ i, Try.prog.info? 5 = some i ∧ i.zero = some (.int .u8 0) ∧ i.size = 1 ∧ i.bytes = 1 := by
  have h : (Try.prog.info? 5).map (fun i => (i.zero, i.size, i.bytes)) = some (some (.int .u8 0), 1, 1) := by kernel_rfl
  obtain ⟨i, hi, hz⟩ := Option.map_eq_some_iff.1 h
  simp only [Prod.mk.injEq] at hz
  exact ⟨i, hi, hz.1, hz.2.1, hz.2.2⟩
theorem make_u8 (n : Nat) (hn : n ≤ 10000000000000) (u : World) : (Instr.makeSlice 67 (.int .i64 (n : Int)) (.int .i64 (n : Int))).run Try.prog u =
    .ok (.slice (some ⟨u.heap.size, 0, none⟩) n n) (u.alloc (.cells (madeCells #[.int .u8 0] n) 5)) := by
  obtain ⟨i0, hi, hz0, hz1, hz2⟩ := infoB
  have h := run_make (P := Try.prog) u 67 5 i0 (.int .u8 0) Try.underlying67 hi hz0 .i64 .i64 (n : Int) (n : Int) (by omega) (Int.le_refl _) (by rw [hz2]; omega) (by omega)
  simpa [hz1, Value.cells] using h
theorem bytes_made (w : World) (n : Nat) (hn : n ≤ maxLen) (f : Nat → Nat) : GenAt 5 (w.alloc (.cells (madeCells #[.int .u8 0] n) 5)) w.heap.size n (bytesV f 0 n) := by
  rw [bytesV_zero]
  refine ⟨List.replicate n (.int .u8 0), ?_, by simp, by simp, hn, by simp⟩
  have := blk_new w (.cells (madeCells #[.int .u8 0] n) 5)
  rw [this]
  congr 2
  apply Array.toList_inj.1
  rw [toList_madeCells_one]
theorem num8 (u : Nat) (h : u ≤ 100000000) : ∃ d r s : Nat, d = u / 8 ∧ r = u % 8 ∧ s = 8 * r ∧ wrap64 ((u : Int) / 8) = (d : Int) ∧ wrap64 ((u : Int) % 8) = (r : Int) ∧ IntKind.i64.wrap ((u : Int) / 8) = (d : Int) ∧ IntKind.i64.wrap ((u : Int) % 8) = (r : Int) ∧ wrap64 ((r : Int) * 8) = (s : Int) ∧ IntKind.i64.wrap ((r : Int) * 8) = (s : Int) ∧ (u : Int).tmod 8 = (r : Int) ∧ (u : Int).tdiv 8 = (d : Int) ∧ wrap64 (d : Int) = (d : Int) ∧ wrap64 (r : Int) = (r : Int) ∧ IntKind.i64.wrap (d : Int) = (d : Int) ∧ IntKind.i64.wrap (r : Int) = (r : Int) := by
  have w1 : ∀ x : Int, 0 ≤ x → x < 9223372036854775808 → IntKind.i64.wrap x = x := fun x _ _ => by rw [IntKind.wrap_i64]; omega
  refine ⟨u / 8, u % 8, 8 * (u % 8), rfl, rfl, rfl, ?_, ?_, ?_, ?_, ?_, ?_, ?_, ?_, ?_, ?_, ?_, ?_⟩
  · rw [w64_small _ (by omega) (by omega)]; omega
  · rw [w64_small _ (by omega) (by omega)]; omega
  · rw [w1 _ (by omega) (by omega)]; omega
  · rw [w1 _ (by omega) (by omega)]; omega
  · rw [w64_small _ (by omega) (by omega)]; omega
  · rw [w1 _ (by omega) (by omega)]; omega
  · rw [Int.tmod_eq_emod_of_nonneg (by omega)]; omega
  · rw [Int.tdiv_eq_ediv_of_nonneg (by omega)]; omega
  · exact w64_small _ (by omega) (by omega)
  · exact w64_small _ (by omega) (by omega)
  · exact w1 _ (by omega) (by omega)
  · exact w1 _ (by omega) (by omega)
theorem byte_of (x s : Nat) : IntKind.u8.wrap ((x : Int) / 2 ^ s) = ((NumB.byteAt x s : Nat) : Int) := by
  have e1 : (x : Int) / 2 ^ s = ((x / 2 ^ s : Nat) : Int) := by rw [Int.natCast_ediv, Int.natCast_pow]; rfl
  rw [e1, IntKind.wrap_u8]
  unfold NumB.byteAt
  omega
end Go.Proofs.Ytgjcffjicbmkhaa.ArB
end

section
namespace Go.Proofs.Ytgjcffjicbmkhaa.ArC
open Go Go.RowKit Go.Proofs.YtgjcffjicbmkhaaW.PrintWords Go.Proofs.YtgjcffjicbmkhaaW.PrintLast Go.Proofs.YtgjcffjicbmkhaaW.PrintMore Go.Proofs.Ytgjcffjicbmkhaa.RowU Go.Proofs.Ytgjcffjicbmkhaa.ArS Go.Proofs.Ytgjcffjicbmkhaa.ArM Go.Proofs.Ytgjcffjicbmkhaa.ArW Go.Proofs.Ytgjcffjicbmkhaa.ArX Go.Proofs.Ytgjcffjicbmkhaa.ArY Go.Proofs.Ytgjcffjicbmkhaa.ArZ Go.Proofs.Ytgjcffjicbmkhaa.GenM Go.Proofs.Ytgjcffjicbmkhaa.ArV Go.Proofs.Ytgjcffjicbmkhaa.ArB
set_option linter.unusedVariables false
set_option maxRecDepth 100000
theorem addr_block (a : Addr) (i : Nat) : (a.add i).block = a.block := by unfold Addr.add; split <;> rfl
theorem byte_min (x s : Nat) (h : s ≤ 56) : (x : Int) / 2 ^ min s 64 % 256 = ((NumB.byteAt x s : Nat) : Int) := by
  have e1 : (x : Int) / 2 ^ s = ((x / 2 ^ s : Nat) : Int) := by rw [Int.natCast_ediv, Int.natCast_pow]; rfl
  rw [Nat.min_eq_left (by omega), e1]
  unfold NumB.byteAt
  omega
set_option maxHeartbeats 1600000 in
theorem bytes.bad {W : World} {g gw gf sz : Nat} {l : List Ob} (hA : ArAt W g gw gf sz l) {p e : Int} (h : Bad l p e) (from_ n : Int) :
    Calls Try.prog 44 #[.pointer (some ⟨g, 0, none⟩), .int .i64 p, .int .i64 from_, .int .i64 n] W fun e' w' => e' = .returned (.tuple #[.slice none 0 0, .int .i64 e]) ∧ Below W.heap.size W w' := by
  have HB := Aside0.mk (span.bad hA h from_ n)
  have he := h.ne
  clear hA h
  go_enter Try.func44, Try.ntmps44
  go_wp2_with fail
  refine HB.out.mono ?_
  rintro e' w2 ⟨rfl, hb⟩
  have H2 := Aside0.mk hb
  clear hb HB
  go_wp2_with fail
  go_ret2
  exact ⟨rfl, H2.out⟩
set_option maxHeartbeats 1600000 in
theorem bytes.no {W : World} {g gw gf sz : Nat} {l : List Ob} (hA : ArAt W g gw gf sz l) {k : Nat} {o : Ob} (h : l[k]? = some o) (hg : o.gone = none) (p : Nat) (hp : p = place l k) (r s : Nat) (h1 : o.refs = r) (h2 : o.fields.length = r + s) (from_ n : Int) (hn : ¬ InSpan s from_ n) :
    Calls Try.prog 44 #[.pointer (some ⟨g, 0, none⟩), .int .i64 (p : Int), .int .i64 from_, .int .i64 n] W fun e' w' => e' = .returned (.tuple #[.slice none 0 0, .int .i64 25]) ∧ Below W.heap.size W w' := by
  have HB := Aside0.mk (span.no hA h hg p hp r s h1 h2 from_ n hn)
  clear hA h hg hp h1 h2 hn
  go_enter Try.func44, Try.ntmps44
  go_wp2_with fail
  refine HB.out.mono ?_
  rintro e' w2 ⟨rfl, hb⟩
  have H2 := Aside0.mk hb
  clear hb HB
  go_wp2_with fail
  go_ret2
  exact ⟨rfl, H2.out⟩
theorem word_cell {W : World} {g gw gf sz : Nat} {l : List Ob} (hA : ArAt W g gw gf sz l) {k : Nat} {o : Ob} (h : l[k]? = some o) (i : Nat) (hi : i < o.fields.length) : W.cell? ⟨gw, place l k + 1 + i, none⟩ = some (.int .u64 (o.fields.getD i 0 : Int)) := by
  obtain ⟨cw, cf, fs, hA⟩ := hA
  have hx : o.fields[i]? = some (o.fields.getD i 0) := by rw [List.getD_eq_getElem?_getD, List.getElem?_eq_getElem hi]; rfl
  exact hA.ws.get _ _ ((words_field h i hi).trans hx)
theorem word_frozen {W : World} {g gw gf sz : Nat} {l : List Ob} (hA : ArAt W g gw gf sz l) (j : Nat) : W.frozen? ⟨gw, j, none⟩ = false := by
  obtain ⟨cw, cf, fs, hA⟩ := hA
  exact hA.ws.frozen j
structure Told (W w' : World) (o : Ob) (from_ n gb : Nat) : Prop where
  at_ : GenAt 5 w' gb n (bytesV (fun i => Ob.byte o (from_ + i)) n n)
  new : W.heap.size ≤ gb
  below : Below W.heap.size W w'
set_option maxHeartbeats 4000000 in
theorem bytes.yes {W : World} {g gw gf sz : Nat} {l : List Ob} (hA : ArAt W g gw gf sz l) {k : Nat} {o : Ob} (h : l[k]? = some o) (hg : o.gone = none) (p : Nat) (hp : p = place l k) (r s : Nat) (h1 : o.refs = r) (h2 : o.fields.length = r + s) (from_ n : Nat) (hn : from_ + n ≤ 8 * s) :
    Calls Try.prog 44 #[.pointer (some ⟨g, 0, none⟩), .int .i64 (p : Int), .int .i64 (from_ : Int), .int .i64 (n : Int)] W fun e' w' => ∃ gb, e' = .returned (.tuple #[.slice (some ⟨gb, 0, none⟩) n n, .int .i64 0]) ∧ Told W w' o from_ n gb := by
  have HB := Aside0.mk (span.yes hA h hg p hp r s h1 h2 from_ n hn)
  obtain ⟨_, hl, hs, hr⟩ := raws_lt hA h
  have hs : s ≤ 1048576 := by omega
  have HA := Aside0.mk hA
  have HW : Aside0 (∀ W2 d, Below W.heap.size W W2 → d < s → W2.cell? ⟨gw, p + 1 + r + d, none⟩ = some (.int .u64 (o.fields.getD (r + d) 0 : Int))) := ⟨fun W2 d hb hd => by
    have := word_cell (hA.below hb) h (r + d) (by omega)
    rw [← hp, ← Nat.add_assoc] at this
    exact this⟩
  have hmk := make_u8 n (by omega)
  have hnb : n ≤ 8388608 := by omega
  have hfb : from_ + n ≤ 8388608 := by omega
  have HN := Aside0.mk hn
  have HR := Aside0.mk h1
  clear hA h hg hp h1 h2 hl hn hr
  go_enter Try.func44, Try.ntmps44
  go_wp2_with fail
  refine HB.out.mono ?_
  rintro e' w2 ⟨⟨A, hA, rfl⟩, hb⟩
  have H2 := Aside0.mk hb
  have HAd := Aside0.mk hA
  clear hb HB hA
  go_wp2_with fail
  go_loopw [30] (fun i wr => ∃ j : Nat, j ≤ n ∧ i = .int .i64 j ∧ Aside0 (GenAt 5 wr w2.heap.size n (bytesV (fun i => Ob.byte o (from_ + i)) j n) ∧ Below W.heap.size W wr)) (fun i _ => n - (intOf i).toNat)
  case atStart => exact ⟨0, Nat.zero_le _, rfl, ⟨bytes_made w2 n (by unfold maxLen; omega) _, below_alloc H2.out _⟩⟩
  case round =>
    obtain ⟨j, hj, rfl, HI⟩ := hrel
    rename World => wr
    by_cases hlt : j < n
    · obtain ⟨u, hu⟩ : ∃ u, u = from_ + j := ⟨_, rfl⟩
      obtain ⟨d, q, sh, hd, hq, hsh, E1, E2, E3, E4, E5, E6, E7, E8, E9, E10, E11, E12⟩ := num8 u (by omega)
      have HD := Aside0.mk (And.intro hu (And.intro hd (And.intro hq hsh)))
      have hds : d < s := by have := HN.out; clear E1 E2 E3 E4 E5 E6 E7 E8 E9 E10 E11 E12; omega
      have hjn : (j : Int) < n := by clear E1 E2 E3 E4 E5 E6 E7 E8 E9 E10 E11 E12; omega
      have hds' : (d : Int) < s := by clear E1 E2 E3 E4 E5 E6 E7 E8 E9 E10 E11 E12; omega
      have hs0 : 0 < s := by clear E1 E2 E3 E4 E5 E6 E7 E8 E9 E10 E11 E12; omega
      have hsi := NumB.sum_i (from_ : Int) j u (by clear E1 E2 E3 E4 E5 E6 E7 E8 E9 E10 E11 E12; omega) (by clear E1 E2 E3 E4 E5 E6 E7 E8 E9 E10 E11 E12; omega)
      obtain ⟨e1, f1⟩ := hsi
      have hAe := HAd.out hs0
      subst hAe
      have hc := HW.out wr d HI.out.2 hds
      obtain ⟨x, hx⟩ : ∃ x, x = o.fields.getD (r + d) 0 := ⟨_, rfl⟩
      rw [← hx] at hc
      have hcb := HI.out.1.get j _ (bytesV_get _ j n j hlt)
      have hfb2 := HI.out.1.frozen j
      have hsh7 : sh ≤ 56 := by clear E1 E2 E3 E4 E5 E6 E7 E8 E9 E10 E11 E12 e1 f1; omega
      have hby := byte_min x sh hsh7
      have HX := Aside0.mk hx
      clear hu hd hq hsh hx
      go_wp2_with fail
      have hval : NumB.byteAt x sh = Ob.byte o (from_ + j) := by
        unfold Ob.byte
        rw [HX.out, HD.out.2.2.2, HD.out.2.2.1, HD.out.2.1, HD.out.1, HR.out]
      clear E1 E2 E3 E4 E5 E6 E7 E8 E9 E10 E11 E12 e1 f1 hby
      have HNEW : Aside0 (GenAt 5 (wr.setCell ⟨w2.heap.size, j, none⟩ (.int .u8 ((NumB.byteAt x sh : Nat) : Int))) w2.heap.size n (bytesV (fun i => Ob.byte o (from_ + i)) (j + 1) n)) := ⟨by
        have := HI.out.1.set j (by rw [bytesV_len]; exact hlt) (.int .u8 ((NumB.byteAt x sh : Nat) : Int))
        rw [hval, bytesV_set (fun i => Ob.byte o (from_ + i)) j n hlt] at this
        rw [hval]
        exact this⟩
      go_roundw
      case rel => exact ⟨j + 1, by omega, by go_num, ⟨HNEW.out, below_put HI.out.2 H2.out.size _ _⟩⟩
      case measure => simp [intOf]; omega
    · obtain rfl : j = n := by omega
      go_wp2_with fail
      go_ret2
      exact ⟨_, rfl, ⟨HI.out.1, H2.out.size, HI.out.2⟩⟩
set_option maxHeartbeats 1600000 in
theorem setBytes.bad {W : World} {g gw gf sz : Nat} {l : List Ob} (hA : ArAt W g gw gf sz l) {p e : Int} (h : Bad l p e) (from_ : Int) (A : Option Addr) (n c : Nat) (hn : n ≤ 9000000000000000) :
    Calls Try.prog 26 #[.pointer (some ⟨g, 0, none⟩), .int .i64 p, .int .i64 from_, .slice A n c] W fun e' w' => e' = .returned (.int .i64 e) ∧ Below W.heap.size W w' := by
  have HB := Aside0.mk (span.bad hA h from_ n)
  have he := h.ne
  clear hA h
  go_enter Try.func26, Try.ntmps26
  go_wp2_with fail
  refine HB.out.mono ?_
  rintro e' w2 ⟨rfl, hb⟩
  have H2 := Aside0.mk hb
  clear hb HB
  go_wp2_with fail
  go_ret
  exact ⟨rfl, H2.out⟩
set_option maxHeartbeats 1600000 in
theorem setBytes.no {W : World} {g gw gf sz : Nat} {l : List Ob} (hA : ArAt W g gw gf sz l) {k : Nat} {o : Ob} (h : l[k]? = some o) (hg : o.gone = none) (p : Nat) (hp : p = place l k) (r s : Nat) (h1 : o.refs = r) (h2 : o.fields.length = r + s) (from_ : Int) (A : Option Addr) (n c : Nat) (hn : ¬ InSpan s from_ n) :
    Calls Try.prog 26 #[.pointer (some ⟨g, 0, none⟩), .int .i64 (p : Int), .int .i64 from_, .slice A n c] W fun e' w' => e' = .returned (.int .i64 25) ∧ Below W.heap.size W w' := by
  have HB := Aside0.mk (span.no hA h hg p hp r s h1 h2 from_ n hn)
  clear hA h hg hp h1 h2 hn
  go_enter Try.func26, Try.ntmps26
  go_wp2_with fail
  refine HB.out.mono ?_
  rintro e' w2 ⟨rfl, hb⟩
  have H2 := Aside0.mk hb
  clear hb HB
  go_wp2_with fail
  go_ret
  exact ⟨rfl, H2.out⟩
theorem arAt_put {W : World} {g gw gf sz : Nat} {l : List Ob} (hA : ArAt W g gw gf sz l) {k : Nat} {o : Ob} (h : l[k]? = some o) (hg : o.gone = none) (i v : Nat) (hi : i < o.fields.length) (hv : v < 18446744073709551616) :
    ArAt (W.setCell ⟨gw, place l k + 1 + i, none⟩ (.int .u64 (v : Int))) g gw gf sz (l.set k (Ob.put o i v)) := by
  obtain ⟨cw, cf, fs, hA⟩ := hA
  exact ⟨cw, cf, fs, ArRaw_put hA h hg i v hi hv⟩
theorem cell_upd {S : Nat → Prop} {W W' : World} {a : Addr} {v : Value} (hu : Upd S W W') (hs : ¬ S a.block) (h : W.cell? a = some v) : W'.cell? a = some v := by
  have hb := hu.block a.block (World.block_lt_of_cell? _ _ h) hs
  unfold World.cell? at *
  rw [hb]
  exact h
set_option maxHeartbeats 8000000 in
theorem setBytes.yes {W : World} {g gw gf sz : Nat} {l : List Ob} (hA : ArAt W g gw gf sz l) {k : Nat} {o : Ob} (h : l[k]? = some o) (hg : o.gone = none) (p : Nat) (hp : p = place l k) (r s : Nat) (h1 : o.refs = r) (h2 : o.fields.length = r + s) (from_ : Nat) (bs : List Nat) (hbs : ∀ c ∈ bs, c < 256)
    (A : Option Addr) (c : Nat) (hcell : ∀ (i x : Nat), bs[i]? = some x → ∃ ad, A = some ad ∧ ad.block ≠ gw ∧ W.cell? (ad.add i) = some (.int .u8 (x : Int))) (hn : from_ + bs.length ≤ 8 * s) :
    Calls Try.prog 26 #[.pointer (some ⟨g, 0, none⟩), .int .i64 (p : Int), .int .i64 (from_ : Int), .slice A bs.length c] W fun e' w' => e' = .returned (.int .i64 0) ∧ ArAt w' g gw gf sz (l.set k (putBs o from_ bs)) ∧ Upd (fun b => b = gw) W w' := by
  have HB := Aside0.mk (span.yes hA h hg p hp r s h1 h2 from_ bs.length hn)
  obtain ⟨hok, hl, hs, hr⟩ := raws_lt hA h
  have hs : s ≤ 1048576 := by omega
  obtain ⟨n, hne⟩ : ∃ n, n = bs.length := ⟨_, rfl⟩
  have HNE := Aside0.mk hne
  rw [← hne] at HB hn
  rw [← hne]
  have hkl := (List.getElem?_eq_some_iff.1 h).1
  have HSelf : Aside0 (∀ o', (l.set k o')[k]? = some o') := ⟨fun o' => List.getElem?_set_self hkl⟩
  have HPl : Aside0 (∀ j, place (l.set k (putBs o from_ (bs.take j))) k = p) := ⟨fun j => by rw [place_set h (putBs_same _ _ _).2.2.1]; exact hp.symm⟩
  have HC := Aside0.mk hcell
  have HBS := Aside0.mk hbs
  have HOK := Aside0.mk hok
  have HG := Aside0.mk hg
  have HA := Aside0.mk hA
  have HL : Aside0 (l.set k o = l) := ⟨by obtain ⟨_, hh⟩ := List.getElem?_eq_some_iff.1 h; subst hh; exact List.set_getElem_self _⟩
  have HR := Aside0.mk (And.intro h1 h2)
  have hnb : n ≤ 8388608 := by omega
  have hfb : from_ + n ≤ 8388608 := by omega
  have HN := Aside0.mk hn
  clear hA h hg hp h1 h2 hl hn hr hcell hbs hok hne hkl
  go_enter Try.func26, Try.ntmps26
  go_wp2_with fail
  refine HB.out.mono ?_
  rintro e' w2 ⟨⟨Ad, hAd, rfl⟩, hb⟩
  have H2 := Aside0.mk hb
  have HAd := Aside0.mk hAd
  clear hb HB hAd
  go_wp2_with fail
  go_loopw [29] (fun i wr => ∃ j : Nat, j ≤ n ∧ i = .int .i64 j ∧ Aside0 (ArAt wr g gw gf sz (l.set k (putBs o from_ (bs.take j))) ∧ Upd (fun b => b = gw) W wr)) (fun i _ => n - (intOf i).toNat)
  case atStart => exact ⟨0, Nat.zero_le _, rfl, ⟨by rw [List.take_zero]; show ArAt w2 g gw gf sz (l.set k o); rw [HL.out]; exact HA.out.below H2.out, Upd.of_below H2.out⟩⟩
  case round =>
    obtain ⟨j, hj, rfl, HI⟩ := hrel
    rename World => wr
    by_cases hlt : j < n
    · obtain ⟨u, hu⟩ : ∃ u, u = from_ + j := ⟨_, rfl⟩
      obtain ⟨x, hx⟩ : ∃ x, bs[j]? = some x := ⟨_, List.getElem?_eq_getElem (by rw [← HNE.out]; exact hlt)⟩
      obtain ⟨ad, hadA, hadb, hadc⟩ := HC.out j x hx
      subst hadA
      have hx256 := HBS.out x (List.mem_of_getElem? hx)
      have hcx := cell_upd HI.out.2 (a := ad.add j) (fun hh => hadb ((addr_block ad j).symm.trans hh)) hadc
      obtain ⟨oj, hoj⟩ : ∃ oj, oj = putBs o from_ (bs.take j) := ⟨_, rfl⟩
      obtain ⟨s1, s2, s3, s4⟩ := putBs_same (bs.take j) o from_
      rw [← hoj] at s1 s2 s3 s4
      have hHI := HI.out
      rw [← hoj] at hHI
      have HIj := Aside0.mk hHI
      have hojok : oj.ok := by rw [hoj]; exact putBs_ok _ (fun c hc => HBS.out c (List.mem_of_mem_take hc)) _ HOK.out
      have hpj : place (l.set k oj) k = p := by rw [hoj]; exact HPl.out j
      obtain ⟨d, q, sh, hd, hq, hsh, E1, E2, E3, E4, E5, E6, E7, E8, E9, E10, E11, E12⟩ := num8 u (by omega)
      have HE := Aside0.mk (And.intro E1 (And.intro E2 (And.intro E3 (And.intro E4 (And.intro E5 (And.intro E6 (And.intro E7 (And.intro E8 (And.intro E9 (And.intro E10 (And.intro E11 E12)))))))))))
      clear E1 E2 E3 E4 E5 E6 E7 E8 E9 E10 E11 E12
      have hds : d < s := by have := HN.out; omega
      have hjn : (j : Int) < n := by omega
      have hds' : (d : Int) < s := by omega
      have hs0 : 0 < s := by omega
      have hsh7 : sh ≤ 56 := by omega
      have HSU := Aside0.mk (NumB.sum_i (from_ : Int) j u (by omega) (by omega))
      have hrd : r + d < oj.fields.length := by rw [s3, HR.out.2]; omega
      obtain ⟨y, hy⟩ : ∃ y, y = oj.fields.getD (r + d) 0 := ⟨_, rfl⟩
      have hylt : y < 18446744073709551616 := by rw [hy]; exact getD_lt hojok _
      have hc : wr.cell? ⟨gw, p + 1 + r + d, none⟩ = some (.int .u64 (y : Int)) := by
        have := word_cell hHI.1 (HSelf.out oj) (r + d) hrd
        rw [hpj, ← hy, ← Nat.add_assoc] at this
        exact this
      have hf := word_frozen hHI.1 (p + 1 + r + d)
      have hput : bits BinOp.or IntKind.u64 (bits BinOp.andNot IntKind.u64 (y : Int) (IntKind.u64.wrap (255 * 2 ^ min sh 64))) (IntKind.u64.wrap (IntKind.u64.wrap (x : Int) * 2 ^ min sh 64)) = ((NumB.putAt y sh x : Nat) : Int) := by
        rw [Nat.min_eq_left (by omega), show IntKind.u64.wrap (x : Int) = (x : Int) by rw [IntKind.wrap_u64]; omega]
        exact NumB.put_bits y sh x hsh7 hylt hx256
      have HPut := Aside0.mk (fun (W2 : World) (hA2 : ArAt W2 g gw gf sz (l.set k oj)) => arAt_put hA2 (HSelf.out oj) (s4.trans HG.out) (r + d) (NumB.putAt y sh x) hrd (NumB.put_lt _ _ _ hsh7 hylt hx256))
      have HNext : Aside0 ((l.set k oj).set k (Ob.put oj (r + d) (NumB.putAt y sh x)) = l.set k (putBs o from_ (bs.take (j + 1)))) := ⟨by
        have hjb : j < bs.length := by rw [← HNE.out]; exact hlt
        have ht : bs.take (j + 1) = bs.take j ++ [x] := by rw [List.take_add_one, hx]; rfl
        rw [List.set_set, ht, putBs_snoc, ← hoj, List.length_take, Nat.min_eq_left (Nat.le_of_lt hjb), ← hu]
        congr 1
        unfold Ob.putB
        rw [s2, HR.out.1, ← hd, ← hq, ← hsh, ← hy]⟩
      have HHI := Aside0.mk (And.intro hpj hHI.2)
      have HAd2 := HAd.out hs0
      subst HAd2
      clear hu hx hadb hadc hoj s1 s2 s3 s4 hHI hojok hpj hd hq hsh hrd hy hylt hsh7 hx256 hds
      obtain ⟨E1, E2, E3, E4, E5, E6, E7, E8, E9, E10, E11, E12⟩ := HE.out
      obtain ⟨e1, f1⟩ := HSU.out
      go_wp2_with fail
      go_still_tail 17, (by kernel_rfl)
      change wpList _ _ _ _ _ wr.drew
      go_wp2_with fail
      clear E1 E2 E3 E4 E5 E6 E7 E8 E9 E10 E11 E12 e1 f1 hput
      have HFin : Aside0 (ArAt (wr.drew.setCell ⟨gw, p + 1 + r + d, none⟩ (.int .u64 ((NumB.putAt y sh x : Nat) : Int))) g gw gf sz (l.set k (putBs o from_ (bs.take (j + 1)))) ∧ Upd (fun b => b = gw) W (wr.drew.setCell ⟨gw, p + 1 + r + d, none⟩ (.int .u64 ((NumB.putAt y sh x : Nat) : Int)))) := ⟨by
        have h1 := HPut.out wr.drew (HIj.out.1.below (Below.refl wr.heap.size wr).drew)
        rw [HHI.out.1, HNext.out, ← Nat.add_assoc] at h1
        exact ⟨h1, (HHI.out.2.drew).put (.inl rfl) _ _⟩⟩
      go_roundw
      case rel => exact ⟨j + 1, by omega, by go_num, HFin⟩
      case measure => simp [intOf]; omega
    · obtain rfl : j = n := by omega
      go_wp2_with fail
      go_ret
      have := HI.out.1
      rw [HNE.out, List.take_length] at this
      exact ⟨rfl, this, HI.out.2⟩
end Go.Proofs.Ytgjcffjicbmkhaa.ArC
end

section
namespace Go.Proofs.Ytgjcffjicbmkhaa.ArP
open Go Go.RowKit Go.Proofs.YtgjcffjicbmkhaaW.PrintWords Go.Proofs.YtgjcffjicbmkhaaW.PrintLast Go.Proofs.YtgjcffjicbmkhaaW.PrintMore Go.Proofs.Ytgjcffjicbmkhaa.RowU Go.Proofs.Ytgjcffjicbmkhaa.ArS Go.Proofs.Ytgjcffjicbmkhaa.ArM Go.Proofs.Ytgjcffjicbmkhaa.ArW Go.Proofs.Ytgjcffjicbmkhaa.ArX Go.Proofs.Ytgjcffjicbmkhaa.ArY Go.Proofs.Ytgjcffjicbmkhaa.ArZ Go.Proofs.Ytgjcffjicbmkhaa.ArT Go.Proofs.Ytgjcffjicbmkhaa.ArU Go.Proofs.Ytgjcffjicbmkhaa.GenM Go.Proofs.Ytgjcffjicbmkhaa.ArV Go.Proofs.Ytgjcffjicbmkhaa.ArB Go.Proofs.Ytgjcffjicbmkhaa.ArC
set_option linter.unusedVariables false
set_option maxRecDepth 100000
def whereIs (l : List Ob) (p : Int) : Option Nat := (List.range l.length).find? fun k => decide (p = (place l k : Int))
def obAt (l : List Ob) (p : Int) : Option (Nat × Ob) := (whereIs l p).bind fun k => l[k]?.map fun o => (k, o)
theorem obAt_some {l : List Ob} {p : Int} {k : Nat} {o : Ob} (h : obAt l p = some (k, o)) : l[k]? = some o ∧ p = place l k := by
  unfold obAt at h
  obtain ⟨k', h1, h2⟩ := Option.bind_eq_some_iff.1 h
  obtain ⟨o', h3, h4⟩ := Option.map_eq_some_iff.1 h2
  simp only [Prod.mk.injEq] at h4
  obtain ⟨rfl, rfl⟩ := h4
  exact ⟨h3, of_decide_eq_true (List.find?_some (p := fun k => decide (p = (place l k : Int))) h1)⟩
theorem obAt_none {l : List Ob} {p : Int} (h : obAt l p = none) : ¬ ∃ q : Nat, p = q ∧ begins l q := by
  rintro ⟨q, rfl, k, hk, rfl⟩
  unfold obAt at h
  cases hw : whereIs l (place l k : Int) with
  | none =>
    unfold whereIs at hw
    have := List.find?_eq_none.1 hw k (List.mem_range.2 hk)
    simp at this
  | some j =>
    rw [hw] at h
    unfold whereIs at hw
    have hj := List.mem_range.1 (List.mem_of_find?_eq_some hw)
    simp [List.getElem?_eq_getElem hj] at h
theorem obAt_of {l : List Ob} {k : Nat} {o : Ob} (h : l[k]? = some o) : obAt l (place l k : Int) = some (k, o) := by
  cases hx : obAt l (place l k : Int) with
  | none => exact absurd ⟨place l k, rfl, begins_of h⟩ (obAt_none hx)
  | some x =>
    obtain ⟨j, o'⟩ := x
    obtain ⟨h1, h2⟩ := obAt_some hx
    have hkl := (List.getElem?_eq_some_iff.1 h).1
    have hjl := (List.getElem?_eq_some_iff.1 h1).1
    obtain rfl : j = k := place_inj (Nat.le_of_lt hjl) (Nat.le_of_lt hkl) (by omega)
    rw [h] at h1
    rw [Option.some.inj h1]
def badOf (l : List Ob) (p : Int) : Option Int := match obAt l p with
  | none => some 23
  | some (_, o) => if o.gone.isSome then some 26 else none
theorem badOf_some {l : List Ob} {p e : Int} (h : badOf l p = some e) : Bad l p e := by
  unfold badOf at h
  cases hx : obAt l p with
  | none => rw [hx] at h; obtain rfl := Option.some.inj h; exact .inl ⟨rfl, obAt_none hx⟩
  | some x =>
    obtain ⟨k, o⟩ := x
    rw [hx] at h
    obtain ⟨h1, h2⟩ := obAt_some hx
    cases hg : o.gone with
    | none => simp [hg] at h
    | some t =>
      simp [hg] at h
      exact .inr ⟨h.symm, k, o, t, h1, hg, h2⟩
theorem badOf_none {l : List Ob} {p : Int} (h : badOf l p = none) : ∃ k o, obAt l p = some (k, o) ∧ l[k]? = some o ∧ o.gone = none ∧ p = place l k := by
  unfold badOf at h
  cases hx : obAt l p with
  | none => rw [hx] at h; cases h
  | some x =>
    obtain ⟨k, o⟩ := x
    rw [hx] at h
    obtain ⟨h1, h2⟩ := obAt_some hx
    cases hg : o.gone with
    | none => exact ⟨k, o, rfl, h1, hg, h2⟩
    | some t => simp [hg] at h
def objR (l : List Ob) (p : Int) : Int × Int × Int × Int := match badOf l p, obAt l p with
  | some e, _ => (0, 0, 0, e)
  | none, some (_, o) => (o.kind, o.refs, o.raws, 0)
  | none, none => (0, 0, 0, 0)
theorem object_all {W : World} {g gw gf sz : Nat} {l : List Ob} (hA : ArAt W g gw gf sz l) (p : Int) :
    Calls Try.prog 15 #[.pointer (some ⟨g, 0, none⟩), .int .i64 p] W fun e w' => e = .returned (.tuple #[.int .i64 (objR l p).1, .int .i64 (objR l p).2.1, .int .i64 (objR l p).2.2.1, .int .i64 (objR l p).2.2.2]) ∧ Below W.heap.size W w' := by
  unfold objR
  cases hb : badOf l p with
  | some e => exact object_bad hA (badOf_some hb)
  | none =>
    obtain ⟨k, o, h1, h2, h3, rfl⟩ := badOf_none hb
    rw [h1]
    obtain ⟨_, hl, _, _⟩ := raws_lt hA h2
    exact object_yes hA h2 h3 _ rfl o.kind o.refs o.raws rfl rfl hl
def getR (l : List Ob) (p i : Int) : Int × Int := match badOf l p, obAt l p with
  | some e, _ => (0, e)
  | none, some (_, o) => if 0 ≤ i ∧ i < o.fields.length then (o.fields.getD i.toNat 0, 0) else (0, 24)
  | none, none => (0, 0)
theorem get_all {W : World} {g gw gf sz : Nat} {l : List Ob} (hA : ArAt W g gw gf sz l) (p i : Int) :
    Calls Try.prog 16 #[.pointer (some ⟨g, 0, none⟩), .int .i64 p, .int .i64 i] W fun e w' => e = .returned (.tuple #[.int .u64 (getR l p i).1, .int .i64 (getR l p i).2]) ∧ Below W.heap.size W w' := by
  unfold getR
  cases hb : badOf l p with
  | some e =>
    obtain ⟨cw, cf, fs, hA⟩ := hA
    exact get.bad hA (badOf_some hb) i
  | none =>
    obtain ⟨k, o, h1, h2, h3, rfl⟩ := badOf_none hb
    rw [h1]
    simp only
    by_cases hi : 0 ≤ i ∧ i < o.fields.length
    · rw [if_pos hi]
      obtain ⟨n, rfl⟩ := Int.eq_ofNat_of_zero_le hi.1
      exact get_yes hA h2 h3 n _ (by rw [Int.toNat_natCast, List.getD_eq_getElem?_getD, List.getElem?_eq_getElem (by omega)]; rfl) _ rfl
    · rw [if_neg hi]
      obtain ⟨cw, cf, fs, hA⟩ := hA
      exact get.far hA h2 h3 i (by omega)
def setR (l : List Ob) (p i : Int) (v : Nat) : Int × List Ob := match badOf l p, obAt l p with
  | some e, _ => (e, l)
  | none, some (k, o) => if 0 ≤ i ∧ i < o.fields.length then (0, l.set k (Ob.put o i.toNat v)) else (24, l)
  | none, none => (0, l)
theorem set_all {W : World} {g gw gf sz : Nat} {l : List Ob} (hA : ArAt W g gw gf sz l) (p i : Int) (v : Nat) (hv : v < 18446744073709551616) :
    Calls Try.prog 13 #[.pointer (some ⟨g, 0, none⟩), .int .i64 p, .int .i64 i, .int .u64 (v : Int)] W fun e w' => e = .returned (.int .i64 (setR l p i v).1) ∧ ArAt w' g gw gf sz (setR l p i v).2 ∧ Upd (fun b => b = gw) W w' := by
  unfold setR
  cases hb : badOf l p with
  | some e =>
    obtain ⟨cw, cf, fs, hA'⟩ := hA
    exact (set.bad hA' (badOf_some hb) i v).mono fun e' w' ⟨he, hb⟩ => ⟨he, ArAt.below ⟨cw, cf, fs, hA'⟩ hb, Upd.of_below hb⟩
  | none =>
    obtain ⟨k, o, h1, h2, h3, rfl⟩ := badOf_none hb
    rw [h1]
    simp only
    by_cases hi : 0 ≤ i ∧ i < o.fields.length
    · rw [if_pos hi]
      obtain ⟨n, rfl⟩ := Int.eq_ofNat_of_zero_le hi.1
      exact set_yes hA h2 h3 n v (by omega) hv _ rfl
    · rw [if_neg hi]
      exact (set_far hA h2 h3 i v (by omega) _ rfl).mono fun e' w' ⟨he, hb⟩ => ⟨he, hA.below hb, Upd.of_below hb⟩
def movR (l : List Ob) (p : Int) : Int × Bool × Int := match obAt l p with
  | none => (0, false, 23)
  | some (_, o) => match o.gone with | none => (0, false, 0) | some t => (t, true, 0)
theorem moved_all {W : World} {g gw gf sz : Nat} {l : List Ob} (hA : ArAt W g gw gf sz l) (p : Int) :
    Calls Try.prog 25 #[.pointer (some ⟨g, 0, none⟩), .int .i64 p] W fun e w' => e = .returned (.tuple #[.int .i64 (movR l p).1, .bool (movR l p).2.1, .int .i64 (movR l p).2.2]) ∧ Below W.heap.size W w' := by
  unfold movR
  cases hx : obAt l p with
  | none => exact moved.bad hA p (obAt_none hx)
  | some x =>
    obtain ⟨k, o⟩ := x
    obtain ⟨h1, rfl⟩ := obAt_some hx
    simp only
    cases hg : o.gone with
    | none => exact moved.no hA h1 hg
    | some t => exact moved.yes hA h1 hg
def allR (sz : Nat) (l : List Ob) (k r s : Int) : Int × Int × List Ob :=
  if PA.headOk k r s then (if (sz : Int) < used l + (1 + (r + s)) then (0, 22, l) else (used l, 0, l ++ [newOb k.toNat r.toNat s.toNat])) else (0, 21, l)
theorem alloc_all {W : World} {g gw gf sz : Nat} {l : List Ob} (hA : ArAt W g gw gf sz l) (k r s : Int) :
    Calls Try.prog 35 #[.pointer (some ⟨g, 0, none⟩), .int .i64 k, .int .i64 r, .int .i64 s] W fun e w' => e = .returned (.tuple #[.int .i64 (allR sz l k r s).1, .int .i64 (allR sz l k r s).2.1]) ∧
      ∃ gw' gf', ArAt w' g gw' gf' sz (allR sz l k r s).2.2 ∧ (gw' = gw ∨ W.heap.size ≤ gw') ∧ (gf' = gf ∨ W.heap.size ≤ gf') ∧ Upd (three_ g gw gf) W w' := by
  unfold allR
  by_cases hk : PA.headOk k r s
  · rw [if_pos hk]
    obtain ⟨k1, k2, r1, r2, s1, s2⟩ := hk
    obtain ⟨k, rfl⟩ := Int.eq_ofNat_of_zero_le (show 0 ≤ k by omega)
    obtain ⟨r, rfl⟩ := Int.eq_ofNat_of_zero_le r1
    obtain ⟨s, rfl⟩ := Int.eq_ofNat_of_zero_le s1
    by_cases hf : (sz : Int) < used l + (1 + ((r : Int) + s))
    · rw [if_pos hf]
      exact (alloc.full hA k r s ⟨by omega, by omega⟩ (by omega) (by omega) (by omega)).mono fun e w' ⟨he, hb⟩ => ⟨he, gw, gf, hA.below hb, .inl rfl, .inl rfl, Upd.of_below hb⟩
    · rw [if_neg hf]
      exact alloc.yes hA k r s ⟨by omega, by omega⟩ (by omega) (by omega) (by omega)
  · rw [if_neg hk]
    exact (alloc.shape W g k r s hk).mono fun e w' ⟨he, hb⟩ => ⟨he, gw, gf, hA.below hb, .inl rfl, .inl rfl, Upd.of_below hb⟩
instance (s : Nat) (f n : Int) : Decidable (InSpan s f n) := by unfold InSpan; infer_instance
def bytErr (l : List Ob) (p f n : Int) : Option Int := match badOf l p, obAt l p with
  | some e, _ => some e
  | none, some (_, o) => if InSpan o.raws f n then none else some 25
  | none, none => none
theorem bytes_all {W : World} {g gw gf sz : Nat} {l : List Ob} (hA : ArAt W g gw gf sz l) (p f n : Int) :
    Calls Try.prog 44 #[.pointer (some ⟨g, 0, none⟩), .int .i64 p, .int .i64 f, .int .i64 n] W fun e w' =>
      (∃ er, bytErr l p f n = some er ∧ e = .returned (.tuple #[.slice none 0 0, .int .i64 er]) ∧ Below W.heap.size W w') ∨
      (bytErr l p f n = none ∧ ∃ (k : Nat) (o : Ob) (f' n' gb : Nat), obAt l p = some (k, o) ∧ l[k]? = some o ∧ o.gone = none ∧ f = f' ∧ n = n' ∧ f' + n' ≤ 8 * o.raws ∧ e = .returned (.tuple #[.slice (some ⟨gb, 0, none⟩) n' n', .int .i64 0]) ∧ ArC.Told W w' o f' n' gb) := by
  unfold bytErr
  cases hb : badOf l p with
  | some e => exact (bytes.bad hA (badOf_some hb) f n).mono fun e' w' ⟨he, h⟩ => .inl ⟨e, rfl, he, h⟩
  | none =>
    obtain ⟨k, o, h1, h2, h3, rfl⟩ := badOf_none hb
    rw [h1]
    simp only
    obtain ⟨_, hl, _, _⟩ := raws_lt hA h2
    by_cases hs : InSpan o.raws f n
    · obtain ⟨a, b, c⟩ := hs
      have hs : InSpan o.raws f n := ⟨a, b, c⟩
      simp only [if_pos hs]
      obtain ⟨f, rfl⟩ := Int.eq_ofNat_of_zero_le a
      obtain ⟨n, rfl⟩ := Int.eq_ofNat_of_zero_le b
      refine (bytes.yes hA h2 h3 _ rfl o.refs o.raws rfl hl f n (by omega)).mono fun e' w' ⟨gb, he, ht⟩ => .inr ⟨by first | rfl | trivial, k, o, f, n, gb, rfl, h2, h3, rfl, rfl, by omega, he, ht⟩
    · simp only [if_neg hs]
      exact (bytes.no hA h2 h3 _ rfl o.refs o.raws rfl hl f n hs).mono fun e' w' ⟨he, h⟩ => .inl ⟨25, rfl, he, h⟩
def stbR (l : List Ob) (p f : Int) (bs : List Nat) : Int × List Ob := match bytErr l p f bs.length, obAt l p with
  | some e, _ => (e, l)
  | none, some (k, o) => (0, l.set k (putBs o f.toNat bs))
  | none, none => (0, l)
theorem setBytes_all {W : World} {g gw gf sz : Nat} {l : List Ob} (hA : ArAt W g gw gf sz l) (p f : Int) (bs : List Nat) (hbs : ∀ c ∈ bs, c < 256) (A : Option Addr) (c : Nat) (hcell : ∀ (i x : Nat), bs[i]? = some x → ∃ ad, A = some ad ∧ ad.block ≠ gw ∧ W.cell? (ad.add i) = some (.int .u8 (x : Int))) (hn : bs.length ≤ 9000000000000000) :
    Calls Try.prog 26 #[.pointer (some ⟨g, 0, none⟩), .int .i64 p, .int .i64 f, .slice A bs.length c] W fun e w' => e = .returned (.int .i64 (stbR l p f bs).1) ∧ ArAt w' g gw gf sz (stbR l p f bs).2 ∧ Upd (fun b => b = gw) W w' := by
  unfold stbR bytErr
  cases hb : badOf l p with
  | some e => exact (setBytes.bad hA (badOf_some hb) f A bs.length c hn).mono fun e' w' ⟨he, h⟩ => ⟨he, hA.below h, Upd.of_below h⟩
  | none =>
    obtain ⟨k, o, h1, h2, h3, rfl⟩ := badOf_none hb
    rw [h1]
    simp only
    obtain ⟨_, hl, _, _⟩ := raws_lt hA h2
    by_cases hs : InSpan o.raws f bs.length
    · obtain ⟨a, b, c'⟩ := hs
      have hs : InSpan o.raws f bs.length := ⟨a, b, c'⟩
      simp only [if_pos hs]
      obtain ⟨f, rfl⟩ := Int.eq_ofNat_of_zero_le a
      exact setBytes.yes hA h2 h3 _ rfl o.refs o.raws rfl hl f bs hbs A c hcell (by omega)
    · simp only [if_neg hs]
      exact (setBytes.no hA h2 h3 _ rfl o.refs o.raws rfl hl f A bs.length c hs).mono fun e' w' ⟨he, h⟩ => ⟨he, hA.below h, Upd.of_below h⟩
def takR (sza : Nat) (la ls : List Ob) (p : Int) (same : Bool) : Int × Int × List Ob × List Ob := match obAt ls p with
  | none => (0, 23, la, ls)
  | some (k, o) => match o.gone with
    | some t => (t, 0, la, ls)
    | none => if sza < used la + (1 + o.fields.length) then (0, 22, la, ls) else
      (used la, 0, if same then (la ++ [o]).set k (Ob.went o (used la)) else la ++ [o], (if same then la ++ [o] else ls).set k (Ob.went o (used la)))
theorem take_all {W : World} {ga gwa gfa sza : Nat} {la : List Ob} {gs gws gfs szs : Nat} {ls : List Ob} {same : Bool} (hP : Pair W ga gwa gfa sza la gs gws gfs szs ls same) (p : Int) :
    Calls Try.prog 42 #[.pointer (some ⟨ga, 0, none⟩), .pointer (some ⟨gs, 0, none⟩), .int .i64 p] W fun e w' => e = .returned (.tuple #[.int .i64 (takR sza la ls p same).1, .int .i64 (takR sza la ls p same).2.1]) ∧
      ∃ gwa' gfa', Pair w' ga gwa' gfa' sza (takR sza la ls p same).2.2.1 gs (if same then gwa' else gws) (if same then gfa' else gfs) szs (takR sza la ls p same).2.2.2 same ∧ (gwa' = gwa ∨ W.heap.size ≤ gwa') ∧ (gfa' = gfa ∨ W.heap.size ≤ gfa') ∧ Upd (fun b => three_ ga gwa gfa b ∨ three_ gs gws gfs b) W w' := by
  have keep : ∀ w', Below W.heap.size W w' → ∃ gwa' gfa', Pair w' ga gwa' gfa' sza la gs (if same then gwa' else gws) (if same then gfa' else gfs) szs ls same ∧ (gwa' = gwa ∨ W.heap.size ≤ gwa') ∧ (gfa' = gfa ∨ W.heap.size ≤ gfa') ∧ Upd (fun b => three_ ga gwa gfa b ∨ three_ gs gws gfs b) W w' := by
    intro w' hb
    refine ⟨gwa, gfa, ?_, .inl rfl, .inl rfl, Upd.of_below hb⟩
    have h2 := hP.below hb
    cases same with
    | true =>
      obtain ⟨e1, e2, e3, e4, e5⟩ := h2.R
      simp only [if_true]
      rw [e2, e3] at h2
      exact h2
    | false => exact h2
  unfold takR
  cases hx : obAt ls p with
  | none => exact (take.bad hP.S p (obAt_none hx)).mono fun e w' ⟨he, hb⟩ => ⟨he, keep w' hb⟩
  | some x =>
    obtain ⟨k, o⟩ := x
    obtain ⟨h1, rfl⟩ := obAt_some hx
    simp only
    cases hg : o.gone with
    | some t => exact (take.moved hP.S h1 hg).mono fun e w' ⟨he, hb⟩ => ⟨he, keep w' hb⟩
    | none =>
      simp only
      by_cases hf : sza < used la + (1 + o.fields.length)
      · simp only [if_pos hf]
        exact (take.full hP.A hP.S h1 hg hf).mono fun e w' ⟨he, hb⟩ => ⟨he, keep w' hb⟩
      · simp only [if_neg hf]
        exact (take.yes hP h1 hg (by omega)).mono fun e w' ⟨he, gwa', gfa', ht⟩ => ⟨he, gwa', gfa', ht.P, ht.nw, ht.nf, ht.upd⟩
end Go.Proofs.Ytgjcffjicbmkhaa.ArP
end

section
namespace Go.Proofs.Ytgjcffjicbmkhaa.ArQ
open Go Go.RowKit Go.Proofs.YtgjcffjicbmkhaaW.PrintWords Go.Proofs.YtgjcffjicbmkhaaW.PrintLast Go.Proofs.YtgjcffjicbmkhaaW.PrintMore Go.Proofs.Ytgjcffjicbmkhaa.RowU Go.Proofs.Ytgjcffjicbmkhaa.ArS Go.Proofs.Ytgjcffjicbmkhaa.ArM Go.Proofs.Ytgjcffjicbmkhaa.ArX Go.Proofs.Ytgjcffjicbmkhaa.ArT Go.Proofs.Ytgjcffjicbmkhaa.ArP
set_option linter.unusedVariables false
structure ArD where
  g : Nat
  gw : Nat
  gf : Nat
  sz : Nat
  l : List Ob
def ArD.at_ (d : ArD) (W : World) : Prop := ArAt W d.g d.gw d.gf d.sz d.l
def ArD.blk (d : ArD) : Nat → Prop := three_ d.g d.gw d.gf
def ArD.sep (d e : ArD) : Prop := Sep d.g d.gw d.gf e.g e.gw e.gf
theorem sep_symm {d e : ArD} (h : d.sep e) : e.sep d := fun i h1 h2 => h i h2 h1
structure Three (W : World) (d : Nat → ArD) (on : Nat → Bool) : Prop where
  at_ : ∀ i, i < 3 → on i = true → (d i).at_ W
  sep : ∀ i j, i < 3 → j < 3 → i ≠ j → on i = true → on j = true → (d i).sep (d j)
def putD (d : Nat → ArD) (i : Nat) (x : ArD) : Nat → ArD := fun j => if j = i then x else d j
theorem putD_self (d : Nat → ArD) (i : Nat) (x : ArD) : putD d i x i = x := if_pos rfl
theorem putD_other (d : Nat → ArD) (i j : Nat) (x : ArD) (h : j ≠ i) : putD d i x j = d j := if_neg h
theorem ArD.lt {d : ArD} {W : World} (h : d.at_ W) : ∀ i, d.blk i → i < W.heap.size := by
  obtain ⟨h1, h2, h3⟩ := ArAt.lt3 h
  rintro i (rfl | rfl | rfl)
  · exact h1
  · exact h2
  · exact h3
theorem Three.below {W W' : World} {d : Nat → ArD} {on : Nat → Bool} (h : Three W d on) (hb : Below W.heap.size W W') : Three W' d on := ⟨fun i hi ho => ArAt.below (h.at_ i hi ho) hb, h.sep⟩
theorem ArD.upd {d : ArD} {W W' : World} {S : Nat → Prop} (h : d.at_ W) (hu : Upd S W W') (hs : ∀ i, d.blk i → ¬ S i) : d.at_ W' := ArAt.upd h hu (hs _ (.inl rfl)) (hs _ (.inr (.inl rfl))) (hs _ (.inr (.inr rfl)))
theorem Three.step {W W' : World} {d : Nat → ArD} {on : Nat → Bool} (h : Three W d on) {i : Nat} (hi : i < 3) (ho : on i = true) {gw' gf' : Nat} {l' : List Ob} (hA : ArAt W' (d i).g gw' gf' (d i).sz l')
    (h1 : gw' = (d i).gw ∨ W.heap.size ≤ gw') (h2 : gf' = (d i).gf ∨ W.heap.size ≤ gf') (hu : Upd (d i).blk W W') : Three W' (putD d i ⟨(d i).g, gw', gf', (d i).sz, l'⟩) on := by
  have key : ∀ j, j < 3 → j ≠ i → on j = true → (⟨(d i).g, gw', gf', (d i).sz, l'⟩ : ArD).sep (d j) := by
    intro j hj hne hoj
    have hs := h.sep i j hi hj (fun h => hne h.symm) ho hoj
    have hlt := ArD.lt (h.at_ j hj hoj)
    rintro k (rfl | rfl | rfl) hk
    · exact hs _ (.inl rfl) hk
    · rcases h1 with h1 | h1
      · exact hs _ (.inr (.inl h1)) hk
      · have := hlt _ hk; omega
    · rcases h2 with h2 | h2
      · exact hs _ (.inr (.inr h2)) hk
      · have := hlt _ hk; omega
  refine ⟨fun j hj hoj => ?_, fun j k hj hk hjk hoj hok => ?_⟩
  · by_cases hji : j = i
    · subst hji; rw [putD_self]; exact hA
    · rw [putD_other _ _ _ _ hji]
      exact ArD.upd (h.at_ j hj hoj) hu (fun b hb hb2 => h.sep j i hj hi hji hoj ho b hb hb2)
  · by_cases hji : j = i
    · subst hji
      rw [putD_self, putD_other _ _ _ _ (fun h => hjk h.symm)]
      exact key k hk (fun h => hjk h.symm) hok
    · rw [putD_other _ _ _ _ hji]
      by_cases hki : k = i
      · subst hki
        rw [putD_self]
        exact sep_symm (key j hj hji hoj)
      · rw [putD_other _ _ _ _ hki]
        exact h.sep j k hj hk hjk hoj hok
theorem Three.fresh {W W' : World} {d : Nat → ArD} {on : Nat → Bool} (h : Three W d on) {i : Nat} (hi : i < 3) {g gw gf n : Nat} (hA : ArAt W' g gw gf n []) (h0 : W.heap.size ≤ g) (h1 : W.heap.size ≤ gw) (h2 : W.heap.size ≤ gf) (hb : Below W.heap.size W W') :
    Three W' (putD d i ⟨g, gw, gf, n, []⟩) (fun j => if j = i then true else on j) := by
  have key : ∀ j, j < 3 → j ≠ i → on j = true → (⟨g, gw, gf, n, []⟩ : ArD).sep (d j) := by
    intro j hj hne hoj
    have hlt := ArD.lt (h.at_ j hj hoj)
    rintro k (rfl | rfl | rfl) hk
    · have := hlt _ hk; omega
    · have := hlt _ hk; omega
    · have := hlt _ hk; omega
  refine ⟨fun j hj hoj => ?_, fun j k hj hk hjk hoj hok => ?_⟩
  · by_cases hji : j = i
    · subst hji; rw [putD_self]; exact hA
    · rw [putD_other _ _ _ _ hji]
      simp only [hji, if_false] at hoj
      exact ArAt.below (h.at_ j hj hoj) hb
  · by_cases hji : j = i
    · subst hji
      have hkj : k ≠ j := fun h => hjk h.symm
      simp only [hkj, if_false] at hok
      rw [putD_self, putD_other _ _ _ _ hkj]
      exact key k hk hkj hok
    · simp only [hji, if_false] at hoj
      rw [putD_other _ _ _ _ hji]
      by_cases hki : k = i
      · subst hki
        rw [putD_self]
        exact sep_symm (key j hj hji hoj)
      · simp only [hki, if_false] at hok
        rw [putD_other _ _ _ _ hki]
        exact h.sep j k hj hk hjk hoj hok
theorem Three.off {W : World} {d : Nat → ArD} {on : Nat → Bool} (h : Three W d on) (i : Nat) : Three W d (fun j => if j = i then false else on j) := by
  refine ⟨fun j hj hoj => ?_, fun j k hj hk hjk hoj hok => ?_⟩
  · by_cases hji : j = i
    · simp [hji] at hoj
    · simp only [hji, if_false] at hoj; exact h.at_ j hj hoj
  · by_cases hji : j = i
    · simp [hji] at hoj
    · by_cases hki : k = i
      · simp [hki] at hok
      · simp only [hji, if_false] at hoj
        simp only [hki, if_false] at hok
        exact h.sep j k hj hk hjk hoj hok
theorem Three.pair {W : World} {d : Nat → ArD} {on : Nat → Bool} (h : Three W d on) {i j : Nat} (hi : i < 3) (hj : j < 3) (hoi : on i = true) (hoj : on j = true) :
    Pair W (d i).g (d i).gw (d i).gf (d i).sz (d i).l (d j).g (d j).gw (d j).gf (d j).sz (d j).l (decide (i = j)) := by
  refine ⟨h.at_ i hi hoi, h.at_ j hj hoj, ?_⟩
  by_cases hij : i = j
  · subst hij; simp
  · simp only [hij, decide_false, Bool.false_eq_true, if_false]
    exact h.sep i j hi hj hij hoi hoj
theorem Three.took {W W' : World} {d : Nat → ArD} {on : Nat → Bool} (h : Three W d on) {i j : Nat} (hi : i < 3) (hj : j < 3) (hoi : on i = true) (hoj : on j = true) {gwa' gfa' : Nat} {la' ls' : List Ob}
    (hP : Pair W' (d i).g gwa' gfa' (d i).sz la' (d j).g (if decide (i = j) then gwa' else (d j).gw) (if decide (i = j) then gfa' else (d j).gf) (d j).sz ls' (decide (i = j)))
    (h1 : gwa' = (d i).gw ∨ W.heap.size ≤ gwa') (h2 : gfa' = (d i).gf ∨ W.heap.size ≤ gfa') (hu : Upd (fun b => three_ (d i).g (d i).gw (d i).gf b ∨ three_ (d j).g (d j).gw (d j).gf b) W W') :
    Three W' (if i = j then putD d i ⟨(d i).g, gwa', gfa', (d i).sz, la'⟩ else putD (putD d i ⟨(d i).g, gwa', gfa', (d i).sz, la'⟩) j ⟨(d j).g, (d j).gw, (d j).gf, (d j).sz, ls'⟩) on := by
  by_cases hij : i = j
  · subst hij
    rw [if_pos rfl]
    exact h.step hi hoi hP.A h1 h2 (hu.mono (fun b hb => by rcases hb with hb | hb <;> exact hb))
  · rw [if_neg hij]
    simp only [hij, decide_false, Bool.false_eq_true, if_false] at hP
    have hS := hP.S
    have hR : Sep (d i).g gwa' gfa' (d j).g (d j).gw (d j).gf := hP.R
    have key : ∀ k, k < 3 → k ≠ i → on k = true → (⟨(d i).g, gwa', gfa', (d i).sz, la'⟩ : ArD).sep (d k) := by
      intro k hk hne hok
      have hs := h.sep i k hi hk (fun h => hne h.symm) hoi hok
      have hlt := ArD.lt (h.at_ k hk hok)
      rintro b (rfl | rfl | rfl) hb
      · exact hs _ (.inl rfl) hb
      · rcases h1 with h1 | h1
        · exact hs _ (.inr (.inl h1)) hb
        · have := hlt _ hb; omega
      · rcases h2 with h2 | h2
        · exact hs _ (.inr (.inr h2)) hb
        · have := hlt _ hb; omega
    have blocks : ∀ k, (putD (putD d i ⟨(d i).g, gwa', gfa', (d i).sz, la'⟩) j ⟨(d j).g, (d j).gw, (d j).gf, (d j).sz, ls'⟩ k).blk = (putD d i ⟨(d i).g, gwa', gfa', (d i).sz, la'⟩ k).blk := by
      intro k
      by_cases hkj : k = j
      · subst hkj; rw [putD_self, putD_other _ _ _ _ (fun h => hij h.symm)]; rfl
      · rw [putD_other _ _ _ _ hkj]
    have sepd : ∀ a b, a < 3 → b < 3 → a ≠ b → on a = true → on b = true → (putD d i ⟨(d i).g, gwa', gfa', (d i).sz, la'⟩ a).sep (putD d i ⟨(d i).g, gwa', gfa', (d i).sz, la'⟩ b) := by
      intro a b ha hb hab hoa hob
      by_cases hai : a = i
      · subst hai
        rw [putD_self, putD_other _ _ _ _ (fun h => hab h.symm)]
        exact key b hb (fun h => hab h.symm) hob
      · rw [putD_other _ _ _ _ hai]
        by_cases hbi : b = i
        · subst hbi
          rw [putD_self]
          exact sep_symm (key a ha hai hoa)
        · rw [putD_other _ _ _ _ hbi]
          exact h.sep a b ha hb hab hoa hob
    refine ⟨fun k hk hok => ?_, fun a b ha hb hab hoa hob => ?_⟩
    · by_cases hkj : k = j
      · subst hkj; rw [putD_self]; exact hS
      · rw [putD_other _ _ _ _ hkj]
        by_cases hki : k = i
        · subst hki; rw [putD_self]; exact hP.A
        · rw [putD_other _ _ _ _ hki]
          refine ArD.upd (h.at_ k hk hok) hu (fun b hb hb2 => ?_)
          rcases hb2 with hb2 | hb2
          · exact h.sep k i hk hi hki hok hoi b hb hb2
          · exact h.sep k j hk hj hkj hok hoj b hb hb2
    · intro x hx hx2
      have e1 := congrFun (blocks a) x
      have e2 := congrFun (blocks b) x
      exact sepd a b ha hb hab hoa hob x (e1.mp hx) (e2.mp hx2)
end Go.Proofs.Ytgjcffjicbmkhaa.ArQ
end

section
namespace Go.Proofs.Ytgjcffjicbmkhaa.GenN
open Go Go.RowKit Go.Proofs.YtgjcffjicbmkhaaW.PrintWords Go.Proofs.YtgjcffjicbmkhaaW.PrintLast Go.Proofs.YtgjcffjicbmkhaaW.PrintMore Go.Proofs.Ytgjcffjicbmkhaa.RowU Go.Proofs.Ytgjcffjicbmkhaa.ArS Go.Proofs.Ytgjcffjicbmkhaa.ArM Go.Proofs.Ytgjcffjicbmkhaa.GenM
set_option linter.unusedVariables false
set_option maxRecDepth 100000
def Grew (T : TypeId) (w w' : World) (v v' : Value) (l : List Value) (y : Value) : Prop :=
  (∃ g cap, v = .slice (some ⟨g, 0, none⟩) l.length cap ∧ v' = .slice (some ⟨g, 0, none⟩) (l.length + 1) cap ∧ GenAt T w' g cap (l ++ [y]) ∧ Upd (fun b => b = g) w w') ∨
  (∃ g cap, v' = .slice (some ⟨g, 0, none⟩) (l.length + 1) cap ∧ w.heap.size ≤ g ∧ GenAt T w' g cap (l ++ [y]) ∧ Below w.heap.size w w')
theorem _root_.Go.Proofs.Ytgjcffjicbmkhaa.GenM.GenAt.of_gv {T : TypeId} {W : World} {g n cap : Nat} {l : List Value} (h : GV T W (.slice (some ⟨g, 0, none⟩) n cap) l) : GenAt T W g cap l ∧ n = l.length := by
  rcases h with ⟨h, _⟩ | ⟨g', c', h, h2⟩
  · cases h
  · simp only [Value.slice.injEq, Option.some.injEq, Addr.mk.injEq, and_true] at h
    obtain ⟨rfl, rfl, rfl⟩ := h
    exact ⟨h2, rfl⟩
theorem oper_gen2 {o : Oper} {a : Act} {K : Act → World → Prop} {Q : Exit → Act → World → Prop} (w : World) (s x : Operand) (t T : TypeId)
    (hop : o.op = Op.call { callee := Callee.builtin Builtin.append, args := #[s, x], argTypes := #[t, t] })
    (ht : Try.prog.underlying t = some (.slice T)) (z : Value) (by_ : Nat) (hi : (Try.prog.info? T).map (fun i => (i.zero, i.size, i.bytes)) = some (some z, 1, by_)) (hz : z.cells.size = 1) (hby : by_ ≤ 100)
    (v : Value) (l : List Value) (hs : a.eval s = v) (hv : GV T w v l) (ad : Addr) (y : Value) (hx : a.eval x = .slice (some ad) 1 1) (hc : w.cell? ad = some y) (h1 : y.oneCell' = true) (hb : l.length ≤ 100000000)
    (hK : ∀ v' w', Grew T w w' v v' l y → K (a.put o.dst v') w') :
    Oper.wp Try.prog o a w K Q := by
  obtain ⟨i, hi', hz'⟩ := Option.map_eq_some_iff.1 hi
  simp only [Prod.mk.injEq] at hz'
  obtain ⟨z0, z1, z2⟩ := hz'
  have hnews : ∀ j u, ([y] : List Value)[j]? = some u → w.cell? (ad.add j) = some u := by
    intro j u hu
    cases j with
    | zero =>
      simp at hu
      subst hu
      have : ad.add 0 = ad := rfl
      rw [this]; exact hc
    | succ j => simp at hu
  have h1' : ∀ u ∈ [y], u.oneCell' = true := fun u hu => by rw [List.mem_singleton.1 hu]; exact h1
  have hm := Nat.mul_le_mul_left (l.length + 1) hby
  have newv : ∀ (v' : Value) (w' : World), GV T w' v' (l ++ [y]) → (∀ k, v'.ownBlock = some k → w.heap.size ≤ k) → ∃ g cap, v' = .slice (some ⟨g, 0, none⟩) (l.length + 1) cap ∧ w.heap.size ≤ g ∧ GenAt T w' g cap (l ++ [y]) := by
    intro v' w' r1 r2
    rcases r1 with ⟨_, h⟩ | ⟨g, cap, rfl, h⟩
    · simp at h
    · exact ⟨g, cap, by rw [List.length_append, List.length_singleton], r2 g rfl, h⟩
  rcases hv with ⟨rfl, rfl⟩ | ⟨g, cap, rfl, hg'⟩
  · obtain ⟨v', w', hrun, ho, hgr, _⟩ := run_append_own (P := Try.prog) w w.heap.size t o.type T i z 1 by_ ht hi' z0 z1 z2 hz (by decide) (.slice none 0 0) 0 [] (World.ownsRow_nil w _ T 1) ad 1 1 [y] (by simp) hnews h1' (by decide) (by simp; omega) (Nat.le_refl _)
    obtain ⟨r1, r2⟩ := GV.of_own ho (by simp)
    obtain ⟨g, cap, e1, e2, e3⟩ := newv v' w' r1 r2
    unfold Oper.wp
    simp [execOp, hop, resolve, invoke, builtin, hs, hx, hrun, Result.andThen]
    exact hK v' w' (.inr ⟨g, cap, e1, e2, e3, (Upd.of_grown (S := fun _ => False) hgr (fun k hk => by cases hk)).below _ (Nat.le_refl _) (fun _ h => h.elim)⟩)
  · have hlt := hg'.lt
    have hget := fun j x hx => hg'.get j x hx
    obtain ⟨B, b1, b2, b3, hown⟩ := GV.own (.inr ⟨g, cap, rfl, hg'⟩ : GV T w (.slice (some ⟨g, 0, none⟩) l.length cap) l)
    by_cases hr : l.length + 1 ≤ cap
    · obtain ⟨w', hrun, hown', hgr⟩ := run_append_fits (P := Try.prog) w B t o.type T i 1 ht hi' z1 g l.length cap l hown ad 1 1 [y] (by simp) hnews h1' hr
      obtain ⟨r1, r2⟩ := GV.of_own hown' (by simp)
      unfold Oper.wp
      simp [execOp, hop, resolve, invoke, builtin, hs, hx, hrun, Result.andThen]
      exact hK _ w' (.inl ⟨g, cap, rfl, rfl, (GenAt.of_gv r1).1, Upd.of_grown hgr (fun k hk => (Option.some.inj hk).symm)⟩)
    · obtain ⟨v', w', hrun, hown', hgr⟩ := run_append_arg_grows (P := Try.prog) w t o.type T i z 1 by_ ht hi' z0 z1 z2 hz (by decide) ⟨g, 0, none⟩ l.length cap l (by simp) (by
        intro j u hu
        have := hget j u hu
        simpa [Addr.add_lit] using this) ad 1 1 [y] (by simp) hnews (by omega) (by unfold maxLen; omega) (by omega)
      obtain ⟨r1, r2⟩ := GV.of_own hown' (by simp)
      obtain ⟨g2, cap2, e1, e2, e3⟩ := newv v' w' r1 r2
      unfold Oper.wp
      simp [execOp, hop, resolve, invoke, builtin, hs, hx, hrun, Result.andThen]
      exact hK v' w' (.inr ⟨g2, cap2, e1, e2, e3, (Upd.of_grown (S := fun _ => False) hgr (fun k hk => by cases hk)).below _ (Nat.le_refl _) (fun _ h => h.elim)⟩)
theorem wpList_gen2 {ops : Array Oper} {rest : List Oper} {o : Oper} {a : Act} {Q : Exit → Act → World → Prop} (w : World) (hg : o.guard = none) (s x : Operand) (t T : TypeId)
    (hop : o.op = Op.call { callee := Callee.builtin Builtin.append, args := #[s, x], argTypes := #[t, t] })
    (ht : Try.prog.underlying t = some (.slice T)) (z : Value) (by_ : Nat) (hi : (Try.prog.info? T).map (fun i => (i.zero, i.size, i.bytes)) = some (some z, 1, by_)) (hz : z.cells.size = 1) (hby : by_ ≤ 100)
    (v : Value) (l : List Value) (hs : a.eval s = v) (hv : GV T w v l) (ad : Addr) (y : Value) (hx : a.eval x = .slice (some ad) 1 1) (hc : w.cell? ad = some y) (h1 : y.oneCell' = true) (hb : l.length ≤ 100000000)
    (hK : ∀ v' w', Grew T w w' v v' l y → wpList Try.prog ops Q rest (a.put o.dst v') w') :
    wpList Try.prog ops Q (o :: rest) a w :=
  wpList_plain hg fun K hK' => oper_gen2 w s x t T hop ht z by_ hi hz hby v l hs hv ad y hx hc h1 hb (fun v' w' r => hK' _ _ (hK v' w' r))
theorem Grew.gv {T : TypeId} {w w' : World} {v v' : Value} {l : List Value} {y : Value} (h : Grew T w w' v v' l y) : GV T w' v' (l ++ [y]) := by
  rcases h with ⟨g, cap, _, rfl, h, _⟩ | ⟨g, cap, rfl, _, h, _⟩
  · exact .inr ⟨g, cap, by rw [List.length_append, List.length_singleton], h⟩
  · exact .inr ⟨g, cap, by rw [List.length_append, List.length_singleton], h⟩
theorem Grew.upd {T : TypeId} {w w' : World} {v v' : Value} {l : List Value} {y : Value} (h : Grew T w w' v v' l y) : Upd (fun k => v.ownBlock = some k) w w' := by
  rcases h with ⟨g, cap, rfl, _, _, h⟩ | ⟨_, _, _, _, _, h⟩
  · exact h.mono (fun b hb => by subst hb; rfl)
  · exact Upd.of_below h
theorem Grew.block {T : TypeId} {w w' : World} {v v' : Value} {l : List Value} {y : Value} (h : Grew T w w' v v' l y) (k : Nat) (hk : v'.ownBlock = some k) : v.ownBlock = some k ∨ w.heap.size ≤ k := by
  rcases h with ⟨g, cap, rfl, rfl, _, _⟩ | ⟨g, cap, rfl, h, _, _⟩
  · exact .inl hk
  · obtain rfl := Option.some.inj hk; exact .inr h
theorem Grew.form {T : TypeId} {w w' : World} {v v' : Value} {l : List Value} {y : Value} (h : Grew T w w' v v' l y) : ∃ g cap, v' = .slice (some ⟨g, 0, none⟩) (l.length + 1) cap := by
  rcases h with ⟨g, cap, _, rfl, _, _⟩ | ⟨g, cap, rfl, _, _, _⟩
  · exact ⟨g, cap, rfl⟩
  · exact ⟨g, cap, rfl⟩
theorem gen_set {T : TypeId} {W : World} {g cap : Nat} {l : List Value} (h : GenAt T W g cap l) (j : Nat) (hj : j < l.length) (y : Value) : GenAt T (W.setCell ⟨g, j, none⟩ y) g cap (l.set j y) := by
  obtain ⟨cur, h1, h2, h3, h5, h4⟩ := h
  refine ⟨cur.set j y, ?_, by simpa using h2, by simpa using h3, h5, ?_⟩
  · have := blk_set h1 j y
    rw [List.setIfInBounds_toArray] at this
    exact this
  · rw [List.length_set, List.take_set, h4]
theorem gen_frozen {T : TypeId} {W : World} {g cap : Nat} {l : List Value} (h : GenAt T W g cap l) (j : Nat) : W.frozen? ⟨g, j, none⟩ = false := by
  obtain ⟨cur, h1, h2⟩ := h
  exact blk_frozen h1 j
end Go.Proofs.Ytgjcffjicbmkhaa.GenN
end

section
namespace Go.Proofs.Ytgjcffjicbmkhaa.GenS
open Go Go.RowKit Go.Proofs.YtgjcffjicbmkhaaW.PrintWords Go.Proofs.YtgjcffjicbmkhaaW.PrintLast Go.Proofs.YtgjcffjicbmkhaaW.PrintMore Go.Proofs.Ytgjcffjicbmkhaa.RowU Go.Proofs.Ytgjcffjicbmkhaa.ArM Go.Proofs.Ytgjcffjicbmkhaa.GenM Go.Proofs.Ytgjcffjicbmkhaa.GenN
set_option linter.unusedVariables false
set_option maxRecDepth 100000
theorem own_slice {w : World} {T : TypeId} {sz n : Nat} {v : Value} {l : List Value} (h : w.ownsRow 0 T sz v n l) : ∃ A c, v = .slice A n c ∧ n ≤ c := by
  obtain ⟨_, ⟨rfl, rfl⟩ | ⟨g, cap, cur, rfl, _, _, h2, _⟩⟩ := h
  · exact ⟨none, 0, rfl, Nat.le_refl _⟩
  · exact ⟨_, cap, rfl, h2⟩
theorem own_lt {w : World} {T : TypeId} {sz n : Nat} {v : Value} {l : List Value} (h : w.ownsRow 0 T sz v n l) (b : Nat) (hb : v.ownBlock = some b) : b < w.heap.size := (h.lt b hb).2
theorem own_get {w : World} {T : TypeId} {sz n : Nat} {v : Value} {l : List Value} (h : w.ownsRow 0 T sz v n l) {j : Nat} {u : Value} (hj : l[j]? = some u) :
    ∃ g cap cur, v = .slice (some ⟨g, 0, none⟩) n cap ∧ w.heap[g]? = some (.cells cur T (0, 0)) ∧ w.cell? ⟨g, j, none⟩ = some u ∧ n ≤ cap ∧ cap ≤ maxLen := by
  obtain ⟨h0, ⟨rfl, rfl⟩ | ⟨g, cap, cur, rfl, _, hg, h2, h3, h4, h5⟩⟩ := h
  · rw [Nat.zero_mul] at h0
    rw [List.eq_nil_of_length_eq_zero h0] at hj
    simp at hj
  · refine ⟨g, cap, cur, rfl, hg, ?_, h2, h3⟩
    rw [blk_cell hg]
    rw [← h5, List.getElem?_take] at hj
    split at hj
    · simpa using hj
    · cases hj
theorem own_upd {S : Nat → Prop} {w w' : World} {T : TypeId} {sz n : Nat} {v : Value} {l : List Value} (h : w.ownsRow 0 T sz v n l) (hu : Upd S w w') (hS : ∀ b, v.ownBlock = some b → ¬ S b) : w'.ownsRow 0 T sz v n l := by
  obtain ⟨h0, h | ⟨g, cap, cur, rfl, hb, hg, h2⟩⟩ := h
  · exact ⟨h0, .inl h⟩
  · exact ⟨h0, .inr ⟨g, cap, cur, rfl, hb, blk_upd hg hu (hS g rfl), h2⟩⟩
theorem own_set {w : World} {T : TypeId} {sz n : Nat} {v : Value} {l : List Value} (h : w.ownsRow 0 T sz v n l) {g : Nat} (hg : v.ownBlock = some g) {j : Nat} (hj : j < l.length) (y : Value) : (w.setCell ⟨g, j, none⟩ y).ownsRow 0 T sz v n (l.set j y) := by
  obtain ⟨h0, ⟨rfl, _⟩ | ⟨g', cap, cur, rfl, hb, hg', h2, h3, h4, h5⟩⟩ := h
  · cases hg
  · obtain rfl := Option.some.inj hg
    refine ⟨by rw [List.length_set]; exact h0, .inr ⟨g', cap, cur.setIfInBounds j y, rfl, hb, blk_set hg' j y, h2, h3, by simpa using h4, ?_⟩⟩
    rw [← h5, Array.toList_setIfInBounds, List.take_set]
theorem oper_rows {o : Oper} {a : Act} {K : Act → World → Prop} {Q : Exit → Act → World → Prop} (w : World) (s x : Operand) (t T : TypeId)
    (hop : o.op = Op.call { callee := Callee.builtin Builtin.append, args := #[s, x], argTypes := #[t, t] })
    (ht : Try.prog.underlying t = some (.slice T)) (z : Value) (by_ sz : Nat) (hi : (Try.prog.info? T).map (fun i => (i.zero, i.size, i.bytes)) = some (some z, sz, by_)) (hz : z.cells.size = sz) (hsz : 0 < sz) (hby : by_ ≤ 1000)
    (v : Value) (n : Nat) (l : List Value) (hs : a.eval s = v) (hv : w.ownsRow 0 T sz v n l) (ad : Addr) (ys : List Value) (hl : ys.length = 1 * sz) (hx : a.eval x = .slice (some ad) 1 1)
    (hc : ∀ j u, ys[j]? = some u → w.cell? (ad.add j) = some u) (h1 : ∀ u ∈ ys, u.oneCell' = true) (hb : n ≤ 100000000)
    (hK : ∀ g cap w', w'.ownsRow 0 T sz (.slice (some ⟨g, 0, none⟩) (n + 1) cap) (n + 1) (l ++ ys) → (v.ownBlock = some g ∨ w.heap.size ≤ g) → Upd (fun b => v.ownBlock = some b) w w' → K (a.put o.dst (.slice (some ⟨g, 0, none⟩) (n + 1) cap)) w') :
    Oper.wp Try.prog o a w K Q := by
  obtain ⟨i, hi', hz'⟩ := Option.map_eq_some_iff.1 hi
  simp only [Prod.mk.injEq] at hz'
  obtain ⟨z0, z1, z2⟩ := hz'
  have hm := Nat.mul_le_mul_left (n + 1) hby
  have form : ∀ {base : Nat} {v' : Value} {w' : World} {l' : List Value}, w'.ownsRow base T sz v' (n + 1) l' → ∃ g cap, v' = .slice (some ⟨g, 0, none⟩) (n + 1) cap ∧ base ≤ g ∧ w'.ownsRow 0 T sz (.slice (some ⟨g, 0, none⟩) (n + 1) cap) (n + 1) l' := by
    rintro base v' w' l' ⟨h0, ⟨_, h⟩ | ⟨g, cap, cur, rfl, hb, h⟩⟩
    · omega
    · exact ⟨g, cap, rfl, hb, h0, .inr ⟨g, cap, cur, rfl, Nat.zero_le _, h⟩⟩
  obtain ⟨hv0, ⟨rfl, rfl⟩ | ⟨g, cap, cur, rfl, hbb, hg, h2, h3, h4, h5⟩⟩ := id hv
  · obtain rfl : l = [] := by rw [Nat.zero_mul] at hv0; exact List.eq_nil_of_length_eq_zero hv0
    obtain ⟨v', w', hrun, ho, hgr, _⟩ := run_append_own (P := Try.prog) w w.heap.size t o.type T i z sz by_ ht hi' z0 z1 z2 hz hsz (.slice none 0 0) 0 [] (World.ownsRow_nil w _ T sz) ad 1 1 ys hl hc h1 (by decide) (by omega) (Nat.le_refl _)
    obtain ⟨g, cap, rfl, e2, e3⟩ := form ho
    unfold Oper.wp
    simp [execOp, hop, resolve, invoke, builtin, hs, hx, hrun, Result.andThen]
    exact hK g cap w' e3 (.inr e2) (Upd.of_grown hgr (fun k hk => by cases hk))
  · by_cases hr : n + 1 ≤ cap
    · obtain ⟨w', hrun, hown', hgr⟩ := run_append_fits (P := Try.prog) w 0 t o.type T i sz ht hi' z1 g n cap l hv ad 1 1 ys hl hc h1 hr
      unfold Oper.wp
      simp [execOp, hop, resolve, invoke, builtin, hs, hx, hrun, Result.andThen]
      exact hK g cap w' hown' (.inl rfl) (Upd.of_grown hgr (fun k hk => by obtain rfl := Option.some.inj hk; rfl))
    · obtain ⟨v', w', hrun, hown', hgr⟩ := run_append_arg_grows (P := Try.prog) w t o.type T i z sz by_ ht hi' z0 z1 z2 hz hsz ⟨g, 0, none⟩ n cap l hv0 (by
        intro j u hu
        obtain ⟨g', cap', cur', e, _, hq, _⟩ := own_get hv hu
        simp only [Value.slice.injEq, Option.some.injEq, Addr.mk.injEq, and_true] at e
        obtain ⟨rfl, _⟩ := e
        simpa [Addr.add_lit] using hq) ad 1 1 ys hl hc (by omega) (by unfold maxLen; omega) (by omega)
      obtain ⟨g2, cap2, rfl, e2, e3⟩ := form hown'
      unfold Oper.wp
      simp [execOp, hop, resolve, invoke, builtin, hs, hx, hrun, Result.andThen]
      exact hK g2 cap2 w' e3 (.inr e2) ((Upd.of_grown (S := fun _ => False) hgr (fun k hk => by cases hk)).mono (fun _ h => h.elim))
theorem wpList_rows {ops : Array Oper} {rest : List Oper} {o : Oper} {a : Act} {Q : Exit → Act → World → Prop} (w : World) (hg : o.guard = none) (s x : Operand) (t T : TypeId)
    (hop : o.op = Op.call { callee := Callee.builtin Builtin.append, args := #[s, x], argTypes := #[t, t] })
    (ht : Try.prog.underlying t = some (.slice T)) (z : Value) (by_ sz : Nat) (hi : (Try.prog.info? T).map (fun i => (i.zero, i.size, i.bytes)) = some (some z, sz, by_)) (hz : z.cells.size = sz) (hsz : 0 < sz) (hby : by_ ≤ 1000)
    (v : Value) (n : Nat) (l : List Value) (hs : a.eval s = v) (hv : w.ownsRow 0 T sz v n l) (ad : Addr) (ys : List Value) (hl : ys.length = 1 * sz) (hx : a.eval x = .slice (some ad) 1 1)
    (hc : ∀ j u, ys[j]? = some u → w.cell? (ad.add j) = some u) (h1 : ∀ u ∈ ys, u.oneCell' = true) (hb : n ≤ 100000000)
    (hK : ∀ g cap w', w'.ownsRow 0 T sz (.slice (some ⟨g, 0, none⟩) (n + 1) cap) (n + 1) (l ++ ys) → (v.ownBlock = some g ∨ w.heap.size ≤ g) → Upd (fun b => v.ownBlock = some b) w w' → wpList Try.prog ops Q rest (a.put o.dst (.slice (some ⟨g, 0, none⟩) (n + 1) cap)) w') :
    wpList Try.prog ops Q (o :: rest) a w :=
  wpList_plain hg fun K hK' => oper_rows w s x t T hop ht z by_ sz hi hz hsz hby v n l hs hv ad ys hl hx hc h1 hb (fun g cap w' r1 r2 r3 => hK' _ _ (hK g cap w' r1 r2 r3))
end Go.Proofs.Ytgjcffjicbmkhaa.GenS
end

section
namespace Go.Proofs.Ytgjcffjicbmkhaa.BokA
open Go Go.RowKit Go.Proofs.YtgjcffjicbmkhaaW.PrintWords Go.Proofs.YtgjcffjicbmkhaaW.PrintLast Go.Proofs.YtgjcffjicbmkhaaW.PrintMore Go.Proofs.Ytgjcffjicbmkhaa.RowU Go.Proofs.Ytgjcffjicbmkhaa.ArS Go.Proofs.Ytgjcffjicbmkhaa.ArM Go.Proofs.Ytgjcffjicbmkhaa.GenM Go.Proofs.Ytgjcffjicbmkhaa.GenN
set_option linter.unusedVariables false
set_option maxRecDepth 100000
structure Hd (W : World) (g off : Nat) (c : Nat → Value) : Prop where
  blk : ∃ cur T, W.heap[g]? = some (.cells cur T (0, 0))
  cell : ∀ j, j < 33 → W.cell? ⟨g, off + j, none⟩ = some (c j)
def putC (c : Nat → Value) (j : Nat) (v : Value) : Nat → Value := fun i => if i = j then v else c i
theorem putC_self (c : Nat → Value) (j : Nat) (v : Value) : putC c j v j = v := by simp [putC]
theorem putC_other (c : Nat → Value) {i j : Nat} (v : Value) (h : i ≠ j) : putC c j v i = c i := by simp [putC, h]
theorem Hd.upd {S : Nat → Prop} {W W' : World} {g off : Nat} {c : Nat → Value} (h : Hd W g off c) (hu : Upd S W W') (hg : ¬ S g) : Hd W' g off c := by
  obtain ⟨cur, T, hb⟩ := h.blk
  have hb' := blk_upd hb hu hg
  refine ⟨⟨cur, T, hb'⟩, fun j hj => ?_⟩
  have := h.cell j hj
  rw [blk_cell hb (off + j)] at this
  rw [blk_cell hb' (off + j)]
  exact this
theorem Hd.put {W : World} {g off : Nat} {c : Nat → Value} (h : Hd W g off c) (j : Nat) (hj : j < 33) (v : Value) : Hd (W.setCell ⟨g, off + j, none⟩ v) g off (putC c j v) := by
  obtain ⟨cur, T, hb⟩ := h.blk
  have hb' := blk_set hb (off + j) v
  refine ⟨⟨_, T, hb'⟩, fun i hi => ?_⟩
  rw [blk_cell hb' (off + i)]
  have h1 := h.cell i hi
  rw [blk_cell hb (off + i)] at h1
  by_cases hij : i = j
  · subst hij
    have hlt : off + i < cur.size := by
      rcases Nat.lt_or_ge (off + i) cur.size with h2 | h2
      · exact h2
      · rw [Array.getElem?_eq_none h2] at h1; cases h1
    rw [putC_self]
    simp [hlt]
  · rw [putC_other _ _ hij, ← h1]
    rw [Array.getElem?_setIfInBounds_ne (by omega)]
theorem set_keep {W : World} {g k i : Nat} {v : Value} (h : ∃ cur T, W.heap[g]? = some (.cells cur T (0, 0))) (hne : i ≠ k) : (W.setCell ⟨g, k, none⟩ v).cell? ⟨g, i, none⟩ = W.cell? ⟨g, i, none⟩ := by
  obtain ⟨cur, T, hb⟩ := h
  rw [blk_cell (blk_set hb k v) i, blk_cell hb i, Array.getElem?_setIfInBounds_ne (by omega)]
theorem upd_keep {S : Nat → Prop} {W W' : World} {g i : Nat} (h : ∃ cur T, W.heap[g]? = some (.cells cur T (0, 0))) (hu : Upd S W W') (hg : ¬ S g) : W'.cell? ⟨g, i, none⟩ = W.cell? ⟨g, i, none⟩ := by
  obtain ⟨cur, T, hb⟩ := h
  rw [blk_cell (blk_upd hb hu hg) i, blk_cell hb i]
def Own : Type := Nat → Option (Nat × Nat)
def Own.none_ : Own := fun _ => none
def Own.put (ow : Own) (v : Value) (t : Nat × Nat) : Own := fun b => if v.ownBlock = some b then some t else ow b
def Own.le (ow ow' : Own) : Prop := ∀ b t, ow b = some t → ow' b = some t
theorem Own.le.refl (ow : Own) : ow.le ow := fun _ _ h => h
theorem Own.le.trans {a b c : Own} (h : a.le b) (k : b.le c) : a.le c := fun x t hx => k x t (h x t hx)
theorem Own.put_le {ow : Own} {v : Value} {t : Nat × Nat} (h : ∀ b, v.ownBlock = some b → ow b = none ∨ ow b = some t) : ow.le (ow.put v t) := by
  intro b t' hb
  unfold Own.put
  by_cases hv : v.ownBlock = some b
  · rw [if_pos hv]
    rcases h b hv with h1 | h1
    · rw [hb] at h1; cases h1
    · rw [hb] at h1; exact h1.symm
  · rw [if_neg hv]; exact hb
theorem Own.put_at {ow : Own} {v : Value} {t : Nat × Nat} {b : Nat} (h : v.ownBlock = some b) : ow.put v t b = some t := by unfold Own.put; rw [if_pos h]
theorem Own.put_ne {ow : Own} {v : Value} {t : Nat × Nat} {b : Nat} (h : ow.put v t b ≠ none) : ow b ≠ none ∨ v.ownBlock = some b := by
  unfold Own.put at h
  by_cases hv : v.ownBlock = some b
  · exact .inr hv
  · rw [if_neg hv] at h; exact .inl h
structure Ent where
  v : Value
  m : Nat
  n : Nat
def mkL (el : Nat → Nat → Value) (m n : Nat) : List Value := (List.range n).map (el m)
theorem mkL_len (el : Nat → Nat → Value) (m n : Nat) : (mkL el m n).length = n := by simp [mkL]
theorem mkL_succ (el : Nat → Nat → Value) (m n : Nat) : mkL el m (n + 1) = mkL el m n ++ [el m n] := by simp [mkL, List.range_succ]
theorem mkL_get (el : Nat → Nat → Value) (m : Nat) {n k : Nat} (h : k < n) : (mkL el m n)[k]? = some (el m k) := by simp [mkL, h]
theorem mkL_take (el : Nat → Nat → Value) (m : Nat) {n k : Nat} (h : k ≤ n) : (mkL el m n).take k = mkL el m k := by
  unfold mkL
  rw [← List.map_take, List.take_range, Nat.min_eq_left h]
def vsOf (es : List Ent) : List Value := es.map Ent.v
def msOf (es : List Ent) : List Value := es.map fun e => .int .i64 (e.m : Int)
theorem vsOf_get {es : List Ent} {i : Nat} {e : Ent} (h : es[i]? = some e) : (vsOf es)[i]? = some e.v := by simp [vsOf, h]
theorem msOf_get {es : List Ent} {i : Nat} {e : Ent} (h : es[i]? = some e) : (msOf es)[i]? = some (.int .i64 (e.m : Int)) := by simp [msOf, h]
theorem vsOf_snoc (es : List Ent) (e : Ent) : vsOf (es ++ [e]) = vsOf es ++ [e.v] := by simp [vsOf]
theorem msOf_snoc (es : List Ent) (e : Ent) : msOf (es ++ [e]) = msOf es ++ [.int .i64 (e.m : Int)] := by simp [msOf]
theorem vsOf_len (es : List Ent) : (vsOf es).length = es.length := by simp [vsOf]
theorem msOf_len (es : List Ent) : (msOf es).length = es.length := by simp [msOf]
structure Tb (k : Nat) (Tt Te : TypeId) (el : Nat → Nat → Value) (W : World) (ow : Own) (v vo : Value) (es : List Ent) (a U : Nat) : Prop where
  tab : GV Tt W v (vsOf es)
  of_ : GV 3 W vo (msOf es)
  tabT : ∀ b, v.ownBlock = some b → ow b = some (k, 0)
  ofT : ∀ b, vo.ownBlock = some b → ow b = some (k, 1)
  ent : ∀ e ∈ es, GV Te W e.v (mkL el e.m e.n) ∧ e.n ≤ 6000000 ∧ e.m ≤ 1000000000000000
  entT : ∀ i e b, es[i]? = some e → e.v.ownBlock = some b → ow b = some (k, if a ≤ i then 4 + i else 2)
  al : a ≤ es.length
  bnd : 120 * a + 1200 * (es.length - a) ≤ U
  short : ∀ j e, es[j]? = some e → a ≤ j → e.n ≤ 5900000
theorem Tb.move {k : Nat} {Tt Te : TypeId} {el : Nat → Nat → Value} {S : Nat → Prop} {W W' : World} {ow ow' : Own} {v vo : Value} {es : List Ent} {a U U' : Nat} (h : Tb k Tt Te el W ow v vo es a U) (hu : Upd S W W') (hS : ∀ b t, ow b = some (k, t) → ¬ S b) (ho : ow.le ow') (hU : U ≤ U') : Tb k Tt Te el W' ow' v vo es a U' := by
  refine ⟨h.tab.upd hu (fun b hb => hS b _ (h.tabT b hb)), h.of_.upd hu (fun b hb => hS b _ (h.ofT b hb)), fun b hb => ho _ _ (h.tabT b hb), fun b hb => ho _ _ (h.ofT b hb), fun e he => ⟨(h.ent e he).1.upd hu (fun b hb => ?_), (h.ent e he).2⟩, fun i e b hi hb => ho _ _ (h.entT i e b hi hb), h.al, Nat.le_trans h.bnd hU, h.short⟩
  obtain ⟨i, hi⟩ := List.getElem?_of_mem he
  exact hS b _ (h.entT i e b hi hb)
theorem Tb.push {k : Nat} {Tt Te : TypeId} {el : Nat → Nat → Value} {W W' : World} {S : Nat → Prop} {ow ow' : Own} {v vo v' vo' : Value} {es : List Ent} {a U U' : Nat} (h : Tb k Tt Te el W ow v vo es a U) {e : Ent}
    (hu : Upd S W W') (hS : ∀ b t, ow b = some (k, t) → 2 ≤ t → ¬ S b) (ho : ow.le ow') (h1 : GV Tt W' v' (vsOf es ++ [e.v])) (h2 : GV 3 W' vo' (msOf es ++ [.int .i64 (e.m : Int)]))
    (t1 : ∀ b, v'.ownBlock = some b → ow' b = some (k, 0)) (t2 : ∀ b, vo'.ownBlock = some b → ow' b = some (k, 1)) (h3 : GV Te W' e.v (mkL el e.m e.n)) (hn : e.n ≤ 5900000) (hm : e.m ≤ 1000000000000000)
    (t3 : ∀ b, e.v.ownBlock = some b → ow' b = some (k, 4 + es.length)) (hU : U + 1200 ≤ U') : Tb k Tt Te el W' ow' v' vo' (es ++ [e]) a U' := by
  refine ⟨by rw [vsOf_snoc]; exact h1, by rw [msOf_snoc]; exact h2, t1, t2, fun x hx => ?_, fun i x b hi hb => ?_, by rw [List.length_append]; have := h.al; omega, by have := h.bnd; have := h.al; rw [List.length_append, List.length_singleton]; omega, fun j x hj hj2 => ?_⟩
  · rcases List.mem_append.1 hx with hx | hx
    · refine ⟨(h.ent x hx).1.upd hu (fun b hb => ?_), (h.ent x hx).2⟩
      obtain ⟨i, hi⟩ := List.getElem?_of_mem hx
      exact hS b _ (h.entT i x b hi hb) (by split <;> omega)
    · rw [List.mem_singleton] at hx; subst hx; exact ⟨h3, by omega, hm⟩
  · by_cases hlt : i < es.length
    · rw [List.getElem?_append_left hlt] at hi
      exact ho _ _ (h.entT i x b hi hb)
    · have hil : i = es.length := by
        have := (List.getElem?_eq_some_iff.1 hi).1
        rw [List.length_append, List.length_singleton] at this
        omega
      subst hil
      rw [List.getElem?_append_right (Nat.le_refl _), Nat.sub_self] at hi
      obtain rfl : e = x := by simpa using hi
      rw [if_pos h.al]
      exact t3 b hb
  · by_cases hlt : j < es.length
    · rw [List.getElem?_append_left hlt] at hj
      exact h.short j x hj hj2
    · have hil : j = es.length := by
        have := (List.getElem?_eq_some_iff.1 hj).1
        rw [List.length_append, List.length_singleton] at this
        omega
      subst hil
      rw [List.getElem?_append_right (Nat.le_refl _), Nat.sub_self] at hj
      obtain rfl : e = x := by simpa using hj
      exact hn
structure BkS (W W' : World) (g off : Nat) (ow ow' : Own) (X : Nat → Prop) : Prop where
  upd : Upd (fun b => b = g ∨ ow b ≠ none ∨ X b) W W'
  own : ∀ b, ow' b ≠ none → ow b ≠ none ∨ X b ∨ W.heap.size ≤ b
  keep : ∀ j, (j < off ∨ off + 33 ≤ j) → W'.cell? ⟨g, j, none⟩ = W.cell? ⟨g, j, none⟩
theorem BkS.refl (W : World) (g off : Nat) (ow : Own) (X : Nat → Prop) : BkS W W g off ow ow X := ⟨Upd.refl _ W, fun b h => .inl h, fun _ _ => rfl⟩
theorem BkS.trans {W W1 W2 : World} {g off : Nat} {ow ow1 ow2 : Own} {X Y : Nat → Prop} (h : BkS W W1 g off ow ow1 X) (k : BkS W1 W2 g off ow1 ow2 Y) (hY : ∀ b, Y b → X b ∨ ow b ≠ none ∨ W.heap.size ≤ b) : BkS W W2 g off ow ow2 X := by
  refine ⟨h.upd.trans2 k.upd (fun b hb => ?_), fun b hb => ?_, fun j hj => (k.keep j hj).trans (h.keep j hj)⟩
  · rcases hb with rfl | hb | hb
    · exact .inl (.inl rfl)
    · rcases h.own b hb with h1 | h1 | h1
      · exact .inl (.inr (.inl h1))
      · exact .inl (.inr (.inr h1))
      · exact .inr h1
    · rcases hY b hb with h1 | h1 | h1
      · exact .inl (.inr (.inr h1))
      · exact .inl (.inr (.inl h1))
      · exact .inr h1
  · rcases k.own b hb with h1 | h1 | h1
    · exact h.own b h1
    · rcases hY b h1 with h2 | h2 | h2
      · exact .inr (.inl h2)
      · exact .inl h2
      · exact .inr (.inr h2)
    · exact .inr (.inr (Nat.le_trans h.upd.size h1))
def atN (m k : Nat) : Nat := if k % 2 = 0 then 1 + m % 251 else 1 + (7 * m + m / 251) % 251
def elB (m k : Nat) : Value := .int .u8 (atN m k : Int)
def wmN (m : Nat) : Nat := m * 1099511627776 % 18446744073709551616
def elW (m _k : Nat) : Value := .int .u64 (wmN m : Int)
def bkC (vB vBo : Value) (aB : Nat) (vW vWo : Value) (aW turn done used : Nat) : Nat → Value := fun j =>
  if j = 0 then vB else if j = 1 then vBo else if j = 2 then .int .i64 (aB : Int) else if j = 6 then vW else if j = 7 then vWo else if j = 8 then .int .i64 (aW : Int)
  else if j = 30 then .int .i64 (turn : Int) else if j = 31 then .int .i64 (done : Int) else if j = 32 then .int .i64 (used : Int) else if j % 3 = 2 then .int .i64 0 else .slice none 0 0
structure Bk (W : World) (g off : Nat) (ow : Own) (vB vBo : Value) (eB : List Ent) (aB : Nat) (vW vWo : Value) (eW : List Ent) (aW turn done used : Nat) : Prop where
  hd : Hd W g off (bkC vB vBo aB vW vWo aW turn done used)
  tB : Tb 0 67 5 elB W ow vB vBo eB aB used
  tW : Tb 2 34 36 elW W ow vW vWo eW aW used
  lt : ∀ b, ow b ≠ none → b < W.heap.size
  ng : ow g = none
  us : used ≤ 16777216
theorem Bk.move {W W' : World} {S : Nat → Prop} {g off : Nat} {ow : Own} {vB vBo : Value} {eB : List Ent} {aB : Nat} {vW vWo : Value} {eW : List Ent} {aW turn done used : Nat} (h : Bk W g off ow vB vBo eB aB vW vWo eW aW turn done used) (hu : Upd S W W') (hg : ¬ S g) (hS : ∀ b, ow b ≠ none → ¬ S b) : Bk W' g off ow vB vBo eB aB vW vWo eW aW turn done used :=
  ⟨h.hd.upd hu hg, h.tB.move hu (fun b t hb => hS b (by rw [hb]; simp)) (Own.le.refl _) (Nat.le_refl _), h.tW.move hu (fun b t hb => hS b (by rw [hb]; simp)) (Own.le.refl _) (Nat.le_refl _), fun b hb => Nat.lt_of_lt_of_le (h.lt b hb) hu.size, h.ng, h.us⟩
end Go.Proofs.Ytgjcffjicbmkhaa.BokA
end

section
namespace Go.Proofs.Ytgjcffjicbmkhaa.RfM
open Go Go.RowKit Go.Proofs.YtgjcffjicbmkhaaW.PrintWords Go.Proofs.YtgjcffjicbmkhaaW.PrintLast Go.Proofs.YtgjcffjicbmkhaaW.PrintMore Go.Proofs.Ytgjcffjicbmkhaa.RowU Go.Proofs.Ytgjcffjicbmkhaa.ArS Go.Proofs.Ytgjcffjicbmkhaa.ArM Go.Proofs.Ytgjcffjicbmkhaa.ArX Go.Proofs.Ytgjcffjicbmkhaa.ArT Go.Proofs.Ytgjcffjicbmkhaa.GenM Go.Proofs.Ytgjcffjicbmkhaa.GenN Go.Proofs.Ytgjcffjicbmkhaa.GenS Go.Proofs.Ytgjcffjicbmkhaa.BokA Go.Proofs.Ytgjcffjicbmkhaa.ArP
set_option linter.unusedVariables false
set_option maxRecDepth 100000
structure RO where
  o : Ob
  v : Value
def obs (es : List RO) : List Ob := es.map RO.o
def oc (at_ : Nat) (x : RO) : List Value := [.int .i64 (at_ : Int), .int .i64 (x.o.kind : Int), .int .i64 (x.o.refs : Int), x.v, .bool x.o.gone.isSome, .int .i64 ((x.o.gone.getD 0 : Nat) : Int)]
def ocs : Nat → List RO → List Value
  | _, [] => []
  | p, x :: es => oc p x ++ ocs (p + (1 + x.o.fields.length)) es
theorem used_cons (o : Ob) (l : List Ob) : used (o :: l) = used l + (1 + o.fields.length) := by
  simp [used, words, Ob.ws]; omega
theorem obs_get {es : List RO} {i : Nat} {x : RO} (h : es[i]? = some x) : (obs es)[i]? = some x.o := by simp [obs, h]
theorem obs_len (es : List RO) : (obs es).length = es.length := by simp [obs]
theorem obs_snoc (es : List RO) (x : RO) : obs (es ++ [x]) = obs es ++ [x.o] := by simp [obs]
theorem obs_set (es : List RO) (i : Nat) (x : RO) : obs (es.set i x) = (obs es).set i x.o := by simp [obs, List.map_set]
theorem ocs_len (es : List RO) : ∀ p, (ocs p es).length = es.length * 6 := by
  induction es with
  | nil => intro p; rfl
  | cons x es ih => intro p; simp only [ocs, List.length_append, ih, List.length_cons, oc]; simp only [List.length_nil]; omega
theorem ocs_get (es : List RO) : ∀ (p i j : Nat) (x : RO), es[i]? = some x → j < 6 → (ocs p es)[i * 6 + j]? = (oc (p + (place (obs es) i - 1)) x)[j]? := by
  induction es with
  | nil => intro p i j x h; simp at h
  | cons y es ih =>
    intro p i j x h hj
    cases i with
    | zero =>
      obtain rfl : y = x := by simpa using h
      have h1 : place (obs (y :: es)) 0 = 1 := rfl
      rw [h1]
      simp only [ocs, Nat.zero_mul, Nat.zero_add, Nat.sub_self, Nat.add_zero]
      rw [List.getElem?_append_left (by simp [oc]; omega)]
    | succ i =>
      have h2 : es[i]? = some x := by simpa using h
      have h3 : place (obs (y :: es)) (i + 1) = place (obs es) i + (1 + y.o.fields.length) := by
        unfold place obs
        simp only [List.map_cons, List.take_succ_cons, used_cons]
      have h4 := place_pos (obs es) i
      simp only [ocs]
      rw [List.getElem?_append_right (by simp [oc]; omega), show (i + 1) * 6 + j - (oc p y).length = i * 6 + j by simp [oc]; omega, ih _ i j x h2 hj, h3]
      congr 2
      omega
theorem ocs_snoc (es : List RO) (x : RO) : ∀ p, ocs p (es ++ [x]) = ocs p es ++ oc (p + (used (obs es) - 1)) x := by
  induction es with
  | nil => intro p; simp [ocs, obs, used_nil]
  | cons y es ih =>
    intro p
    have h4 := used_pos (obs es)
    simp only [List.cons_append, ocs, ih, List.append_assoc]
    congr 3
    simp only [obs, List.map_cons, used_cons] at h4 ⊢
    omega
theorem ocs_same {x' : RO} (es : List RO) : ∀ (p i : Nat) (x : RO), es[i]? = some x → (∀ q, oc q x' = oc q x) → x'.o.fields.length = x.o.fields.length → ocs p (es.set i x') = ocs p es := by
  induction es with
  | nil => intro p i x h; simp at h
  | cons y es ih =>
    intro p i x h h1 h2
    cases i with
    | zero =>
      obtain rfl : y = x := by simpa using h
      simp only [List.set_cons_zero, ocs, h1, h2]
    | succ i =>
      simp only [List.set_cons_succ, ocs]
      rw [ih _ i x (by simpa using h) h1 h2]
theorem ocs_went {t : Nat} (es : List RO) : ∀ (p i : Nat) (x : RO), es[i]? = some x → ocs p (es.set i ⟨Ob.went x.o t, x.v⟩) = ((ocs p es).set (i * 6 + 4) (.bool true)).set (i * 6 + 5) (.int .i64 (t : Int)) := by
  induction es with
  | nil => intro p i x h; simp at h
  | cons y es ih =>
    intro p i x h
    cases i with
    | zero =>
      obtain rfl : y = x := by simpa using h
      simp [ocs, oc, Ob.went]
    | succ i =>
      simp only [List.set_cons_succ, ocs]
      rw [ih _ i x (by simpa using h), List.set_append_right _ _ (by simp [oc]; omega), List.set_append_right _ _ (by simp [oc]; omega)]
      congr 2
      · simp only [oc, List.length_cons, List.length_nil]; rw [show (i + 1) * 6 + 4 - (0 + 1 + 1 + 1 + 1 + 1 + 1) = i * 6 + 4 by omega]
      · simp only [oc, List.length_cons, List.length_nil]; omega
structure RA (k : Nat) (W : World) (lo : Own) (g sz : Nat) (vo : Value) (es : List RO) : Prop where
  hd : W.heap[g]? = some (.cells #[.int .i64 (sz : Int), .int .i64 (used (obs es) : Int), vo] 129 (0, 0))
  tb : W.ownsRow 0 152 6 vo es.length (ocs 1 es)
  gT : lo g = some (k, 0)
  tT : ∀ b, vo.ownBlock = some b → lo b = some (k, 1)
  fl : ∀ i x, es[i]? = some x → GV 36 W x.v (x.o.fields.map u64) ∧ (∀ b, x.v.ownBlock = some b → lo b = some (k, 2 + i))
  ok : ∀ o ∈ obs es, o.ok
  fit : used (obs es) ≤ sz
  sz1 : sz ≤ 1048576
theorem RA.upd {k : Nat} {S : Nat → Prop} {W W' : World} {lo lo' : Own} {g sz : Nat} {vo : Value} {es : List RO} (h : RA k W lo g sz vo es) (hu : Upd S W W') (hS : ∀ b t, lo b = some (k, t) → ¬ S b) (hle : ∀ b t, lo b = some (k, t) → lo' b = some (k, t)) : RA k W' lo' g sz vo es :=
  ⟨blk_upd h.hd hu (hS _ _ h.gT), own_upd h.tb hu (fun b hb => hS _ _ (h.tT b hb)), hle _ _ h.gT, fun b hb => hle _ _ (h.tT b hb), fun i x hx => ⟨(h.fl i x hx).1.upd hu (fun b hb => hS _ _ ((h.fl i x hx).2 b hb)), fun b hb => hle _ _ ((h.fl i x hx).2 b hb)⟩, h.ok, h.fit, h.sz1⟩
theorem RA.below {k : Nat} {W W' : World} {lo : Own} {g sz : Nat} {vo : Value} {es : List RO} (h : RA k W lo g sz vo es) (hb : Below W.heap.size W W') : RA k W' lo g sz vo es :=
  h.upd (S := none_) (Upd.of_below hb) (fun _ _ _ h => h) (fun _ _ h => h)
theorem RA.c0 {k : Nat} {W : World} {lo : Own} {g sz : Nat} {vo : Value} {es : List RO} (h : RA k W lo g sz vo es) : W.cell? ⟨g, 0, none⟩ = some (.int .i64 (sz : Int)) := (blk_cell h.hd 0).trans rfl
theorem RA.c1 {k : Nat} {W : World} {lo : Own} {g sz : Nat} {vo : Value} {es : List RO} (h : RA k W lo g sz vo es) : W.cell? ⟨g, 1, none⟩ = some (.int .i64 (used (obs es) : Int)) := (blk_cell h.hd 1).trans rfl
theorem RA.c2 {k : Nat} {W : World} {lo : Own} {g sz : Nat} {vo : Value} {es : List RO} (h : RA k W lo g sz vo es) : W.cell? ⟨g, 2, none⟩ = some vo := (blk_cell h.hd 2).trans rfl
theorem used_ge (l : List Ob) : l.length + 1 ≤ used l := by
  induction l with
  | nil => simp [used_nil]
  | cons o l ih => rw [used_cons, List.length_cons]; omega
theorem RA.len {k : Nat} {W : World} {lo : Own} {g sz : Nat} {vo : Value} {es : List RO} (h : RA k W lo g sz vo es) : es.length < 1048576 := by
  have h1 := used_ge (obs es)
  have := h.fit; have := h.sz1
  rw [obs_len] at h1
  omega
theorem RA.ob {k : Nat} {W : World} {lo : Own} {g sz : Nat} {vo : Value} {es : List RO} (h : RA k W lo g sz vo es) {i : Nat} {x : RO} (hx : es[i]? = some x) :
    ∃ go cap cur, vo = .slice (some ⟨go, 0, none⟩) es.length cap ∧ es.length ≤ cap ∧ W.heap[go]? = some (.cells cur 152 (0, 0)) ∧ lo go = some (k, 1) ∧ ∀ j u, (oc (place (obs es) i) x)[j]? = some u → W.cell? ⟨go, i * 6 + j, none⟩ = some u := by
  have hj : ∀ j u, (oc (place (obs es) i) x)[j]? = some u → (ocs 1 es)[i * 6 + j]? = some u := fun j u hu => by
    have hj6 : j < 6 := by have := (List.getElem?_eq_some_iff.1 hu).1; simpa [oc] using this
    have := place_pos (obs es) i
    rw [ocs_get es 1 i j x hx hj6, show 1 + (place (obs es) i - 1) = place (obs es) i by omega]
    exact hu
  obtain ⟨go, cap, cur, e, hg, _, h2, h3⟩ := own_get h.tb (hj 0 _ rfl)
  refine ⟨go, cap, cur, e, h2, hg, h.tT go (by rw [e]; rfl), fun j u hu => ?_⟩
  obtain ⟨go', cap', cur', e', _, hc, _⟩ := own_get h.tb (hj j u hu)
  rw [e] at e'
  simp only [Value.slice.injEq, Option.some.injEq, Addr.mk.injEq, and_true] at e'
  obtain ⟨rfl, _⟩ := e'
  exact hc
def fiR (l : List Ob) (p : Int) : Int := match obAt l p with
  | some (k, _) => k
  | none => -1
def whR (l : List Ob) (p : Int) : Int × Int := match badOf l p with
  | some e => (0, e)
  | none => (fiR l p, 0)
theorem fiR_at {l : List Ob} {i : Nat} (hi : i < l.length) {p : Int} (h : (place l i : Int) = p) : fiR l p = i := by
  subst h
  unfold fiR
  rw [obAt_of (List.getElem?_eq_getElem hi)]
theorem fiR_no {l : List Ob} {p : Int} {lo : Nat} (h1 : ∀ i, i < lo → i < l.length → (place l i : Int) < p) (h2 : ∀ i, lo ≤ i → i < l.length → p ≤ place l i) (h3 : lo < l.length → (place l lo : Int) ≠ p) : fiR l p = -1 := by
  unfold fiR
  cases hx : obAt l p with
  | none => rfl
  | some y =>
    obtain ⟨k, o⟩ := y
    obtain ⟨h4, h5⟩ := obAt_some hx
    have hk := (List.getElem?_eq_some_iff.1 h4).1
    exfalso
    by_cases c1 : k < lo
    · have := h1 k c1 hk; omega
    · by_cases c2 : k = lo
      · subst c2; exact h3 hk h5.symm
      · have h6 := h2 lo (Nat.le_refl _) (by omega)
        have h7 := place_mono (l := l) (show lo < k by omega) (by omega)
        omega
end Go.Proofs.Ytgjcffjicbmkhaa.RfM
end

section
namespace Go.Proofs.Ytgjcffjicbmkhaa.RfF
open Go Go.RowKit Go.Proofs.YtgjcffjicbmkhaaW.PrintWords Go.Proofs.YtgjcffjicbmkhaaW.PrintLast Go.Proofs.YtgjcffjicbmkhaaW.PrintMore Go.Proofs.Ytgjcffjicbmkhaa.RowU Go.Proofs.Ytgjcffjicbmkhaa.ArS Go.Proofs.Ytgjcffjicbmkhaa.ArM Go.Proofs.Ytgjcffjicbmkhaa.GenM Go.Proofs.Ytgjcffjicbmkhaa.GenS Go.Proofs.Ytgjcffjicbmkhaa.BokA Go.Proofs.Ytgjcffjicbmkhaa.ArP Go.Proofs.Ytgjcffjicbmkhaa.RfM
set_option linter.unusedVariables false
set_option maxRecDepth 100000
structure Bs (l : List Ob) (p : Int) (lo hi : Nat) : Prop where
  le : lo ≤ hi
  hl : hi ≤ l.length
  b1 : ∀ i, i < lo → i < l.length → (place l i : Int) < p
  b2 : ∀ i, hi ≤ i → i < l.length → p ≤ place l i
theorem Bs.up {l : List Ob} {p : Int} {lo hi m : Nat} (h : Bs l p lo hi) (hm : m < hi) (hp : (place l m : Int) < p) : Bs l p (m + 1) hi := by
  refine ⟨hm, h.hl, fun i hi hil => ?_, h.b2⟩
  by_cases c : i = m
  · subst c; exact hp
  · have := place_mono (l := l) (show i < m by omega) (by have := h.hl; omega)
    omega
theorem Bs.down {l : List Ob} {p : Int} {lo hi m : Nat} (h : Bs l p lo hi) (h1 : lo ≤ m) (hm : m < hi) (hp : p ≤ (place l m : Int)) : Bs l p lo m := by
  refine ⟨h1, by have := h.hl; omega, h.b1, fun i hi hil => ?_⟩
  by_cases c : i = m
  · subst c; exact hp
  · have := place_mono (l := l) (show m < i by omega) (by omega)
    omega
theorem Bs.fin {l : List Ob} {p : Int} {m : Nat} (h : Bs l p m m) (h3 : m < l.length → (place l m : Int) ≠ p) : fiR l p = -1 := fiR_no h.b1 h.b2 h3
set_option maxHeartbeats 4000000 in
theorem find.calls {k : Nat} {W : World} {lo : Own} {g sz : Nat} {vo : Value} {es : List RO} (h : RA k W lo g sz vo es) (p : Int) :
    Calls Try.prog 83 #[.pointer (some ⟨g, 0, none⟩), .int .i64 p] W fun e w' => e = .returned (.int .i64 (fiR (obs es) p)) ∧ Below W.heap.size W w' := by
  have H := Aside0.mk h
  obtain ⟨A, c, hv, hcc⟩ := GenS.own_slice h.tb
  subst hv
  have hx2 := h.c2
  have hn := h.len
  clear h
  go_enter Try.func83, Try.ntmps83
  go_wp2_with fail
  go_quiet (fail)
  have HB0 := Aside0.mk (pw_below_drewN (Below.refl W.heap.size W) nq)
  have HS0 : Aside0 (Bs (obs es) p 0 es.length) := ⟨⟨Nat.zero_le _, by rw [obs_len]; exact Nat.le_refl _, fun i hi => absurd hi (Nat.not_lt_zero i), fun i hi hl => by rw [obs_len] at hl; omega⟩⟩
  clear hx2
  go_upto_region 2 with fail
  go_loopw [5, 6] (fun i j wr => ∃ a b : Nat, i = .int .i64 a ∧ j = .int .i64 b ∧ Aside0 (Bs (obs es) p a b) ∧ Aside0 (Below W.heap.size W wr)) (fun i j _ => (intOf j).toNat - (intOf i).toNat)
  case atStart => exact ⟨0, es.length, rfl, rfl, HS0, HB0⟩
  case round =>
    obtain ⟨a, b, rfl, rfl, HS, HB⟩ := hrel
    clear HB0 HS0
    rename World => wr
    have HR := Aside0.mk (H.out.upd (S := none_) (Upd.of_below HB.out) (fun _ _ _ h => h) (fun _ _ h => h))
    have hx2 := HR.out.c2
    have hab := HS.out.le
    have hbl := HS.out.hl
    rw [obs_len] at hbl
    by_cases hlt : a < b
    · have hlt' : (a : Int) < b := by omega
      obtain ⟨m, hm⟩ : ∃ m, m = (a + b) / 2 := ⟨_, rfl⟩
      have hma : a ≤ m := by omega
      have hmb : m < b := by omega
      obtain ⟨x, hx⟩ : ∃ x, es[m]? = some x := ⟨_, List.getElem?_eq_getElem (by omega)⟩
      obtain ⟨go, cap, cur, e1, e2, e3, e4, e5⟩ := HR.out.ob hx
      simp only [Value.slice.injEq] at e1
      obtain ⟨rfl, _, rfl⟩ := e1
      have hat : wr.cell? ⟨go, m * 6, none⟩ = some (.int .i64 (place (obs es) m : Int)) := e5 0 _ rfl
      have q1 : Int.tdiv ((a : Int) + b) 2 = m := by rw [Int.tdiv_eq_ediv_of_nonneg (by omega)]; omega
      have hml : (m : Int) < es.length := by omega
      have hm0 : (0 : Int) ≤ m := by omega
      have HM := Aside0.mk (And.intro hm (And.intro hma hmb))
      clear hm e2 e3 e4 e5
      by_cases c : (place (obs es) m : Int) < p
      · have HS2 := Aside0.mk (HS.out.up HM.out.2.2 c)
        go_wp2_with fail
        exact ⟨⟨m + 1, b, by rw [Int.natCast_succ], rfl, HS2, HB⟩, by simp only [intOf]; omega⟩
      · have HS2 := Aside0.mk (HS.out.down HM.out.2.1 HM.out.2.2 (by omega))
        go_wp2_with fail
        exact ⟨⟨a, m, rfl, rfl, HS2, HB⟩, by simp only [intOf]; omega⟩
    · obtain rfl : a = b := by omega
      clear hlt hab
      by_cases hn2 : a < es.length
      · have hn2' : (a : Int) < es.length := by omega
        have ha0 : (0 : Int) ≤ a := by omega
        obtain ⟨x, hx⟩ : ∃ x, es[a]? = some x := ⟨_, List.getElem?_eq_getElem (by omega)⟩
        obtain ⟨go, cap, cur, e1, e2, e3, e4, e5⟩ := HR.out.ob hx
        simp only [Value.slice.injEq] at e1
        obtain ⟨rfl, _, rfl⟩ := e1
        have hat : wr.cell? ⟨go, a * 6, none⟩ = some (.int .i64 (place (obs es) a : Int)) := e5 0 _ rfl
        clear e2 e3 e4 e5
        by_cases c : (place (obs es) a : Int) = p
        · have HF := Aside0.mk (fiR_at (by rw [obs_len]; exact hn2) c)
          have hc : ((place (obs es) a : Int) == p) = true := by simp [c]
          clear c
          go_wp2_with fail
          go_ret
          exact ⟨by rw [HF.out]; rfl, HB.out⟩
        · have HF := Aside0.mk (HS.out.fin (fun _ => c))
          have hc : ((place (obs es) a : Int) == p) = false := by simp [c]
          clear c
          go_wp2_with fail
          go_ret
          exact ⟨by rw [HF.out]; rfl, HB.out⟩
      · have hn2' : ¬ (a : Int) < es.length := by omega
        have HF := Aside0.mk (HS.out.fin (fun h => absurd (by rw [obs_len] at h; exact h) hn2))
        clear hn2
        go_wp2_with fail
        go_ret
        exact ⟨by rw [HF.out]; rfl, HB.out⟩
theorem whole.calls {k : Nat} {W : World} {lo : Own} {g sz : Nat} {vo : Value} {es : List RO} (h : RA k W lo g sz vo es) (p : Int) :
    Calls Try.prog 82 #[.pointer (some ⟨g, 0, none⟩), .int .i64 p] W fun e w' => e = .returned (.tuple #[.int .i64 (whR (obs es) p).1, .int .i64 (whR (obs es) p).2]) ∧ Below W.heap.size W w' := by
  have H := Aside0.mk h
  obtain ⟨A, c, hv, hcc⟩ := GenS.own_slice h.tb
  subst hv
  clear h
  go_enter Try.func82, Try.ntmps82
  go_wp2_with fail
  refine (find.calls H.out p).mono ?_
  rintro e w1 ⟨rfl, hb⟩
  have H1 := Aside0.mk (H.out.below hb)
  have HB := Aside0.mk hb
  have hx2 := H1.out.c2
  clear hb
  cases hx : obAt (obs es) p with
  | none =>
    have hw : whR (obs es) p = (0, 23) := by unfold whR badOf; rw [hx]
    rw [show fiR (obs es) p = -1 by unfold fiR; rw [hx]]
    have HW := Aside0.mk hw
    clear hx hw
    go_wp2_with fail
    go_ret2
    exact ⟨by rw [HW.out]; rfl, HB.out⟩
  | some y =>
    obtain ⟨i, o⟩ := y
    obtain ⟨h1, h2⟩ := obAt_some hx
    have hi : i < es.length := by have := (List.getElem?_eq_some_iff.1 h1).1; rwa [obs_len] at this
    obtain ⟨x, hxx⟩ : ∃ x, es[i]? = some x := ⟨_, List.getElem?_eq_getElem hi⟩
    obtain rfl : x.o = o := by have := obs_get hxx; rw [h1] at this; exact (Option.some.inj this).symm
    obtain ⟨go, cap, cur, e1, e2, e3, e4, e5⟩ := H1.out.ob hxx
    simp only [Value.slice.injEq] at e1
    obtain ⟨rfl, _, rfl⟩ := e1
    have hg : w1.cell? ⟨go, i * 6 + 4, none⟩ = some (.bool x.o.gone.isSome) := e5 4 _ rfl
    have hi' : (i : Int) < es.length := by omega
    have hi0 : (0 : Int) ≤ i := by omega
    have hi1 : ¬ (i : Int) < 0 := by omega
    have hf : fiR (obs es) p = i := by unfold fiR; rw [hx]
    rw [hf]
    cases hgs : x.o.gone.isSome with
    | false =>
      have hw : whR (obs es) p = ((i : Int), 0) := by unfold whR badOf; rw [hx]; simp [hgs, hf]
      rw [hgs] at hg
      have HW := Aside0.mk hw
      clear e2 e3 e4 e5 h1 h2 hxx hx hf hgs hw
      go_wp2_with fail
      go_ret2
      exact ⟨by rw [HW.out]; rfl, HB.out⟩
    | true =>
      have hw : whR (obs es) p = (0, 26) := by unfold whR badOf; rw [hx]; simp [hgs]
      rw [hgs] at hg
      have HW := Aside0.mk hw
      clear e2 e3 e4 e5 h1 h2 hxx hx hf hgs hw
      go_wp2_with fail
      go_ret2
      exact ⟨by rw [HW.out]; rfl, HB.out⟩
end Go.Proofs.Ytgjcffjicbmkhaa.RfF
end

section
namespace Go.Proofs.Ytgjcffjicbmkhaa.LoadA
open Go Go.RowKit Go.Proofs.YtgjcffjicbmkhaaW.PrintWords
set_option linter.unusedVariables false
theorem add_add (a : Addr) (m j : Nat) : (a.add m).add j = a.add (m + j) := by
  by_cases hm : m = 0
  · subst hm; simp [Addr.add]
  · by_cases hj : j = 0
    · subst hj; simp [Addr.add, hm]
    · simp [Addr.add, hm, hj, Nat.add_assoc]
theorem run_loadVar_at {P : Program} (w : World) (A : Addr) (ty : TypeId) (cs : List Value) (d : TypeDesc) (hc : ∀ j v, cs[j]? = some v → w.cell? (A.add j) = some v)
    (hu : P.underlying ty = some d) (hd : (match d with | .struct _ | .array _ _ => true | _ => false) = true) (hi : (P.info? ty).map (·.size) = some cs.length) :
    (loadVar ty A).run P w = .ok (.agg cs.toArray) w := by
  have hl : (loadCells A cs.length).run P w = .ok cs.toArray w := run_loadCells_list (P := P) w A cs hc
  cases hq : P.info? ty with
  | none => simp [hq] at hi
  | some i =>
    have hs : i.size = cs.length := by simpa [hq] using hi
    have hagg : (isAgg ty).run P w = .ok true w := by
      unfold isAgg
      rw [Sem.run_bind, run_underlying hu w]
      cases d <;> simp_all
    simp [loadVar, Sem.run_bind, hagg, sizeOf, typeInfo, hq, hs, hl]
theorem wpList_load_at {P : Program} {ops : Array Oper} {rest : List Oper} {o : Oper} {a : Act} {w : World} {Q : Exit → Act → World → Prop} (hgd : o.guard = none) (ty : TypeId) (x : Operand) (ho : o.op = .load ty x)
    (A : Addr) (hx : a.eval x = .pointer (some A)) (cs : List Value) (d : TypeDesc) (hc : ∀ j v, cs[j]? = some v → w.cell? (A.add j) = some v)
    (hu : P.underlying ty = some d) (hd : (match d with | .struct _ | .array _ _ => true | _ => false) = true) (hi : (P.info? ty).map (·.size) = some cs.length)
    (h : wpList P ops Q rest (a.put o.dst (.agg cs.toArray)) w) : wpList P ops Q (o :: rest) a w :=
  wpList_plain hgd fun K hK => by
    unfold Oper.wp execOp
    simp only [ho, hx, Instr.loadAt, Instr.sureAddr, Sem.run_bind, Sem.run_pure, Result.andThen_ok, run_loadVar_at w A ty cs d hc hu hd hi]
    exact hK _ _ h
end Go.Proofs.Ytgjcffjicbmkhaa.LoadA
end

section
namespace Go.Proofs.Ytgjcffjicbmkhaa.RfG
open Go Go.RowKit Go.Proofs.YtgjcffjicbmkhaaW.PrintWords Go.Proofs.YtgjcffjicbmkhaaW.PrintLast Go.Proofs.YtgjcffjicbmkhaaW.PrintMore Go.Proofs.Ytgjcffjicbmkhaa.RowU Go.Proofs.Ytgjcffjicbmkhaa.ArS Go.Proofs.Ytgjcffjicbmkhaa.ArM Go.Proofs.Ytgjcffjicbmkhaa.ArW Go.Proofs.Ytgjcffjicbmkhaa.ArX Go.Proofs.Ytgjcffjicbmkhaa.GenM Go.Proofs.Ytgjcffjicbmkhaa.GenN Go.Proofs.Ytgjcffjicbmkhaa.GenS Go.Proofs.Ytgjcffjicbmkhaa.BokA Go.Proofs.Ytgjcffjicbmkhaa.ArP Go.Proofs.Ytgjcffjicbmkhaa.RfM Go.Proofs.Ytgjcffjicbmkhaa.RfF Go.Proofs.Ytgjcffjicbmkhaa.LoadA
set_option linter.unusedVariables false
set_option maxRecDepth 100000
theorem badOf_val {l : List Ob} {p e : Int} (h : badOf l p = some e) : e = 23 ∨ e = 26 := by
  unfold badOf at h
  split at h
  · obtain rfl := Option.some.inj h; exact .inl rfl
  · split at h
    · obtain rfl := Option.some.inj h; exact .inr rfl
    · cases h
theorem whR_bad {l : List Ob} {p e : Int} (h : badOf l p = some e) : whR l p = (0, e) := by unfold whR; rw [h]
theorem _root_.Go.Proofs.Ytgjcffjicbmkhaa.RfM.RA.at_ {k : Nat} {W : World} {lo : Own} {g sz : Nat} {vo : Value} {es : List RO} (h : RA k W lo g sz vo es) {p : Int} (hb : badOf (obs es) p = none) :
    ∃ i x, es[i]? = some x ∧ i < es.length ∧ obAt (obs es) p = some (i, x.o) ∧ x.o.gone = none ∧ whR (obs es) p = ((i : Int), 0) ∧ p = place (obs es) i := by
  obtain ⟨i, o, h1, h2, h3, h4⟩ := badOf_none hb
  have hi : i < es.length := by have := (List.getElem?_eq_some_iff.1 h2).1; rwa [obs_len] at this
  obtain ⟨x, hx⟩ : ∃ x, es[i]? = some x := ⟨_, List.getElem?_eq_getElem hi⟩
  obtain rfl : x.o = o := by have := obs_get hx; rw [h2] at this; exact (Option.some.inj this).symm
  exact ⟨i, x, hx, hi, h1, h3, by unfold whR fiR; rw [hb, h1], h4⟩
theorem _root_.Go.Proofs.Ytgjcffjicbmkhaa.RfM.RA.okx {k : Nat} {W : World} {lo : Own} {g sz : Nat} {vo : Value} {es : List RO} (h : RA k W lo g sz vo es) {i : Nat} {x : RO} (hx : es[i]? = some x) : x.o.ok ∧ x.o.fields.length = x.o.refs + x.o.raws ∧ x.o.refs ≤ 1048576 ∧ x.o.raws ≤ 1048576 := by
  have hok := h.ok x.o (List.mem_of_getElem? (obs_get hx))
  exact ⟨hok, Ob.len hok, hok.r1, hok.s1⟩
set_option maxHeartbeats 4000000 in
theorem object.calls {k : Nat} {W : World} {lo : Own} {g sz : Nat} {vo : Value} {es : List RO} (h : RA k W lo g sz vo es) (p : Int) :
    Calls Try.prog 53 #[.pointer (some ⟨g, 0, none⟩), .int .i64 p] W fun e w' => e = .returned (.tuple #[.int .i64 (objR (obs es) p).1, .int .i64 (objR (obs es) p).2.1, .int .i64 (objR (obs es) p).2.2.1, .int .i64 (objR (obs es) p).2.2.2]) ∧ Below W.heap.size W w' := by
  have H := Aside0.mk h
  obtain ⟨A, c, hv, hcc⟩ := GenS.own_slice h.tb
  subst hv
  clear h
  have HWC := Aside0.mk (whole.calls H.out p)
  go_enter Try.func53, Try.ntmps53
  go_wp2_with fail
  refine HWC.out.mono ?_
  rintro e w1 ⟨rfl, hb⟩
  have H1 := Aside0.mk (H.out.below hb)
  have HB := Aside0.mk hb
  clear hb HWC
  cases hbd : badOf (obs es) p with
  | some e =>
    rw [whR_bad hbd]
    have HR := Aside0.mk (show objR (obs es) p = (0, 0, 0, e) by unfold objR; rw [hbd])
    have hne : (e != 0) = true := by rcases badOf_val hbd with rfl | rfl <;> rfl
    clear hbd
    go_wp2_with fail
    ((try simp only [Exit.inBlock, Exit.then]); refine bodyPost_ret (results_tmp4 rfl _ _ _) rfl ?_)
    exact ⟨by rw [HR.out]; rfl, HB.out⟩
  | none =>
    obtain ⟨i, x, hx, hi, h1, h2, h3, h4⟩ := H1.out.at_ hbd
    rw [h3]
    obtain ⟨hok, hl, hr, hs⟩ := H1.out.okx hx
    have HR := Aside0.mk (show objR (obs es) p = ((x.o.kind : Int), (x.o.refs : Int), (x.o.raws : Int), 0) by unfold objR; rw [hbd, h1])
    obtain ⟨go, cap, cur, e1, e2, e3, e4, e5⟩ := H1.out.ob hx
    simp only [Value.slice.injEq] at e1
    obtain ⟨rfl, _, rfl⟩ := e1
    obtain ⟨Af, cf, hf⟩ := ((H1.out.fl i x hx).1).slice
    rw [List.length_map] at hf
    obtain ⟨nf, hnf⟩ : ∃ nf, nf = x.o.fields.length := ⟨_, rfl⟩
    rw [← hnf] at hf hl
    have HC : Aside0 (∀ j u, (#[.int .i64 (place (obs es) i : Int), .int .i64 (x.o.kind : Int), .int .i64 (x.o.refs : Int), .slice Af nf cf, .bool x.o.gone.isSome, .int .i64 ((x.o.gone.getD 0 : Nat) : Int)]).toList[j]? = some u → w1.cell? ((⟨go, i * 6, none⟩ : Addr).add j) = some u) := ⟨fun j u hu => by
      rw [Addr.add_lit]
      exact e5 j u (by rw [← hu]; simp [oc, hf])⟩
    have HSZ := Aside0.mk (show (Try.prog.info? 152).map (·.size) = some 6 by kernel_rfl)
    have HSZ2 := Aside0.mk (show (Try.prog.info? 152).map (·.size) = some (#[.int .i64 (place (obs es) i : Int), .int .i64 (x.o.kind : Int), .int .i64 (x.o.refs : Int), .slice Af nf cf, .bool x.o.gone.isSome, .int .i64 ((x.o.gone.getD 0 : Nat) : Int)] : Array Value).size by kernel_rfl)
    have HONE := Aside0.mk (show (#[.int .i64 (place (obs es) i : Int), .int .i64 (x.o.kind : Int), .int .i64 (x.o.refs : Int), .slice Af nf cf, .bool x.o.gone.isSome, .int .i64 ((x.o.gone.getD 0 : Nat) : Int)] : Array Value).all (·.oneCell') = true by simp [Value.oneCell'])
    have hx2 := H1.out.c2
    have hi' : (i : Int) < es.length := by omega
    have hi0 : (0 : Int) ≤ i := by omega
    have HSUB := Aside0.mk (NumB.dif_i (nf : Int) x.o.refs x.o.raws (by omega) (by omega))
    have HH := Aside0.mk (And.intro hl (And.intro hr hs))
    have hr9 : (x.o.refs : Int) ≤ 1048576 := by omega
    have hn9 : (nf : Int) ≤ 2097152 := by omega
    have hs9 : (x.o.raws : Int) ≤ 1048576 := by omega
    have hs8 : (0 : Int) ≤ (x.o.raws : Int) := by omega
    clear hbd hx h1 h2 h3 h4 hok e2 e3 e4 e5 hf hnf hl hr hs
    go_upto_region 5 with (first
      | ((with_reducible refine gate_dst (N := 26) rfl ?_); refine wpList_load_at rfl 152 (.tmp 25) rfl (⟨go, i * 6, none⟩ : Addr) rfl (#[.int .i64 (place (obs es) i : Int), .int .i64 (x.o.kind : Int), .int .i64 (x.o.refs : Int), .slice Af nf cf, .bool x.o.gone.isSome, .int .i64 ((x.o.gone.getD 0 : Nat) : Int)]).toList _ HC.out Try.underlying152 rfl HSZ.out ?_)
      | ((with_reducible refine gate_dst (N := 10) rfl ?_); refine box_event ?hg (N := 10) ?hd (cs := #[.int .i64 0, .int .i64 0, .int .i64 0, .slice none 0 0, .bool false, .int .i64 0]) (t := 152) ?hr ?_; (case hd => rfl); (case hg => rfl); (case hr => first | (go_simp; done) | (go_simp; rfl)); intro ga hga w7 hbox hb; have BA := Aside0.mk hbox; have HB7 := Aside0.mk hb; have GA := Aside0.mk hga; clear hbox hb hga)
      | ((with_reducible refine gate_store (p := 10) rfl ?_); refine wpList_store_row rfl 152 (.tmp 10) (.tmp 26) rfl ga #[.int .i64 (place (obs es) i : Int), .int .i64 (x.o.kind : Int), .int .i64 (x.o.refs : Int), .slice Af nf cf, .bool x.o.gone.isSome, .int .i64 ((x.o.gone.getD 0 : Nat) : Int)] rfl rfl 152 #[.int .i64 0, .int .i64 0, .int .i64 0, .slice none 0 0, .bool false, .int .i64 0] BA.out HSZ2.out rfl HONE.out ?_; obtain ⟨w8, hw8⟩ : ∃ w8, w8 = w7.setRow ga #[.int .i64 (place (obs es) i : Int), .int .i64 (x.o.kind : Int), .int .i64 (x.o.refs : Int), .slice Af nf cf, .bool x.o.gone.isSome, .int .i64 ((x.o.gone.getD 0 : Nat) : Int)] := ⟨_, rfl⟩; rw [← hw8]; have BC := Aside0.mk (show w8.heap[ga]? = some (.cells #[.int .i64 (place (obs es) i : Int), .int .i64 (x.o.kind : Int), .int .i64 (x.o.refs : Int), .slice Af nf cf, .bool x.o.gone.isSome, .int .i64 ((x.o.gone.getD 0 : Nat) : Int)] 152 (0, 0)) by rw [hw8]; exact setRow_heap _ _ _ _ _ _ BA.out); have HB8 := Aside0.mk (show Below w1.heap.size w1 w8 by rw [hw8]; exact below_setRow HB7.out (by rw [GA.out]; exact Nat.le_refl _) _); clear hw8))
    have b1 : w8.cell? ⟨ga, 1, none⟩ = some (.int .i64 (x.o.kind : Int)) := (blk_cell BC.out 1).trans rfl
    have b2 : w8.cell? ⟨ga, 2, none⟩ = some (.int .i64 (x.o.refs : Int)) := (blk_cell BC.out 2).trans rfl
    have b3 : w8.cell? ⟨ga, 3, none⟩ = some (.slice Af nf cf) := (blk_cell BC.out 3).trans rfl
    go_quiet (fail)
    go_wp2_with fail
    ((try simp only [Exit.inBlock, Exit.then]); refine bodyPost_ret (results_tmp4 rfl _ _ _) rfl ?_)
    exact ⟨by rw [HR.out]; simp only; rw [← HSUB.out.2]; rfl, pw_below_drewN (below_next HB.out HB8.out) _⟩
set_option maxHeartbeats 4000000 in
theorem get.calls {k : Nat} {W : World} {lo : Own} {g sz : Nat} {vo : Value} {es : List RO} (h : RA k W lo g sz vo es) (p q : Int) :
    Calls Try.prog 54 #[.pointer (some ⟨g, 0, none⟩), .int .i64 p, .int .i64 q] W fun e w' => e = .returned (.tuple #[.int .u64 (getR (obs es) p q).1, .int .i64 (getR (obs es) p q).2]) ∧ Below W.heap.size W w' := by
  have H := Aside0.mk h
  obtain ⟨A, c, hv, hcc⟩ := GenS.own_slice h.tb
  subst hv
  clear h
  have HWC := Aside0.mk (whole.calls H.out p)
  go_enter Try.func54, Try.ntmps54
  go_wp2_with fail
  refine HWC.out.mono ?_
  rintro e w1 ⟨rfl, hb⟩
  have H1 := Aside0.mk (H.out.below hb)
  have HB := Aside0.mk hb
  clear hb HWC
  cases hbd : badOf (obs es) p with
  | some e =>
    rw [whR_bad hbd]
    have HR := Aside0.mk (show getR (obs es) p q = (0, e) by unfold getR; rw [hbd])
    have hne : (e != 0) = true := by rcases badOf_val hbd with rfl | rfl <;> rfl
    clear hbd
    go_wp2_with fail
    go_ret2
    exact ⟨by rw [HR.out]; rfl, HB.out⟩
  | none =>
    obtain ⟨i, x, hx, hi, h1, h2, h3, h4⟩ := H1.out.at_ hbd
    rw [h3]
    have hgr : getR (obs es) p q = if 0 ≤ q ∧ q < x.o.fields.length then (((x.o.fields.getD q.toNat 0 : Nat) : Int), 0) else (0, 24) := by unfold getR; rw [hbd, h1]
    obtain ⟨go, cap, cur, e1, e2, e3, e4, e5⟩ := H1.out.ob hx
    simp only [Value.slice.injEq] at e1
    obtain ⟨rfl, _, rfl⟩ := e1
    have hF := ((H1.out.fl i x hx).1)
    obtain ⟨Af, cf, hf⟩ := hF.slice
    rw [List.length_map] at hf
    obtain ⟨nf, hnf⟩ : ∃ nf, nf = x.o.fields.length := ⟨_, rfl⟩
    rw [← hnf] at hf hgr
    have hc3 : w1.cell? ⟨go, i * 6 + 3, none⟩ = some (.slice Af nf cf) := by rw [← hf]; exact e5 3 _ rfl
    have hx2 := H1.out.c2
    have hi' : (i : Int) < es.length := by omega
    have hi0 : (0 : Int) ≤ i := by omega
    by_cases hq0 : q < 0
    · have HR := Aside0.mk (hgr.trans (if_neg (by omega)))
      clear hgr hF hbd hx h1 h2 h3 h4 e2 e3 e4 e5 hf hnf
      go_wp2_with fail
      go_ret2
      exact ⟨by rw [HR.out]; rfl, HB.out⟩
    · by_cases hq1 : (nf : Int) ≤ q
      · have HR := Aside0.mk (hgr.trans (if_neg (by omega)))
        clear hgr hF hbd hx h1 h2 h3 h4 e2 e3 e4 e5 hf hnf
        go_wp2_with fail
        go_ret2
        exact ⟨by rw [HR.out]; rfl, HB.out⟩
      · obtain ⟨j, rfl⟩ := Int.eq_ofNat_of_zero_le (show 0 ≤ q by omega)
        have hj : j < nf := by omega
        obtain ⟨y, hy⟩ : ∃ y, x.o.fields[j]? = some y := ⟨_, List.getElem?_eq_getElem (by omega)⟩
        have HR := Aside0.mk ((hgr.trans (if_pos ⟨by omega, by omega⟩)).trans (show (((x.o.fields.getD (j : Int).toNat 0 : Nat) : Int), (0 : Int)) = ((y : Int), 0) by rw [Int.toNat_natCast, List.getD_eq_getElem?_getD, hy]; rfl))
        obtain ⟨gf, cf', ef, hcy⟩ := hF.get j (u64 y) (by rw [List.getElem?_map, hy]; rfl)
        rw [hf, List.length_map, ← hnf] at ef
        simp only [Value.slice.injEq] at ef
        obtain ⟨rfl, _, rfl⟩ := ef
        unfold u64 at hcy
        have hj' : (j : Int) < nf := by omega
        clear hgr hF hbd hx h1 h2 h3 h4 e2 e3 e4 e5 hf hnf hy hq0 hq1
        go_wp2_with fail
        go_ret2
        exact ⟨by rw [HR.out]; rfl, HB.out⟩
theorem _root_.Go.Proofs.Ytgjcffjicbmkhaa.RfM.RA.put {k : Nat} {W : World} {lo : Own} {g sz : Nat} {vo : Value} {es : List RO} (h : RA k W lo g sz vo es) {i : Nat} {x : RO} (hx : es[i]? = some x) {gf j v : Nat} (hg : x.v.ownBlock = some gf) (hj : j < x.o.fields.length) (hv : v < 18446744073709551616) :
    RA k (W.setCell ⟨gf, j, none⟩ (.int .u64 (v : Int))) lo g sz vo (es.set i ⟨Ob.put x.o j v, x.v⟩) := by
  have ht := (h.fl i x hx).2 gf hg
  have hl : (Ob.put x.o j v).fields.length = x.o.fields.length := by simp [Ob.put]
  have hu : Upd (fun b => b = gf) W (W.setCell ⟨gf, j, none⟩ (.int .u64 (v : Int))) := Upd.put (S := fun b => b = gf) (Upd.refl _ W) (.inl rfl) _ _
  have hus : used (obs (es.set i ⟨Ob.put x.o j v, x.v⟩)) = used (obs es) := by rw [obs_set]; exact used_set (obs_get hx) hl
  have hil := (List.getElem?_eq_some_iff.1 hx).1
  refine ⟨?_, ?_, h.gT, h.tT, fun i' x' hx' => ?_, fun o ho => ?_, by rw [hus]; exact h.fit, h.sz1⟩
  · rw [hus]
    exact blk_upd h.hd hu (fun e => by have := h.gT; rw [e, ht] at this; simp at this)
  · rw [List.length_set, ocs_same (x' := ⟨Ob.put x.o j v, x.v⟩) es 1 i x hx (fun q => rfl) hl]
    exact own_upd h.tb hu (fun b hb e => by subst e; have := h.tT _ hb; rw [ht] at this; simp at this; omega)
  · by_cases c : i' = i
    · subst c
      rw [List.getElem?_set_self hil] at hx'
      obtain rfl := Option.some.inj hx'
      refine ⟨?_, (h.fl i' x hx).2⟩
      rcases (h.fl i' x hx).1 with ⟨e, _⟩ | ⟨g', cap, e, hG⟩
      · rw [e] at hg; cases hg
      · rw [e] at hg
        obtain rfl := Option.some.inj hg
        refine .inr ⟨g', cap, by show x.v = _; rw [e]; simp [Ob.put], ?_⟩
        have := gen_set hG j (by rw [List.length_map]; exact hj) (.int .u64 (v : Int))
        have e2 : (x.o.fields.map u64).set j (.int .u64 (v : Int)) = (Ob.put x.o j v).fields.map u64 := by simp [Ob.put, List.map_set, u64]
        rwa [e2] at this
    · rw [List.getElem?_set_ne (fun e => c e.symm)] at hx'
      refine ⟨(h.fl i' x' hx').1.upd hu (fun b hb e => ?_), (h.fl i' x' hx').2⟩
      subst e
      have := (h.fl i' x' hx').2 _ hb
      rw [ht] at this
      simp only [Option.some.injEq, Prod.mk.injEq, true_and] at this
      omega
  · rw [obs_set] at ho
    rcases List.mem_or_eq_of_mem_set ho with h1 | h1
    · exact h.ok o h1
    · subst h1
      have hok := h.ok x.o (List.mem_of_getElem? (obs_get hx))
      refine ⟨hok.k1, hok.k2, hok.r1, by show _ ≤ _; rw [hl]; exact hok.r2, by have := hok.s1; unfold Ob.raws at this ⊢; rw [hl]; exact this, fun y hy => ?_, hok.g1⟩
      rcases List.mem_or_eq_of_mem_set (show y ∈ x.o.fields.set j v from hy) with h2 | h2
      · exact hok.f1 y h2
      · subst h2; exact hv
set_option maxHeartbeats 4000000 in
theorem set.calls {k : Nat} {W : World} {lo : Own} {g sz : Nat} {vo : Value} {es : List RO} (h : RA k W lo g sz vo es) (p q : Int) (v : Nat) (hv : v < 18446744073709551616) :
    Calls Try.prog 55 #[.pointer (some ⟨g, 0, none⟩), .int .i64 p, .int .i64 q, .int .u64 (v : Int)] W fun e w' => e = .returned (.int .i64 (setR (obs es) p q v).1) ∧ ∃ es', obs es' = (setR (obs es) p q v).2 ∧ RA k w' lo g sz vo es' ∧ Upd (fun b => ∃ t, lo b = some (k, t)) W w' := by
  have H := Aside0.mk h
  obtain ⟨A, c, hvo, hcc⟩ := GenS.own_slice h.tb
  subst hvo
  clear h
  have HWC := Aside0.mk (whole.calls H.out p)
  go_enter Try.func55, Try.ntmps55
  go_wp2_with fail
  refine HWC.out.mono ?_
  rintro e w1 ⟨rfl, hb⟩
  have H1 := Aside0.mk (H.out.below hb)
  have HB := Aside0.mk hb
  clear hb HWC
  have HE : Aside0 (∀ r : Int, setR (obs es) p q v = (r, obs es) → r = (setR (obs es) p q v).1 ∧ ∃ es', obs es' = (setR (obs es) p q v).2 ∧ RA k w1 lo g sz (.slice A es.length c) es' ∧ Upd (fun b => ∃ t, lo b = some (k, t)) W w1) := ⟨fun r hr => by rw [hr]; exact ⟨rfl, es, rfl, H1.out, Upd.of_below HB.out⟩⟩
  cases hbd : badOf (obs es) p with
  | some e =>
    rw [whR_bad hbd]
    have HR := Aside0.mk (HE.out e (by unfold setR; rw [hbd]))
    have hne : (e != 0) = true := by rcases badOf_val hbd with rfl | rfl <;> rfl
    clear hbd
    go_wp2_with fail
    go_ret
    exact ⟨by rw [← HR.out.1]; rfl, HR.out.2⟩
  | none =>
    obtain ⟨i, x, hx, hi, h1, h2, h3, h4⟩ := H1.out.at_ hbd
    rw [h3]
    have hgr : setR (obs es) p q v = if 0 ≤ q ∧ q < x.o.fields.length then (0, (obs es).set i (Ob.put x.o q.toNat v)) else (24, obs es) := by unfold setR; rw [hbd, h1]
    obtain ⟨go, cap, cur, e1, e2, e3, e4, e5⟩ := H1.out.ob hx
    simp only [Value.slice.injEq] at e1
    obtain ⟨rfl, _, rfl⟩ := e1
    have hF := ((H1.out.fl i x hx).1)
    obtain ⟨Af, cf, hf⟩ := hF.slice
    rw [List.length_map] at hf
    obtain ⟨nf, hnf⟩ : ∃ nf, nf = x.o.fields.length := ⟨_, rfl⟩
    rw [← hnf] at hf hgr
    have hc3 : w1.cell? ⟨go, i * 6 + 3, none⟩ = some (.slice Af nf cf) := by rw [← hf]; exact e5 3 _ rfl
    have hx2 := H1.out.c2
    have hi' : (i : Int) < es.length := by omega
    have hi0 : (0 : Int) ≤ i := by omega
    by_cases hq0 : q < 0
    · have HR := Aside0.mk (HE.out 24 (hgr.trans (if_neg (by omega))))
      clear hgr hF hbd hx h1 h2 h3 h4 e2 e3 e4 e5 hf hnf
      go_wp2_with fail
      go_ret
      exact ⟨by rw [← HR.out.1]; rfl, HR.out.2⟩
    · by_cases hq1 : (nf : Int) ≤ q
      · have HR := Aside0.mk (HE.out 24 (hgr.trans (if_neg (by omega))))
        clear hgr hF hbd hx h1 h2 h3 h4 e2 e3 e4 e5 hf hnf
        go_wp2_with fail
        go_ret
        exact ⟨by rw [← HR.out.1]; rfl, HR.out.2⟩
      · obtain ⟨j, rfl⟩ := Int.eq_ofNat_of_zero_le (show 0 ≤ q by omega)
        have hj : j < nf := by omega
        obtain ⟨y, hy⟩ : ∃ y, x.o.fields[j]? = some y := ⟨_, List.getElem?_eq_getElem (by omega)⟩
        have HR := Aside0.mk (hgr.trans (if_pos ⟨by omega, by omega⟩))
        rcases hF with ⟨ef, eb⟩ | ⟨gf, cf', ef, hG⟩
        · have := congrArg List.length eb
          rw [List.length_map, List.length_nil] at this
          omega
        rw [hf, List.length_map, ← hnf] at ef
        simp only [Value.slice.injEq] at ef
        obtain ⟨rfl, _, rfl⟩ := ef
        have hcy := hG.get j (u64 y) (by rw [List.getElem?_map, hy]; rfl)
        have hfz := gen_frozen hG j
        unfold u64 at hcy
        have hj' : (j : Int) < nf := by omega
        have hp := H1.out.put hx (gf := gf) (j := j) (v := v) (by rw [hf]; rfl) (by omega) hv
        rw [hf] at hp
        have HP := Aside0.mk hp
        clear hp
        have HT := Aside0.mk (show lo gf = some (k, 2 + i) from (H1.out.fl i x hx).2 gf (by rw [hf]; rfl))
        clear hgr hbd hx h1 h2 h3 h4 e2 e3 e4 e5 hf hnf hy hq0 hq1 hG
        go_wp2_with fail
        go_ret
        refine ⟨by rw [HR.out]; rfl, es.set i ⟨Ob.put x.o j v, .slice (some ⟨gf, 0, none⟩) nf cf⟩, by rw [HR.out, obs_set]; rfl, ?_, (Upd.of_below HB.out).put (.inl ⟨_, HT.out⟩) _ _⟩
        exact HP.out
set_option maxHeartbeats 4000000 in
theorem moved.calls {k : Nat} {W : World} {lo : Own} {g sz : Nat} {vo : Value} {es : List RO} (h : RA k W lo g sz vo es) (p : Int) :
    Calls Try.prog 56 #[.pointer (some ⟨g, 0, none⟩), .int .i64 p] W fun e w' => e = .returned (.tuple #[.int .i64 (movR (obs es) p).1, .bool (movR (obs es) p).2.1, .int .i64 (movR (obs es) p).2.2]) ∧ Below W.heap.size W w' := by
  have H := Aside0.mk h
  obtain ⟨A, c, hv, hcc⟩ := GenS.own_slice h.tb
  subst hv
  clear h
  have HFC := Aside0.mk (find.calls H.out p)
  go_enter Try.func56, Try.ntmps56
  go_wp2_with fail
  refine HFC.out.mono ?_
  rintro e w1 ⟨rfl, hb⟩
  have H1 := Aside0.mk (H.out.below hb)
  have HB := Aside0.mk hb
  clear hb HFC
  cases hx : obAt (obs es) p with
  | none =>
    have HR := Aside0.mk (show movR (obs es) p = (0, false, 23) by unfold movR; rw [hx])
    rw [show fiR (obs es) p = -1 by unfold fiR; rw [hx]]
    clear hx
    go_wp2_with fail
    go_ret3
    exact ⟨by rw [HR.out]; rfl, HB.out⟩
  | some y =>
    obtain ⟨i, o⟩ := y
    obtain ⟨h1, h2⟩ := obAt_some hx
    have hi : i < es.length := by have := (List.getElem?_eq_some_iff.1 h1).1; rwa [obs_len] at this
    obtain ⟨x, hxx⟩ : ∃ x, es[i]? = some x := ⟨_, List.getElem?_eq_getElem hi⟩
    obtain rfl : x.o = o := by have := obs_get hxx; rw [h1] at this; exact (Option.some.inj this).symm
    obtain ⟨go, cap, cur, e1, e2, e3, e4, e5⟩ := H1.out.ob hxx
    simp only [Value.slice.injEq] at e1
    obtain ⟨rfl, _, rfl⟩ := e1
    have hg : w1.cell? ⟨go, i * 6 + 4, none⟩ = some (.bool x.o.gone.isSome) := e5 4 _ rfl
    have hg5 : w1.cell? ⟨go, i * 6 + 5, none⟩ = some (.int .i64 ((x.o.gone.getD 0 : Nat) : Int)) := e5 5 _ rfl
    have hx2 := H1.out.c2
    have hi' : (i : Int) < es.length := by omega
    have hi0 : (0 : Int) ≤ i := by omega
    have hi1 : ¬ (i : Int) < 0 := by omega
    rw [show fiR (obs es) p = i by unfold fiR; rw [hx]]
    cases hgs : x.o.gone with
    | none =>
      have HR := Aside0.mk (show movR (obs es) p = (0, false, 0) by unfold movR; rw [hx]; simp only [hgs])
      rw [hgs] at hg
      simp only [Option.isSome_none] at hg
      clear e2 e3 e4 e5 h1 h2 hxx hx hgs hg5
      go_wp2_with fail
      go_ret3
      exact ⟨by rw [HR.out]; rfl, HB.out⟩
    | some t =>
      have HR := Aside0.mk (show movR (obs es) p = ((t : Int), true, 0) by unfold movR; rw [hx]; simp only [hgs])
      rw [hgs] at hg hg5
      simp only [Option.isSome_some, Option.getD_some] at hg hg5
      clear e2 e3 e4 e5 h1 h2 hxx hx hgs
      go_wp2_with fail
      go_ret3
      exact ⟨by rw [HR.out]; rfl, HB.out⟩
def NewR (W w' : World) (n : Int) (k : Nat) (e : Ending) : Prop := (¬ (1 ≤ n ∧ n ≤ 1048576) ∧ e = .returned (.tuple #[.pointer none, .int .i64 20]) ∧ w' = W) ∨
      (1 ≤ n ∧ n ≤ 1048576 ∧ ∃ g, e = .returned (.tuple #[.pointer (some ⟨g, 0, none⟩), .int .i64 0]) ∧ W.heap.size ≤ g ∧ Below W.heap.size W w' ∧ ∀ lo' : Own, lo' g = some (k, 0) → RA k w' lo' g n.toNat (.slice none 0 0) [])
theorem new.calls (W : World) (n : Int) (k : Nat) : Calls Try.prog 46 #[.int .i64 n] W fun e w' => NewR W w' n k e := by
  by_cases h0 : n < 1
  · go_enter Try.func46, Try.ntmps46
    go_wp2_with fail
    go_ret2
    exact .inl ⟨by omega, rfl, rfl⟩
  · by_cases h1 : n > 1048576
    · go_enter Try.func46, Try.ntmps46
      go_wp2_with fail
      go_ret2
      exact .inl ⟨by omega, rfl, rfl⟩
    · have h1' : n ≤ 1048576 := by omega
      go_enter Try.func46, Try.ntmps46
      go_wp2_with fail
      go_ret2
      refine .inr ⟨by omega, h1', W.heap.size, rfl, Nat.le_refl _, below_alloc (Below.refl _ _) _, fun lo' hl => ⟨?_, ⟨rfl, .inl ⟨rfl, rfl⟩⟩, hl, fun b hb => (by cases hb), fun i x hx => by simp at hx, fun o ho => by simp [obs] at ho, by simp only [obs, List.map_nil, used_nil]; omega, by omega⟩⟩
      rw [Int.toNat_of_nonneg (by omega)]
      exact blk_new W _
theorem clear.calls {k : Nat} {W : World} {lo : Own} {g sz : Nat} {vo : Value} {es : List RO} (h : RA k W lo g sz vo es) :
    Calls Try.prog 66 #[.pointer (some ⟨g, 0, none⟩)] W fun e w' => e = .returned (.tuple #[]) ∧ RA k w' lo g sz (.slice none 0 0) [] ∧ Upd (fun b => ∃ t, lo b = some (k, t)) W w' := by
  have H := Aside0.mk h
  have hx2 := h.c2
  have hfz := blk_frozen h.hd 2
  have h2 := blk_set h.hd 2 (.slice none 0 0)
  have hfz2 := blk_frozen h2 1
  have hx1 : (W.setCell ⟨g, 2, none⟩ (.slice none 0 0)).cell? ⟨g, 1, none⟩ = some (.int .i64 (used (obs es) : Int)) := (blk_cell h2 1).trans rfl
  have H2 := Aside0.mk (blk_set h2 1 (.int .i64 1))
  clear h h2
  go_enter Try.func66, Try.ntmps66
  go_wp2_with fail
  go_end0
  refine ⟨rfl, ⟨H2.out, ⟨rfl, .inl ⟨rfl, rfl⟩⟩, H.out.gT, fun b hb => (by cases hb), fun i x hx => by simp at hx, fun o ho => by simp [obs] at ho, ?_, H.out.sz1⟩, ((Upd.refl _ W).put (.inl ⟨_, H.out.gT⟩) _ _).put (.inl ⟨_, H.out.gT⟩) _ _⟩
  have := H.out.fit
  have := used_pos (obs es)
  simp only [obs, List.map_nil, used_nil]
  omega
end Go.Proofs.Ytgjcffjicbmkhaa.RfG
end

section
namespace Go.Proofs.Ytgjcffjicbmkhaa.RfH
open Go Go.RowKit Go.Proofs.YtgjcffjicbmkhaaW.PrintWords Go.Proofs.YtgjcffjicbmkhaaW.PrintLast Go.Proofs.YtgjcffjicbmkhaaW.PrintMore Go.Proofs.Ytgjcffjicbmkhaa.RowU Go.Proofs.Ytgjcffjicbmkhaa.ArS Go.Proofs.Ytgjcffjicbmkhaa.ArM Go.Proofs.Ytgjcffjicbmkhaa.ArW Go.Proofs.Ytgjcffjicbmkhaa.ArX Go.Proofs.Ytgjcffjicbmkhaa.ArY Go.Proofs.Ytgjcffjicbmkhaa.ArT Go.Proofs.Ytgjcffjicbmkhaa.GenM Go.Proofs.Ytgjcffjicbmkhaa.GenN Go.Proofs.Ytgjcffjicbmkhaa.GenS Go.Proofs.Ytgjcffjicbmkhaa.BokA Go.Proofs.Ytgjcffjicbmkhaa.ArP Go.Proofs.Ytgjcffjicbmkhaa.RfM Go.Proofs.Ytgjcffjicbmkhaa.RfF Go.Proofs.Ytgjcffjicbmkhaa.RfG Go.Proofs.Ytgjcffjicbmkhaa.LoadA
set_option linter.unusedVariables false
set_option maxRecDepth 100000
structure Lay (k : Nat) (W w' : World) (lo lo' : Own) (X : Nat → Prop) : Prop where
  le : ∀ b t, lo b = some t → lo' b = some t
  own : ∀ b, lo' b ≠ none → lo b ≠ none ∨ X b ∨ W.heap.size ≤ b
  lt : ∀ b, lo' b ≠ none → b < w'.heap.size
  upd : Upd (fun b => ∃ t, lo b = some (k, t)) W w'
theorem Lay.keep {k : Nat} {W w' : World} {lo : Own} (h : Upd (fun b => ∃ t, lo b = some (k, t)) W w') (hlt : ∀ b, lo b ≠ none → b < W.heap.size) : Lay k W w' lo lo (fun _ => False) :=
  ⟨fun _ _ h => h, fun b hb => .inl hb, fun b hb => Nat.lt_of_lt_of_le (hlt b hb) h.size, h⟩
theorem used_snoc' (es : List RO) (x : RO) : used (obs (es ++ [x])) = used (obs es) + (1 + x.o.fields.length) := by rw [obs_snoc, used_snoc]
theorem RA.snoc {k : Nat} {W w2 w4 : World} {lo : Own} {g sz : Nat} {vo : Value} {es : List RO} (h : RA k W lo g sz vo es) (hlt : ∀ b, lo b ≠ none → b < W.heap.size) {x : RO} (hok : x.o.ok) (hgone : x.o.gone = none) (hfit : used (obs es) + (1 + x.o.fields.length) ≤ sz)
    (hF : GV 36 W x.v (x.o.fields.map u64)) (hFn : ∀ b, x.v.ownBlock = some b → lo b = none)
    {go cap : Nat} (r2 : w2.ownsRow 0 152 6 (.slice (some ⟨go, 0, none⟩) (es.length + 1) cap) (es.length + 1) (ocs 1 es ++ oc (used (obs es)) x)) (hgo : vo.ownBlock = some go ∨ W.heap.size ≤ go) (u2 : Upd (fun b => vo.ownBlock = some b) W w2)
    (e4 : w4 = (w2.setCell ⟨g, 2, none⟩ (.slice (some ⟨go, 0, none⟩) (es.length + 1) cap)).setCell ⟨g, 1, none⟩ (.int .i64 ((used (obs es) + (1 + x.o.fields.length) : Nat) : Int))) :
    ∃ lo', RA k w4 lo' g sz (.slice (some ⟨go, 0, none⟩) (es.length + 1) cap) (es ++ [x]) ∧ Lay k W w4 lo lo' (fun b => x.v.ownBlock = some b) := by
  have lFx : ∀ b, x.v.ownBlock = some b → b < W.heap.size := fun b hb => hF.lt b hb
  have lgo : go < w2.heap.size := GenS.own_lt r2 go rfl
  have hgo1 : ∀ t, lo go = some t → t = (k, 1) := fun t ht => by
    rcases hgo with h1 | h1
    · rw [h.tT go h1] at ht; exact (Option.some.inj ht).symm
    · have := hlt go (by rw [ht]; simp); omega
  have hgv : x.v.ownBlock ≠ some go := fun e => by
    rcases hgo with h1 | h1
    · have := hFn go e; rw [h.tT go h1] at this; cases this
    · have := lFx go e; omega
  have hgg : g ≠ go := fun e => by have := hgo1 _ (e ▸ h.gT); simp at this
  have hgx : x.v.ownBlock ≠ some g := fun e => by have := hFn g e; rw [h.gT] at this; cases this
  let lo1 := lo.put x.v (k, 2 + es.length)
  let lo2 := lo1.put (.slice (some ⟨go, 0, none⟩) (es.length + 1) cap) (k, 1)
  have val : ∀ b, lo2 b = if some go = some b then some (k, 1) else if x.v.ownBlock = some b then some (k, 2 + es.length) else lo b := fun b => rfl
  have hle : ∀ b t, lo b = some t → lo2 b = some t := fun b t ht => by
    rw [val]
    by_cases c1 : some go = some b
    · obtain rfl := Option.some.inj c1
      rw [if_pos rfl, hgo1 t ht]
    · rw [if_neg c1, if_neg (fun c2 => by rw [hFn b c2] at ht; cases ht)]; exact ht
  have uA : Upd (fun b => b = g) w2 w4 := by
    rw [e4]
    exact Upd.put (S := fun b => b = g) (Upd.put (S := fun b => b = g) (Upd.refl _ _) (.inl rfl) _ _) (.inl rfl) _ _
  have uB : Upd (fun b => b = g ∨ vo.ownBlock = some b) W w4 := (u2.mono (fun b h => .inr h)).trans (uA.mono (fun b h => .inl h))
  have uK : Upd (fun b => ∃ t, lo b = some (k, t)) W w4 := uB.mono (fun b hb => by
    rcases hb with rfl | hb
    · exact ⟨_, h.gT⟩
    · exact ⟨_, h.tT b hb⟩)
  have hd2 := blk_upd h.hd u2 (fun e => by have := h.tT g e; rw [h.gT] at this; simp at this)
  refine ⟨lo2, ⟨?_, ?_, hle _ _ h.gT, fun b hb => by rw [val, if_pos (show some go = some b from hb)], fun i y hy => ?_, fun o ho => ?_, by rw [used_snoc']; exact hfit, h.sz1⟩, hle, fun b hb => ?_, fun b hb => ?_, uK⟩
  · rw [e4, used_snoc']
    exact blk_set (blk_set hd2 2 _) 1 _
  · rw [List.length_append, List.length_singleton, ocs_snoc, show 1 + (used (obs es) - 1) = used (obs es) by have := used_pos (obs es); omega]
    exact own_upd r2 uA (fun b hb e => by subst e; exact hgg (Option.some.inj hb).symm)
  · by_cases hi : i < es.length
    · rw [List.getElem?_append_left hi] at hy
      obtain ⟨a1, a2⟩ := h.fl i y hy
      refine ⟨a1.upd uB (fun b hb => ?_), fun b hb => hle _ _ (a2 b hb)⟩
      have ht := a2 b hb
      rintro (rfl | h1)
      · rw [h.gT] at ht; simp at ht; omega
      · rw [h.tT b h1] at ht; simp at ht; omega
    · have hil : i = es.length := by
        have := (List.getElem?_eq_some_iff.1 hy).1
        rw [List.length_append, List.length_singleton] at this
        omega
      subst hil
      rw [List.getElem?_append_right (Nat.le_refl _), Nat.sub_self] at hy
      obtain rfl : x = y := by simpa using hy
      refine ⟨hF.upd uB (fun b hb => ?_), fun b hb => ?_⟩
      · have ht := hFn b hb
        rintro (rfl | h1)
        · rw [h.gT] at ht; cases ht
        · rw [h.tT b h1] at ht; cases ht
      · rw [val, if_neg (fun e => hgv (by rw [e]; exact hb)), if_pos hb]
  · rw [obs_snoc] at ho
    rcases List.mem_append.1 ho with h1 | h1
    · exact h.ok o h1
    · rw [List.mem_singleton] at h1; subst h1; exact hok
  · rw [val] at hb
    by_cases c1 : some go = some b
    · obtain rfl := Option.some.inj c1
      rcases hgo with h1 | h1
      · exact .inl (by rw [h.tT go h1]; simp)
      · exact .inr (.inr h1)
    rw [if_neg c1] at hb
    by_cases c2 : x.v.ownBlock = some b
    · exact .inr (.inl c2)
    rw [if_neg c2] at hb
    exact .inl hb
  · rw [val] at hb
    have s2 := u2.size
    have s4 := uA.size
    by_cases c1 : some go = some b
    · obtain rfl := Option.some.inj c1; omega
    rw [if_neg c1] at hb
    by_cases c2 : x.v.ownBlock = some b
    · have := lFx b c2; omega
    rw [if_neg c2] at hb
    have := hlt b hb; omega
def LayR (k : Nat) (W w' : World) (lo : Own) (g sz : Nat) (vo : Value) (es : List RO) (x : RO) (e : Ending) : Prop :=
  (sz < used (obs es) + (1 + x.o.fields.length) ∧ e = .returned (.tuple #[.int .i64 0, .int .i64 22]) ∧ Below W.heap.size W w') ∨
  (used (obs es) + (1 + x.o.fields.length) ≤ sz ∧ e = .returned (.tuple #[.int .i64 (used (obs es) : Int), .int .i64 0]) ∧ ∃ lo' vo', RA k w' lo' g sz vo' (es ++ [x]) ∧ Lay k W w' lo lo' (fun b => x.v.ownBlock = some b))
set_option maxHeartbeats 4000000 in
theorem lay.calls {k : Nat} {W : World} {lo : Own} {g sz : Nat} {vo : Value} {es : List RO} (h : RA k W lo g sz vo es) (hlt : ∀ b, lo b ≠ none → b < W.heap.size) (kd rf : Nat) (fl : List Nat) (Af : Option Addr) (cf : Nat) (hok : (⟨kd, rf, fl, none⟩ : Ob).ok)
    (hF : GV 36 W (.slice Af fl.length cf) (fl.map u64)) (hFn : ∀ b, (Value.slice Af fl.length cf).ownBlock = some b → lo b = none) (hn : fl.length ≤ 2097152) :
    Calls Try.prog 81 #[.pointer (some ⟨g, 0, none⟩), .int .i64 (kd : Int), .int .i64 (rf : Int), .slice Af fl.length cf] W fun e w' => LayR k W w' lo g sz vo es ⟨⟨kd, rf, fl, none⟩, .slice Af fl.length cf⟩ e := by
  have H := Aside0.mk h
  have HT := Aside0.mk (And.intro hlt (And.intro hok (And.intro hF hFn)))
  have hx1 := h.c1
  have hx0 := h.c0
  have hx2 := h.c2
  obtain ⟨u, hu⟩ : ∃ u, u = used (obs es) := ⟨_, rfl⟩
  obtain ⟨n, hnn⟩ : ∃ n, n = fl.length := ⟨_, rfl⟩
  have hu9 : u ≤ 1048576 := by have := h.fit; have := h.sz1; omega
  have hes := h.len
  have hes8 : es.length ≤ 100000000 := by omega
  rw [← hu] at hx1
  rw [← hnn] at hn
  have HN := Aside0.mk (And.intro hu hnn)
  rw [← hnn]
  clear h hlt hok hF hFn
  obtain ⟨s1, hs1⟩ : ∃ s1, s1 = u + 1 := ⟨_, rfl⟩
  obtain ⟨s2, hs2⟩ : ∃ s2, s2 = s1 + n := ⟨_, rfl⟩
  have HS := Aside0.mk (And.intro hs1 hs2)
  have HE := Aside0.mk (And.intro (NumB.sum_i (u : Int) 1 s1 (by omega) (by omega)) (NumB.sum_i (s1 : Int) n s2 (by omega) (by omega)))
  by_cases hf : sz < s2
  · have hf' : (s2 : Int) > (sz : Int) := by omega
    have HR : Aside0 (sz < used (obs es) + (1 + fl.length)) := ⟨by rw [← hu, ← hnn]; omega⟩
    clear hu hnn hf hs1 hs2
    obtain ⟨⟨e1, f1⟩, e2, f2⟩ := HE.out
    go_enter Try.func81, Try.ntmps81
    go_wp2_with fail
    go_ret2
    exact .inl ⟨HR.out, rfl, Below.refl _ _⟩
  · have hf' : ¬ (s2 : Int) > (sz : Int) := by omega
    have HR : Aside0 (used (obs es) + (1 + fl.length) ≤ sz) := ⟨by rw [← hu, ← hnn]; omega⟩
    have HS2 : Aside0 (s2 = used (obs es) + (1 + fl.length)) := ⟨by rw [← hu, ← hnn]; omega⟩
    clear hu hnn hf hs1 hs2
    obtain ⟨⟨e1, f1⟩, e2, f2⟩ := HE.out
    go_enter Try.func81, Try.ntmps81
    go_upto_region 5 with ((with_reducible refine gate_builtin (b := .append) (xs := #[.tmp 29, .tmp 35]) rfl ?_); at_builtin; refine wpList_rows _ rfl (.tmp 29) (.tmp 35) 127 152 rfl Try.underlying127 (.agg #[.int .i64 0, .int .i64 0, .int .i64 0, .slice none 0 0, .bool false, .int .i64 0]) 64 6 ?hi rfl (by decide) ?hby vo es.length (ocs 1 es) rfl ?hv ⟨W.heap.size, 0, none⟩ [.int .i64 (u : Int), .int .i64 (kd : Int), .int .i64 (rf : Int), .slice Af n cf, .bool false, .int .i64 0] rfl rfl ?hc ?h1 hes8 ?_; (case hi => kernel_rfl); (case hby => decide); (case hv => exact own_upd H.out.tb (S := none_) (Upd.of_below (below_alloc (Below.refl _ _) _)) (fun _ _ h => h)); (case hc => (intro j v hj; rw [Addr.add_lit, Nat.zero_add]; exact (blk_cell (blk_new W _) j).trans (by simpa using hj))); (case h1 => simp [Value.oneCell']); intro go cap w2 r2 hgo u2; have R2 := Aside0.mk (And.intro r2 (And.intro hgo u2)); clear r2 hgo u2 hx0 hx1 hx2; have HD2 := Aside0.mk (blk_upd (blk_below H.out.hd (below_alloc (Below.refl _ _) _)) R2.out.2.2 (fun e => by have := H.out.tT g e; rw [H.out.gT] at this; simp at this)); have hfz := blk_frozen HD2.out 2; have hx2 : w2.cell? ⟨g, 2, none⟩ = some vo := (blk_cell HD2.out 2).trans rfl)
    clear hfz hx2
    obtain ⟨w3, hw3⟩ : ∃ w3, w3 = w2.setCell ⟨g, 2, none⟩ (.slice (some ⟨go, 0, none⟩) (es.length + 1) cap) := ⟨_, rfl⟩
    rw [← hw3]
    have HW3 := Aside0.mk hw3
    have HD3 := Aside0.mk (show w3.heap[g]? = some (.cells #[.int .i64 (sz : Int), .int .i64 (used (obs es) : Int), .slice (some ⟨go, 0, none⟩) (es.length + 1) cap] 129 (0, 0)) by rw [hw3]; exact blk_set HD2.out 2 _)
    have hx1 : w3.cell? ⟨g, 1, none⟩ = some (.int .i64 (used (obs es) : Int)) := (blk_cell HD3.out 1).trans rfl
    have hfz := blk_frozen HD3.out 1
    clear hw3
    go_wp2_with fail
    go_ret2
    clear e1 e2 f1 f2
    obtain ⟨lo', hA, hL⟩ := RA.snoc (x := ⟨⟨kd, rf, fl, none⟩, .slice Af fl.length cf⟩) (w4 := w3.setCell ⟨g, 1, none⟩ (.int .i64 (s2 : Int))) H.out HT.out.1 HT.out.2.1 rfl HR.out HT.out.2.2.1 HT.out.2.2.2 (by have := R2.out.1; rw [HN.out.1, HN.out.2] at this; exact this) (by
      rcases R2.out.2.1 with h | h
      · exact .inl h
      · exact .inr (Nat.le_trans (below_alloc (Below.refl W.heap.size W) _).size h)) ((Upd.of_below (below_alloc (Below.refl _ _) _)).trans R2.out.2.2) (by rw [HW3.out, HS2.out])
    rw [← HN.out.2] at hA hL
    exact .inr ⟨HR.out, by rw [HN.out.1]; rfl, lo', _, hA, hL⟩
end Go.Proofs.Ytgjcffjicbmkhaa.RfH
end

section
namespace Go.Proofs.Ytgjcffjicbmkhaa.RfT
open Go Go.RowKit Go.Proofs.YtgjcffjicbmkhaaW.PrintWords Go.Proofs.YtgjcffjicbmkhaaW.PrintLast Go.Proofs.YtgjcffjicbmkhaaW.PrintMore Go.Proofs.Ytgjcffjicbmkhaa.RowU Go.Proofs.Ytgjcffjicbmkhaa.ArS Go.Proofs.Ytgjcffjicbmkhaa.ArM Go.Proofs.Ytgjcffjicbmkhaa.ArW Go.Proofs.Ytgjcffjicbmkhaa.ArX Go.Proofs.Ytgjcffjicbmkhaa.ArY Go.Proofs.Ytgjcffjicbmkhaa.ArT Go.Proofs.Ytgjcffjicbmkhaa.GenM Go.Proofs.Ytgjcffjicbmkhaa.GenN Go.Proofs.Ytgjcffjicbmkhaa.GenS Go.Proofs.Ytgjcffjicbmkhaa.BokA Go.Proofs.Ytgjcffjicbmkhaa.ArP Go.Proofs.Ytgjcffjicbmkhaa.RfM Go.Proofs.Ytgjcffjicbmkhaa.RfF Go.Proofs.Ytgjcffjicbmkhaa.RfG Go.Proofs.Ytgjcffjicbmkhaa.RfH Go.Proofs.Ytgjcffjicbmkhaa.LoadA
set_option linter.unusedVariables false
set_option maxRecDepth 100000
theorem _root_.Go.Proofs.Ytgjcffjicbmkhaa.RfM.RA.went {k : Nat} {W : World} {lo : Own} {g sz : Nat} {vo : Value} {es : List RO} (h : RA k W lo g sz vo es) {i : Nat} {x : RO} (hx : es[i]? = some x) {go t : Nat} (hg : vo.ownBlock = some go) (ht : t ≤ 1048576) :
    RA k ((W.setCell ⟨go, i * 6 + 4, none⟩ (.bool true)).setCell ⟨go, i * 6 + 5, none⟩ (.int .i64 (t : Int))) lo g sz vo (es.set i ⟨Ob.went x.o t, x.v⟩) := by
  have hlt := (List.getElem?_eq_some_iff.1 hx).1
  have htg := h.tT go hg
  have hl : (Ob.went x.o t).fields.length = x.o.fields.length := rfl
  have hu : Upd (fun b => b = go) W ((W.setCell ⟨go, i * 6 + 4, none⟩ (.bool true)).setCell ⟨go, i * 6 + 5, none⟩ (.int .i64 (t : Int))) := Upd.put (S := fun b => b = go) (Upd.put (S := fun b => b = go) (Upd.refl _ W) (.inl rfl) _ _) (.inl rfl) _ _
  have hus : used (obs (es.set i ⟨Ob.went x.o t, x.v⟩)) = used (obs es) := by rw [obs_set]; exact used_set (obs_get hx) hl
  have hcl := ocs_len es 1
  refine ⟨?_, ?_, h.gT, h.tT, fun i' x' hx' => ?_, fun o ho => ?_, by rw [hus]; exact h.fit, h.sz1⟩
  · rw [hus]
    exact blk_upd h.hd hu (fun e => by have := h.gT; rw [e, htg] at this; simp at this)
  · rw [List.length_set, ocs_went es 1 i x hx]
    exact own_set (own_set h.tb hg (by omega) _) hg (by rw [List.length_set]; omega) _
  · have hq : ∀ y : RO, (∀ b, y.v.ownBlock = some b → lo b = some (k, 2 + i')) → GV 36 W y.v (y.o.fields.map u64) → GV 36 ((W.setCell ⟨go, i * 6 + 4, none⟩ (.bool true)).setCell ⟨go, i * 6 + 5, none⟩ (.int .i64 (t : Int))) y.v (y.o.fields.map u64) := fun y hy hv => hv.upd hu (fun b hb e => by
      subst e
      have := hy _ hb
      rw [htg] at this
      simp at this
      omega)
    by_cases c : i' = i
    · subst c
      rw [List.getElem?_set_self hlt] at hx'
      obtain rfl := Option.some.inj hx'
      exact ⟨hq x (h.fl i' x hx).2 (h.fl i' x hx).1, (h.fl i' x hx).2⟩
    · rw [List.getElem?_set_ne (fun e => c e.symm)] at hx'
      exact ⟨hq x' (h.fl i' x' hx').2 (h.fl i' x' hx').1, (h.fl i' x' hx').2⟩
  · rw [obs_set] at ho
    rcases List.mem_or_eq_of_mem_set ho with h1 | h1
    · exact h.ok o h1
    · subst h1
      exact went_ok (h.ok x.o (List.mem_of_getElem? (obs_get hx))) t ht
structure TkR (kd ks : Nat) (W w' : World) (lo : Own) (gd szd gs szs : Nat) (esd ess : List RO) (same : Bool) (p : Int) (e : Ending) : Prop where
  ret : e = .returned (.tuple #[.int .i64 (takR szd (obs esd) (obs ess) p same).1, .int .i64 (takR szd (obs esd) (obs ess) p same).2.1])
  ex : ∃ lo' vd' ed' vs' es', obs ed' = (takR szd (obs esd) (obs ess) p same).2.2.1 ∧ obs es' = (takR szd (obs esd) (obs ess) p same).2.2.2 ∧ RA kd w' lo' gd szd vd' ed' ∧ RA ks w' lo' gs szs vs' es' ∧ (same = true → vd' = vs' ∧ ed' = es') ∧
    (∀ b t, lo b = some t → lo' b = some t) ∧ (∀ b, lo' b ≠ none → lo b ≠ none ∨ W.heap.size ≤ b) ∧ (∀ b, lo' b ≠ none → b < w'.heap.size)
  upd : Upd (fun b => ∃ t, lo b = some (kd, t) ∨ lo b = some (ks, t)) W w'
structure Two2 (kd ks : Nat) (W : World) (lo : Own) (gd szd : Nat) (vd : Value) (esd : List RO) (gs szs : Nat) (vs : Value) (ess : List RO) (same : Bool) : Prop where
  D : RA kd W lo gd szd vd esd
  S : RA ks W lo gs szs vs ess
  eq : same = true → kd = ks ∧ gd = gs ∧ szd = szs ∧ vd = vs ∧ esd = ess
  ne : same = false → kd ≠ ks
  lt : ∀ b, lo b ≠ none → b < W.heap.size
theorem Two2.below {kd ks : Nat} {W w' : World} {lo : Own} {gd szd : Nat} {vd : Value} {esd : List RO} {gs szs : Nat} {vs : Value} {ess : List RO} {same : Bool} (h : Two2 kd ks W lo gd szd vd esd gs szs vs ess same) (hb : Below W.heap.size W w') : Two2 kd ks w' lo gd szd vd esd gs szs vs ess same :=
  ⟨h.D.below hb, h.S.below hb, h.eq, h.ne, fun b hn => Nat.lt_of_lt_of_le (h.lt b hn) hb.size⟩
theorem Two2.keep {kd ks : Nat} {W w' : World} {lo : Own} {gd szd : Nat} {vd : Value} {esd : List RO} {gs szs : Nat} {vs : Value} {ess : List RO} {same : Bool} (h : Two2 kd ks W lo gd szd vd esd gs szs vs ess same) (hb : Below W.heap.size W w') {p a b : Int} (ht : takR szd (obs esd) (obs ess) p same = (a, b, obs esd, obs ess)) :
    TkR kd ks W w' lo gd szd gs szs esd ess same p (.returned (.tuple #[.int .i64 a, .int .i64 b])) := by
  refine ⟨by rw [ht], ⟨lo, vd, esd, vs, ess, by rw [ht], by rw [ht], h.D.below hb, h.S.below hb, fun hs => ⟨(h.eq hs).2.2.2.1, (h.eq hs).2.2.2.2⟩, fun _ _ h => h, fun b hb => .inl hb, fun b hn => Nat.lt_of_lt_of_le (h.lt b hn) hb.size⟩, Upd.of_below hb⟩
theorem Two2.took {kd ks : Nat} {W w1 w2 : World} {lo lo' : Own} {gd szd : Nat} {vd vd' : Value} {esd : List RO} {gs szs : Nat} {vs : Value} {ess : List RO} {same : Bool} (h : Two2 kd ks W lo gd szd vd esd gs szs vs ess same) (hb : Below W.heap.size W w1) {i : Nat} {x x' : RO} (hx : ess[i]? = some x) (hgone : x.o.gone = none) (hx' : x'.o = x.o)
    (hA : RA kd w2 lo' gd szd vd' (esd ++ [x'])) (hL : Lay kd w1 w2 lo lo' (fun b => x'.v.ownBlock = some b)) (hxv : ∀ b, x'.v.ownBlock = some b → W.heap.size ≤ b) {p : Int} (hp : obAt (obs ess) p = some (i, x.o)) (hfit : ¬ szd < used (obs esd) + (1 + x.o.fields.length)) :
    ∃ vs2 es2, RA ks w2 lo' gs szs vs2 es2 ∧ es2[i]? = some x ∧ (same = true → vs2 = vd') ∧ (same = false → vs2 = vs) ∧ ∀ go w3, vs2.ownBlock = some go → w3 = (w2.setCell ⟨go, i * 6 + 4, none⟩ (.bool true)).setCell ⟨go, i * 6 + 5, none⟩ (.int .i64 (used (obs esd) : Int)) →
      TkR kd ks W w3 lo gd szd gs szs esd ess same p (.returned (.tuple #[.int .i64 (used (obs esd) : Int), .int .i64 0])) := by
  have htk : takR szd (obs esd) (obs ess) p same = ((used (obs esd) : Int), 0, if same then (obs esd ++ [x.o]).set i (Ob.went x.o (used (obs esd))) else obs esd ++ [x.o], (if same then obs esd ++ [x.o] else obs ess).set i (Ob.went x.o (used (obs esd)))) := by
    unfold takR
    rw [hp]
    simp only [hgone, if_neg hfit]
  have ht : used (obs esd) ≤ 1048576 := Nat.le_trans h.D.fit h.D.sz1
  have hil := (List.getElem?_eq_some_iff.1 hx).1
  have own2 : ∀ b, lo' b ≠ none → lo b ≠ none ∨ W.heap.size ≤ b := fun b hb2 => by
    rcases hL.own b hb2 with h1 | h1 | h1
    · exact .inl h1
    · exact .inr (hxv b h1)
    · exact .inr (Nat.le_trans hb.size h1)
  have uW : Upd (fun b => ∃ t, lo b = some (kd, t) ∨ lo b = some (ks, t)) W w2 := (Upd.of_below hb).trans (hL.upd.mono (fun b ⟨t, ht⟩ => ⟨t, .inl ht⟩))
  cases same with
  | true =>
    obtain ⟨rfl, rfl, rfl, rfl, rfl⟩ := h.eq rfl
    have hx2 : (esd ++ [x'])[i]? = some x := by rw [List.getElem?_append_left hil]; exact hx
    refine ⟨vd', esd ++ [x'], hA, hx2, fun _ => rfl, fun h => (by cases h), fun go w3 hgo hw3 => ?_⟩
    have hwt := hA.went hx2 (t := used (obs esd)) hgo ht
    rw [← hw3] at hwt
    have hlt3 : w3.heap.size = w2.heap.size := by rw [hw3]; simp [World.setCell]
    refine ⟨by rw [htk], ⟨lo', vd', _, vd', _, ?_, ?_, hwt, hwt, fun _ => ⟨rfl, rfl⟩, hL.le, own2, fun b hb2 => by rw [hlt3]; exact hL.lt b hb2⟩, ?_⟩
    · rw [htk, obs_set, obs_snoc, hx']; rfl
    · rw [htk, obs_set, obs_snoc, hx']; rfl
    · rw [hw3]
      have hgo2 : (∃ t, lo go = some (kd, t) ∨ lo go = some (kd, t)) ∨ W.heap.size ≤ go := by
        have h1 := hA.tT go hgo
        rcases own2 go (by rw [h1]; simp) with h2 | h2
        · cases hl : lo go with
          | none => exact absurd hl h2
          | some t =>
            have := hL.le go t hl
            rw [h1] at this
            obtain rfl := Option.some.inj this
            exact .inl ⟨1, .inl rfl⟩
        · exact .inr h2
      exact (uW.put hgo2 _ _).put hgo2 _ _
  | false =>
    have hS2 : RA ks w2 lo' gs szs vs ess := (h.S.below hb).upd hL.upd (fun b t hb2 ⟨t', ht'⟩ => by rw [hb2] at ht'; simp only [Option.some.injEq, Prod.mk.injEq] at ht'; exact h.ne rfl ht'.1.symm) (fun b t hb2 => hL.le b _ hb2)
    refine ⟨vs, ess, hS2, hx, fun h => (by cases h), fun _ => rfl, fun go w3 hgo hw3 => ?_⟩
    have hwt := hS2.went hx (t := used (obs esd)) hgo ht
    rw [← hw3] at hwt
    have hlt3 : w3.heap.size = w2.heap.size := by rw [hw3]; simp [World.setCell]
    have hgos := hS2.tT go hgo
    have hlo : lo go = some (ks, 1) := h.S.tT go hgo
    have u3 : Upd (fun b => b = go) w2 w3 := by rw [hw3]; exact Upd.put (S := fun b => b = go) (Upd.put (S := fun b => b = go) (Upd.refl _ w2) (.inl rfl) _ _) (.inl rfl) _ _
    refine ⟨by rw [htk], ⟨lo', vd', esd ++ [x'], vs, _, ?_, ?_, hA.upd u3 (fun b t hb2 e => by subst e; rw [hgos] at hb2; simp only [Option.some.injEq, Prod.mk.injEq] at hb2; exact h.ne rfl hb2.1.symm) (fun _ _ h => h), hwt, fun h => (by cases h), hL.le, own2, fun b hb2 => by rw [hlt3]; exact hL.lt b hb2⟩, ?_⟩
    · rw [htk, obs_snoc, hx']; rfl
    · rw [htk, obs_set]; rfl
    · rw [hw3]
      exact (uW.put (.inl ⟨1, .inr hlo⟩) _ _).put (.inl ⟨1, .inr hlo⟩) _ _
theorem ints_u64 (l : List Nat) : nums .u64 (l.map Int.ofNat) = l.map u64 := by
  unfold nums u64
  rw [List.map_map]
  rfl
set_option maxHeartbeats 8000000 in
theorem take.calls {kd ks : Nat} {W : World} {lo : Own} {gd szd : Nat} {vd : Value} {esd : List RO} {gs szs : Nat} {vs : Value} {ess : List RO} {same : Bool} (h : Two2 kd ks W lo gd szd vd esd gs szs vs ess same) (p : Int) :
    Calls Try.prog 62 #[.pointer (some ⟨gd, 0, none⟩), .pointer (some ⟨gs, 0, none⟩), .int .i64 p] W fun e w' => TkR kd ks W w' lo gd szd gs szs esd ess same p e := by
  have H := Aside0.mk h
  obtain ⟨A, c, hv, hcc⟩ := GenS.own_slice h.S.tb
  subst hv
  clear h
  have HFC := Aside0.mk (find.calls H.out.S p)
  go_enter Try.func62, Try.ntmps62
  go_wp2_with fail
  refine HFC.out.mono ?_
  rintro e w1 ⟨rfl, hb⟩
  have H1 := Aside0.mk (H.out.below hb)
  have HB := Aside0.mk hb
  clear hb HFC
  cases hx : obAt (obs ess) p with
  | none =>
    have HR := Aside0.mk (H.out.keep HB.out (p := p) (a := 0) (b := 23) (by unfold takR; rw [hx]))
    rw [show fiR (obs ess) p = -1 by unfold fiR; rw [hx]]
    clear hx
    go_wp2_with fail
    go_ret2
    exact HR.out
  | some y =>
    obtain ⟨i, o⟩ := y
    obtain ⟨h1, h2⟩ := obAt_some hx
    have hi : i < ess.length := by have := (List.getElem?_eq_some_iff.1 h1).1; rwa [obs_len] at this
    obtain ⟨x, hxx⟩ : ∃ x, ess[i]? = some x := ⟨_, List.getElem?_eq_getElem hi⟩
    obtain rfl : x.o = o := by have := obs_get hxx; rw [h1] at this; exact (Option.some.inj this).symm
    obtain ⟨hok, hfl, hr, hs⟩ := H1.out.S.okx hxx
    obtain ⟨go, cap, cur, e1, e2, e3, e4, e5⟩ := H1.out.S.ob hxx
    simp only [Value.slice.injEq] at e1
    obtain ⟨rfl, _, rfl⟩ := e1
    have hF := (H1.out.S.fl i x hxx).1
    obtain ⟨Af, cf, hf⟩ := hF.slice
    rw [List.length_map] at hf
    obtain ⟨nf, hnf⟩ : ∃ nf, nf = x.o.fields.length := ⟨_, rfl⟩
    rw [← hnf] at hf hfl
    have HC : Aside0 (∀ j u, (#[.int .i64 (place (obs ess) i : Int), .int .i64 (x.o.kind : Int), .int .i64 (x.o.refs : Int), .slice Af nf cf, .bool x.o.gone.isSome, .int .i64 ((x.o.gone.getD 0 : Nat) : Int)]).toList[j]? = some u → w1.cell? ((⟨go, i * 6, none⟩ : Addr).add j) = some u) := ⟨fun j u hu => by
      rw [Addr.add_lit]
      exact e5 j u (by rw [← hu]; simp [oc, hf])⟩
    have HSZ := Aside0.mk (show (Try.prog.info? 152).map (·.size) = some 6 by kernel_rfl)
    have HSZ2 := Aside0.mk (show (Try.prog.info? 152).map (·.size) = some (#[.int .i64 (place (obs ess) i : Int), .int .i64 (x.o.kind : Int), .int .i64 (x.o.refs : Int), .slice Af nf cf, .bool x.o.gone.isSome, .int .i64 ((x.o.gone.getD 0 : Nat) : Int)] : Array Value).size by kernel_rfl)
    have HONE := Aside0.mk (show (#[.int .i64 (place (obs ess) i : Int), .int .i64 (x.o.kind : Int), .int .i64 (x.o.refs : Int), .slice Af nf cf, .bool x.o.gone.isSome, .int .i64 ((x.o.gone.getD 0 : Nat) : Int)] : Array Value).all (·.oneCell') = true by simp [Value.oneCell'])
    have hx2 := H1.out.S.c2
    have hi' : (i : Int) < ess.length := by omega
    have hi0 : (0 : Int) ≤ i := by omega
    have hi1 : ¬ (i : Int) < 0 := by omega
    rw [show fiR (obs ess) p = i by unfold fiR; rw [hx]]
    have hRI : ReadsInt w1 .u64 Af nf (x.o.fields.map Int.ofNat) := by
      refine ⟨by rw [List.length_map, hnf], by omega, fun h0 => ?_⟩
      rcases hF with ⟨_, hnil⟩ | ⟨gf, cf', ef, hG⟩
      · have := congrArg List.length hnil
        rw [List.length_map, List.length_nil] at this
        omega
      · rw [hf] at ef
        simp only [Value.slice.injEq] at ef
        refine ⟨⟨gf, 0, none⟩, ef.1, fun j hj => ?_⟩
        rw [Addr.add_lit, Nat.zero_add]
        have hjj : x.o.fields[j]? = some x.o.fields[j] := List.getElem?_eq_getElem (by omega)
        rw [hG.get j (u64 x.o.fields[j]) (by rw [List.getElem?_map, hjj]; rfl)]
        rw [List.getD_eq_getElem?_getD, List.getElem?_map, hjj]
        rfl
    have HX := Aside0.mk (And.intro hxx (And.intro hx (And.intro hok (And.intro hnf (And.intro hfl (And.intro hr hs))))))
    have HRI := Aside0.mk hRI
    clear hxx hx h1 h2 hok hfl hr hs e2 e3 e4 e5 hF hf hnf hRI
    go_upto_region 5 with (first
      | ((with_reducible refine gate_dst (N := 24) rfl ?_); refine wpList_load_at rfl 152 (.tmp 23) rfl (⟨go, i * 6, none⟩ : Addr) rfl (#[.int .i64 (place (obs ess) i : Int), .int .i64 (x.o.kind : Int), .int .i64 (x.o.refs : Int), .slice Af nf cf, .bool x.o.gone.isSome, .int .i64 ((x.o.gone.getD 0 : Nat) : Int)]).toList _ HC.out Try.underlying152 rfl HSZ.out ?_)
      | ((with_reducible refine gate_dst (N := 9) rfl ?_); refine box_event ?hg (N := 9) ?hd (cs := #[.int .i64 0, .int .i64 0, .int .i64 0, .slice none 0 0, .bool false, .int .i64 0]) (t := 152) ?hr ?_; (case hd => rfl); (case hg => rfl); (case hr => first | (go_simp; done) | (go_simp; rfl)); intro ga hga w7 hbox hb; have BA := Aside0.mk hbox; have HB7 := Aside0.mk hb; have GA := Aside0.mk hga; clear hbox hb hga)
      | ((with_reducible refine gate_store (p := 9) rfl ?_); refine wpList_store_row rfl 152 (.tmp 9) (.tmp 24) rfl ga #[.int .i64 (place (obs ess) i : Int), .int .i64 (x.o.kind : Int), .int .i64 (x.o.refs : Int), .slice Af nf cf, .bool x.o.gone.isSome, .int .i64 ((x.o.gone.getD 0 : Nat) : Int)] rfl rfl 152 #[.int .i64 0, .int .i64 0, .int .i64 0, .slice none 0 0, .bool false, .int .i64 0] BA.out HSZ2.out rfl HONE.out ?_; obtain ⟨w8, hw8⟩ : ∃ w8, w8 = w7.setRow ga #[.int .i64 (place (obs ess) i : Int), .int .i64 (x.o.kind : Int), .int .i64 (x.o.refs : Int), .slice Af nf cf, .bool x.o.gone.isSome, .int .i64 ((x.o.gone.getD 0 : Nat) : Int)] := ⟨_, rfl⟩; rw [← hw8]; have BC := Aside0.mk (show w8.heap[ga]? = some (.cells #[.int .i64 (place (obs ess) i : Int), .int .i64 (x.o.kind : Int), .int .i64 (x.o.refs : Int), .slice Af nf cf, .bool x.o.gone.isSome, .int .i64 ((x.o.gone.getD 0 : Nat) : Int)] 152 (0, 0)) by rw [hw8]; exact setRow_heap _ _ _ _ _ _ BA.out); have HB8 := Aside0.mk (show Below w1.heap.size w1 w8 by rw [hw8]; exact below_setRow HB7.out (by rw [GA.out]; exact Nat.le_refl _) _); clear hw8))
    generalize Value.agg (#[.int .i64 (place (obs ess) i : Int), .int .i64 (x.o.kind : Int), .int .i64 (x.o.refs : Int), .slice Af nf cf, .bool x.o.gone.isSome, .int .i64 ((x.o.gone.getD 0 : Nat) : Int)]).toList.toArray = vq
    have b1 : w8.cell? ⟨ga, 1, none⟩ = some (.int .i64 (x.o.kind : Int)) := (blk_cell BC.out 1).trans rfl
    have b2 : w8.cell? ⟨ga, 2, none⟩ = some (.int .i64 (x.o.refs : Int)) := (blk_cell BC.out 2).trans rfl
    have b3 : w8.cell? ⟨ga, 3, none⟩ = some (.slice Af nf cf) := (blk_cell BC.out 3).trans rfl
    have b4 : w8.cell? ⟨ga, 4, none⟩ = some (.bool x.o.gone.isSome) := (blk_cell BC.out 4).trans rfl
    have b5 : w8.cell? ⟨ga, 5, none⟩ = some (.int .i64 ((x.o.gone.getD 0 : Nat) : Int)) := (blk_cell BC.out 5).trans rfl
    cases hgs : x.o.gone with
    | some t =>
      have HR := Aside0.mk (fun w' (hb : Below W.heap.size W w') => H.out.keep hb (p := p) (a := t) (b := 0) (by unfold takR; rw [HX.out.2.1]; simp only [hgs]))
      rw [hgs] at b4 b5
      simp only [Option.isSome_some, Option.getD_some] at b4 b5
      clear hgs
      go_wp2_with fail
      go_ret2
      exact HR.out _ (below_next HB.out HB8.out)
    | none =>
      have HG := Aside0.mk hgs
      rw [hgs] at b4
      simp only [Option.isSome_none] at b4
      clear hgs b5
      have H8 := Aside0.mk (H1.out.below HB8.out)
      have HRI8 := Aside0.mk (HRI.out.below HB8.out)
      go_upto_region 9 with ((with_reducible refine gate_builtin (b := .append) (xs := #[.tmp 29, .tmp 31]) rfl ?_); at_builtin; refine print_append_row (w0 := w8) w8.heap.size rfl (.tmp 29) (.tmp 31) 34 36 .u64 8 rfl Try.underlying34 (by kernel_rfl) (by decide) (.slice none 0 0) [] (x.o.fields.map Int.ofNat) Af nf cf rfl rfl (World.ownsRow_nil w8 _ _ 1) HRI8.out (Below.refl _ _) (Nat.le_refl _) (by have := HX.out.2.2.2; simp only [List.length_nil]; omega) ?_; intro v9 w9 ho hb9 _ _; have HO9 := Aside0.mk ho; have HB9 := Aside0.mk hb9; clear ho hb9)
      have hxo : (⟨x.o.kind, x.o.refs, x.o.fields, none⟩ : Ob) = x.o := by
        have := HG.out
        cases hq : x.o with
        | mk a b c d => rw [hq] at this; simp only at this; subst this; rfl
      have hgv : GV 36 w9 v9 (x.o.fields.map u64) ∧ ∀ b, v9.ownBlock = some b → w8.heap.size ≤ b := by
        have h1 := HO9.out
        rw [List.nil_append, ints_u64] at h1
        exact GV.of_own h1 (by rw [List.length_map, List.length_map])
      obtain ⟨A9, c9, hv9⟩ := hgv.1.slice
      rw [List.length_map, ← HX.out.2.2.2.1] at hv9
      subst hv9
      have H9 := Aside0.mk (H8.out.below HB9.out)
      have HL0 := lay.calls H9.out.D H9.out.lt x.o.kind x.o.refs x.o.fields A9 c9 (by rw [hxo]; exact HX.out.2.2.1) (by rw [← HX.out.2.2.2.1]; exact hgv.1) (fun b hb => by
        rw [← HX.out.2.2.2.1] at hb
        have h1 := hgv.2 b hb
        exact Classical.byContradiction fun hne => by have := H8.out.lt b hne; omega) (by have := HX.out.2.2.2; omega)
      rw [hxo, ← HX.out.2.2.2.1] at HL0
      have HL := Aside0.mk HL0
      have HGV := Aside0.mk hgv
      have d1 := pw_cell_below HB9.out b1
      have d2 := pw_cell_below HB9.out b2
      clear HL0 hgv b1 b2 b3 b4 HO9
      go_wp2_with fail
      refine HL.out.mono ?_
      rintro e wa hR
      have HRR := Aside0.mk hR
      clear hR
      rcases HRR.out with ⟨h1, rfl, hb⟩ | ⟨h1, rfl, lo', vo', hA, hL⟩
      · have HR := Aside0.mk (H.out.keep (below_next (below_next (below_next HB.out HB8.out) HB9.out) hb) (p := p) (a := 0) (b := 22) (by unfold takR; rw [HX.out.2.1]; simp only [HG.out]; rw [if_pos h1]))
        clear h1 hb
        go_wp2_with fail
        go_ret2
        exact HR.out
      · obtain ⟨vs2, es2, hS2, hx2', _, _, hfin⟩ := H.out.took (x := x) (x' := ⟨x.o, .slice A9 nf c9⟩) (w1 := w9) (below_next (below_next HB.out HB8.out) HB9.out) HX.out.1 HG.out rfl hA hL (fun b hb => Nat.le_trans (Nat.le_trans HB.out.size HB8.out.size) (HGV.out.2 b hb)) HX.out.2.1 (by simp only at h1; omega)
        obtain ⟨g2, cap2, cur2, rfl, q2, q3, q4, q5⟩ := hS2.ob hx2'
        have hz2 := hS2.c2
        have hc4 := q5 4 _ rfl
        have hc5 := q5 5 _ rfl
        have hfz4 := blk_frozen q3 (i * 6 + 4)
        have q3' := blk_set q3 (i * 6 + 4) (.bool true)
        have hfz5 := blk_frozen q3' (i * 6 + 5)
        have hc5' := (set_keep (W := wa) (g := g2) (k := i * 6 + 4) (i := i * 6 + 5) (v := .bool true) ⟨_, _, q3⟩ (by omega)).trans hc5
        have hgg : g2 ≠ gs := fun e => by have := hS2.gT; rw [← e, q4] at this; simp at this
        have hz2' := (upd_keep (S := fun b => b = g2) (i := 2) ⟨_, _, hS2.hd⟩ (Upd.put (S := fun b => b = g2) (Upd.refl _ wa) (.inl rfl) (i * 6 + 4) (.bool true)) (fun e => hgg e.symm)).trans hz2
        have hle2 := GenS.own_slice hS2.tb
        have hi2 : (i : Int) < es2.length := by have := (List.getElem?_eq_some_iff.1 hx2').1; omega
        have HFIN := Aside0.mk hfin
        clear hfin hS2 hx2' q2 q3 q4 q5 q3' hc5 h1 hA hL hgg hle2 d1 d2
        go_wp2_with fail
        go_ret2
        exact HFIN.out g2 _ rfl rfl
end Go.Proofs.Ytgjcffjicbmkhaa.RfT
end
