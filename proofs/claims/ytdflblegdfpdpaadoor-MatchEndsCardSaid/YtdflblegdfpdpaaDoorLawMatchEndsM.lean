-- JOINED by tailmerge.py: CloneW PEx19 LexW PEx14 PEx20 PEx21 EndsS EndsW LawMatchEnds
import Derived.Test.YtdflblegdfpdpaaDoorAppF
import Derived.Test.YtdflblegdfpdpaaDoorRefE
import Derived.Test.YtdflblegdfpdpaaDoorHeldW
import Derived.Lib.Bytealg
import Derived.Lib.SliceRun
import Derived.Test.YtdflblegdfpdpaaDoorPEx0
import Derived.Test.YtdflblegdfpdpaaDoorLexBad
import Derived.Laws.Tables
import Derived.Deep.RegionHeld3
import Derived.Test.YtdflblegdfpdpaaDoorDigW
import Derived.Test.YtdflblegdfpdpaaDoorNumT
import Derived.Test.YtdflblegdfpdpaaDoorAskW
import Derived.Test.YtdflblegdfpdpaaDoorWakeG
import Derived.Test.YtdflblegdfpdpaaDoorPEx4
import Derived.Test.YtdflblegdfpdpaaDoorCards
import Derived.Test.YtdflblegdfpdpaaDoorTie
import Derived.WalkKit
import Derived.ProofKit
import Derived.OpenShut
import Derived.ShutString
import Derived.ChangeOld
import Derived.Below
import Derived.SizedLaws
import Derived.Deep.DeepHandedRow
import Derived.Lib.LaidTab

section
/- bytes.Clone, bytes.Compare: the machine's calls. -/
namespace Go.Proofs.YtdflblegdfpdpaaDoor.CloneW
open Go Go.RowKit Go.Proofs.YtdflblegdfpdpaaDoorW.PrintWords Go.Proofs.YtdflblegdfpdpaaDoorW.PrintLast Go.Proofs.YtdflblegdfpdpaaDoorW.PrintMore Go.Proofs.YtdflblegdfpdpaaDoor.ScoreW Go.Proofs.YtdflblegdfpdpaaDoor.AppF Go.Proofs.YtdflblegdfpdpaaDoor.RefE
set_option linter.unusedVariables false
set_option maxRecDepth 100000

/-- append onto a list without room, of whatever can be handed in. -/
theorem wpList_append_fullW {ops : Array Oper} {rest : List Oper} {o : Oper} {a : Act} {w : World} {Q : Exit → Act → World → Prop}
    (hg : o.guard = none) (s x : Operand) (hop : o.op = Op.call { callee := Callee.builtin Builtin.append, args := #[s, x], argTypes := #[22, 22] })
    (As : Addr) (l1 : List Int) (hs : a.eval s = .slice (some As) l1.length l1.length) (hC1 : Kd.C (Kd.int .u8) w (some As) l1.length l1)
    (Ax : Option Addr) (c : Nat) (l2 : List Int) (hx : a.eval x = .slice Ax l2.length c) (hC2 : Kd.C (Kd.int .u8) w Ax l2.length l2) (hb : l1.length + l2.length ≤ 140737488355328) (l3 : List Int) (h3 : l3 = l1 ++ l2)
    (hK : ∀ A' c' w', Kd.C (Kd.int .u8) w' A' l3.length l3 → l3.length ≤ c' → Below w.heap.size w w' → (∀ ad, A' = some ad → ad.block = As.block ∨ w.heap.size ≤ ad.block) → wpList Tryd.prog ops Q rest (a.put o.dst (.slice A' l3.length c')) w') :
    wpList Tryd.prog ops Q (o :: rest) a w := by
  subst h3
  by_cases h0 : l2.length = 0
  · obtain rfl : l2 = [] := List.eq_nil_of_length_eq_zero h0
    refine wpList_plain hg fun K hK' => ?_
    have hrun := run_empty w o.type As l1.length c Ax
    unfold Oper.wp
    simp only [List.length_nil] at hx
    simp [execOp, hop, resolve, invoke, builtin, hs, hx, hrun, Result.andThen]
    refine hK' _ _ ?_
    have := hK (some As) l1.length w (by rw [List.append_nil]; exact hC1) (by rw [List.append_nil]; exact Nat.le_refl _) (Below.refl _ _) (fun ad h => .inl (by obtain rfl := Option.some.inj h; rfl))
    rw [List.append_nil] at this
    exact this
  · obtain ⟨ad, hAx, _⟩ := Kd.at_int hC2 (0 : Int) (by omega) (by omega)
    subst hAx
    obtain ⟨i, hi, z0, z1, z2⟩ := infoB
    refine wpList_append_grows w hg s x 22 hop 5 i (.int .u8 0) 1 1 Tryd.underlying22 hi z0 z1 z2 rfl (by decide) (some As) l1.length l1.length (l1.map (Value.int .u8)) hs (fun h => by cases h) (by simp) (fun b hb' => by obtain rfl := Option.some.inj hb'; exact cells_of hC1)
      ad l2.length c (l2.map (Value.int .u8)) hx (by simp) (cells_of hC2) (fun u hu => by obtain ⟨y, _, rfl⟩ := List.mem_map.1 hu; rfl) (by omega) (by unfold maxLen; omega) (by omega) ?_
    intro v' w' ho hgr
    have hB : Below w.heap.size w w' := (Below.refl _ w).grown hgr (Nat.le_refl _) (by intro k hk; simp at hk)
    have ho' : w'.ownsRow w.heap.size 5 1 v' (l1 ++ l2).length (encs (Value.int .u8) (l1 ++ l2)) := by
      rw [List.length_append, show encs (Value.int .u8) (l1 ++ l2) = l1.map (Value.int .u8) ++ l2.map (Value.int .u8) by simp [encs]]
      exact ho
    obtain ⟨A', c', rfl, hl, hC⟩ := Kd.R_reads (Kd.R_of_own (h1 := fun _ => rfl) ho' (ok := fun _ => True) (fun _ _ => trivial))
    refine hK A' c' w' hC hl hB (fun ad had => .inr ?_)
    rcases ho'.2 with ⟨h, _⟩ | ⟨g, cap, cur, h, hb, _⟩
    · injection h with h1 _ _
      rw [had] at h1
      cases h1
    · injection h with h1 _ _
      rw [had] at h1
      obtain rfl := Option.some.inj h1
      exact hb

theorem eql_nil (w : World) (a : Option Addr) (n c n' c' : Nat) : (binOp .eql 22 (.slice a n c) (.slice none n' c')).run Tryd.prog w = .ok (.bool a.isNone) w := Lib.run_eql_slice_nil w _ _ a n c n' c' Tryd.underlying22
set_option maxHeartbeats 1600000 in
theorem clone.calls (A : Option Addr) (c : Nat) (l : List Int) (w : World) (hr : Kd.C (Kd.int .u8) w A l.length l) (hl : l.length ≤ 140737488355328) :
    Calls Tryd.prog 35 #[.slice A l.length c] w fun e w' => ∃ A' c', e = .returned (.slice A' l.length c') ∧ l.length ≤ c' ∧ Kd.C (Kd.int .u8) w' A' l.length l ∧ Below w.heap.size w w' ∧ ∀ ad, A' = some ad → w.heap.size ≤ ad.block := by
  cases A with
  | none =>
    have h0 : l.length = 0 := by
      rcases Nat.eq_zero_or_pos l.length with h | h
      · exact h
      · obtain ⟨ad, hh, _⟩ := Kd.at_int hr (0 : Int) (by omega) (by omega)
        cases hh
    obtain rfl : l = [] := List.eq_nil_of_length_eq_zero h0
    have q22 := eql_nil
    go_enter Tryd.func35, Tryd.ntmps35
    go_wp2
    go_ret
    exact ⟨none, 0, rfl, by simp, Kd.C_nil _ _, Below.refl _ _, fun ad h => by cases h⟩
  | some ad =>
    have HR := Aside0.mk hr
    clear hr
    have q22 := eql_nil
    go_enter Tryd.func35, Tryd.ntmps35
    go_wp2_with (first
      | ((with_reducible refine gate_builtin (b := .append) (xs := #[.tmp 5, .tmp 6]) rfl ?_); at_builtin; refine wpList_append_fullW rfl (.tmp 5) (.tmp 6) rfl ⟨w.heap.size, 0, none⟩ [] rfl (got_const _ _ rfl [] _ (by decide)) (some ad) c l rfl (Kd.C_alloc HR.out _) (by simp only [List.length_nil]; omega) l rfl ?_; intro A' c' w' hC hc hb hA; have HA := Aside0.mk hA; have HC := Aside0.mk hC; have HB := Aside0.mk (PB.below_next (below_alloc (Below.refl w.heap.size w) _) hb); clear hC hb hA))
    go_ret
    exact ⟨A', c', rfl, hc, HC.out, HB.out, fun ad h => (HA.out ad h).elim (fun h => by rw [h]; exact Nat.le_refl _) (fun h => by rw [size_alloc] at h; omega)⟩

theorem add_block (a : Addr) (j : Nat) : (a.add j).block = a.block := by
  unfold Addr.add
  split <;> rfl
theorem C_setRow {W : World} {ad : Addr} {n : Nat} {l : List Int} (h : Kd.C (Kd.int .u8) W (some ad) n l) (g : Nat) (cs : Array Value) (hg : ad.block ≠ g) : Kd.C (Kd.int .u8) (W.setRow g cs) (some ad) n l := by
  obtain ⟨h1, h2, h3⟩ := h
  refine ⟨h1, h2, fun h0 => ?_⟩
  obtain ⟨a, ha, hc⟩ := h3 h0
  obtain rfl := Option.some.inj ha
  refine ⟨ad, rfl, fun j p hp => ?_⟩
  obtain ⟨c, hc1, hc2, hc3⟩ := hc j p hp
  refine ⟨c, hc1, hc2, fun k u hk => ?_⟩
  rw [cell_setRow_other _ _ _ _ (by rw [add_block]; exact hg)]
  exact hc3 k u hk
/-- Bytes read out of a slice. -/
def pushAll (acc : ByteArray) : List Int → ByteArray
  | [] => acc
  | x :: r => pushAll (acc.push x.toNat.toUInt8) r
theorem pushAll_list (l : List Int) : ∀ acc : ByteArray, (pushAll acc l).data.toList = acc.data.toList ++ l.map fun x => x.toNat.toUInt8 := by
  induction l with
  | nil => intro acc; simp [pushAll]
  | cons x r ih =>
    intro acc
    rw [pushAll, ih]
    simp [ByteArray.push]
theorem run_loadBytes {P : Program} (w : World) (l : List Int) : ∀ (a : Addr) (acc : ByteArray), (∀ j u, (l.map (Value.int .u8))[j]? = some u → w.cell? (a.add j) = some u) → (Extern.Bytes.loadBytes a l.length acc).run P w = .ok (pushAll acc l) w := by
  induction l with
  | nil => intro a acc _; rfl
  | cons x r ih =>
    intro a acc h
    have h0 := h 0 (.int .u8 x) rfl
    rw [show a.add 0 = a by simp [Addr.add]] at h0
    show (Extern.Bytes.loadBytes a (r.length + 1) acc).run P w = _
    unfold Extern.Bytes.loadBytes
    rw [Sem.run_bind, run_load, h0]
    simp only [Result.andThen]
    refine ih (a.add 1) _ (fun j u hj => ?_)
    rw [HeldW.add_add, Nat.add_comm]
    exact h (j + 1) u (by simpa using hj)
theorem run_bytesOf {P : Program} (w : World) (A : Option Addr) (c : Nat) (l : List Int) (h : Kd.C (Kd.int .u8) w A l.length l) : (Extern.Bytes.bytesOf (.slice A l.length c)).run P w = .ok (pushAll .empty l) w := by
  cases A with
  | none =>
    have h0 : l.length = 0 := by
      rcases Nat.eq_zero_or_pos l.length with h' | h'
      · exact h'
      · obtain ⟨ad, hh, _⟩ := Kd.at_int h (0 : Int) (by omega) (by omega)
        cases hh
    obtain rfl : l = [] := List.eq_nil_of_length_eq_zero h0
    rfl
  | some ad => exact run_loadBytes w l ad _ (cells_of h)
theorem u8_lt {x y : Int} (hx : 0 ≤ x ∧ x < 256) (hy : 0 ≤ y ∧ y < 256) : x.toNat.toUInt8 < y.toNat.toUInt8 ↔ x < y := by
  rw [UInt8.lt_iff_toNat_lt]
  simp only [Nat.toUInt8, UInt8.toNat_ofNat']
  rw [Nat.mod_eq_of_lt (show x.toNat < 2 ^ 8 by omega), Nat.mod_eq_of_lt (show y.toNat < 2 ^ 8 by omega)]
  omega
theorem compare_cmp : ∀ a b : List Int, (∀ x ∈ a, 0 ≤ x ∧ x < 256) → (∀ x ∈ b, 0 ≤ x ∧ x < 256) → Lib.compareBytes (a.map fun x => x.toNat.toUInt8) (b.map fun x => x.toNat.toUInt8) = cmpL a b
  | [], [], _, _ => rfl
  | [], _ :: _, _, _ => rfl
  | _ :: _, [], _, _ => rfl
  | x :: a, y :: b, ha, hb => by
    have ih := compare_cmp a b (fun z hz => ha z (List.mem_cons_of_mem _ hz)) (fun z hz => hb z (List.mem_cons_of_mem _ hz))
    have hx := ha x (List.mem_cons_self ..)
    have hy := hb y (List.mem_cons_self ..)
    show (if x.toNat.toUInt8 < y.toNat.toUInt8 then -1 else if y.toNat.toUInt8 < x.toNat.toUInt8 then 1 else Lib.compareBytes _ _) = (if x < y then -1 else if x > y then 1 else cmpL a b)
    rw [ih]
    simp only [u8_lt hx hy, u8_lt hy hx]
set_option maxHeartbeats 1600000 in
theorem compare.calls (A : Option Addr) (c : Nat) (a : List Int) (A1 : Option Addr) (c1 : Nat) (b : List Int) (w : World) (hr : Kd.C (Kd.int .u8) w A a.length a) (hr1 : Kd.C (Kd.int .u8) w A1 b.length b) (ha : ∀ x ∈ a, 0 ≤ x ∧ x < 256) (hb : ∀ x ∈ b, 0 ≤ x ∧ x < 256) :
    Calls Tryd.prog 36 #[.slice A a.length c, .slice A1 b.length c1] w fun e w' => e = .returned (.int .i64 (cmpL a b)) ∧ w' = w := by
  have hrun : (Extern.BytealgCompare.compare #[.slice A a.length c, .slice A1 b.length c1]).run Tryd.prog w = .ok (.int .i64 (cmpL a b)) w := by
    change Sem.run Tryd.prog (do pure (goInt (Extern.BytealgCompare.cmp (← Extern.Bytes.bytesOf (.slice A a.length c)) (← Extern.Bytes.bytesOf (.slice A1 b.length c1))))) w = _
    simp only [Sem.run_bind, Sem.run_pure, run_bytesOf w A c a hr, run_bytesOf w A1 c1 b hr1, Result.andThen]
    rw [Lib.cmp_eq, pushAll_list, pushAll_list, ← compare_cmp a b ha hb]
    rfl
  have HRUN := Aside0.mk hrun
  clear hrun hr hr1
  go_enter Tryd.func36, Tryd.ntmps36
  go_wp2
  rw [run_callFunc_extern Tryd.func42 (by kernel_rfl) (by kernel_rfl) (by kernel_rfl) (e := Extern.BytealgCompare.compare) (by kernel_rfl), HRUN.out]
  simp only [Result.andThen]
  rw [Oper.upon_value]
  go_wp2
  go_ret
  exact ⟨rfl, rfl⟩
end Go.Proofs.YtdflblegdfpdpaaDoor.CloneW
end

section
-- PRINTED by print.py (a twelfth state) out of the translation. Not trusted: Lean checks it.
namespace Go.Proofs.YtdflblegdfpdpaaDoor.PE
open Go.RowKit Go.Proofs.YtdflblegdfpdpaaDoorW.PrintWords Go.Proofs.YtdflblegdfpdpaaDoorW.PrintLast Go.Proofs.YtdflblegdfpdpaaDoorW.PrintMore
attribute [local go_sem] max2_int min2_int max_two min_two max_three min_three max_four min_four   -- for this text's walks alone
open PA PB
set_option linter.unusedVariables false
set_option linter.unusedSimpArgs false

/-! ### match_within: function 33 -/
def match_within.j0 : Nat → Int → Int → Bool → Int → Int → Bool → Bool → Option (Bool)
  | 0, _, _, _, _, _, _, _ => none
  | k + 1, x0, x1, x2, x3, x4, x5, x18 => if x18 = true then (some false) else (if x1 = 0 then (if x0 < 0 then (some false) else (if x0 = 0 then (if x2 = true then (some false) else (if x4 > 0 then (some true) else (if x3 < 0 then (some true) else (if x3 = 0 then (some (!x5)) else (some false))))) else (if x4 > 0 then (some true) else (if x3 < 0 then (some true) else (if x3 = 0 then (some (!x5)) else (some false)))))) else (if x4 > 0 then (some true) else (if x3 < 0 then (some true) else (if x3 = 0 then (some (!x5)) else (some false)))))
def match_within.f (k : Nat) (a0 : Int) (a1 : Int) (a2 : Bool) (a3 : Int) (a4 : Int) (a5 : Bool) : Option (Bool) := if a1 > 0 then (match_within.j0 k a0 a1 a2 a3 a4 a5 true) else (match_within.j0 k a0 a1 a2 a3 a4 a5 (decide (a4 < 0)))
theorem match_within.mono_l : ∀ k, (∀ y0 y1 y2 y3 y4 y5 y6, LeO (match_within.j0 k y0 y1 y2 y3 y4 y5 y6) (match_within.j0 (k + 1) y0 y1 y2 y3 y4 y5 y6))
  | 0 => fun _ _ _ _ _ _ _ r h => by simp [match_within.j0] at h
  | k + 1 => by
    have ih0 := match_within.mono_l k
    · intro y0 y1 y2 y3 y4 y5 y6
      unfold match_within.j0
      repeat' first
      | (with_reducible exact ih0 _ _ _ _ _ _ _)
      | (with_reducible exact LeO.refl _)
      | (with_reducible exact LeO.none _)
      | (with_reducible refine LeO.ite ?_ ?_)
      | (with_reducible refine LeO.bind ?_ (fun _ => ?_))
      | exact ih0 _ _ _ _ _ _ _
      | exact LeO.none _
      | refine LeO.ite ?_ ?_
      | refine LeO.bind ?_ (fun _ => ?_)
theorem match_within.mono : ∀ a0 a1 a2 a3 a4 a5 k, LeO (match_within.f k a0 a1 a2 a3 a4 a5) (match_within.f (k + 1) a0 a1 a2 a3 a4 a5) := by
  intro a0 a1 a2 a3 a4 a5 k
  have ih0 := match_within.mono_l k
  unfold match_within.f
  repeat' first
      | (with_reducible exact ih0 _ _ _ _ _ _ _)
      | (with_reducible exact LeO.refl _)
      | (with_reducible exact LeO.none _)
      | (with_reducible refine LeO.ite ?_ ?_)
      | (with_reducible refine LeO.bind ?_ (fun _ => ?_))
      | exact ih0 _ _ _ _ _ _ _
      | exact LeO.none _
      | refine LeO.ite ?_ ?_
      | refine LeO.bind ?_ (fun _ => ?_)
set_option maxHeartbeats 8000000 in
set_option maxRecDepth 100000 in
theorem match_within.calls (k : Nat) (a0 : Int) (a1 : Int) (a2 : Bool) (a3 : Int) (a4 : Int) (a5 : Bool) (r : Bool) (w : World) (h : match_within.f k a0 a1 a2 a3 a4 a5 = some r) :
    Calls Tryd.prog 33 #[.int .i64 a0, .int .i64 a1, .bool a2, .int .i64 a3, .int .i64 a4, .bool a5] w fun e w' => e = .returned (.bool r) ∧ Drawn0 w w' := by
  have H : (if a1 > 0 then (match_within.j0 k a0 a1 a2 a3 a4 a5 true) else (match_within.j0 k a0 a1 a2 a3 a4 a5 (decide (a4 < 0)))) = some r := h
  clear h
  have HC7 := Aside0.mk H
  clear H
  go_enter Tryd.func33, Tryd.ntmps33
  go_upto_region 1 with (fail)
  go_cut [18] (fun v18 wc => ∃ (kq : Nat) (x18_6 : Bool), v18 = .bool x18_6 ∧ Aside0 (match_within.j0 kq a0 a1 a2 a3 a4 a5 x18_6 = some r) ∧ Aside0 (kq ≤ k) ∧ Drawn0 w wc)
  case first =>
    have H := HC7.out
    clear HC7
    by_cases c8 : a1 > 0
    · rw [if_pos c8] at H
      have c8b0 : decide (0 < a1) = true := decide_eq_true c8
      clear c8
      (first | rw [c8b0] | (simp only [i64_w, i32_w]; rw [c8b0]) | skip)
      have H' := Aside0.mk H
      clear H
      go_wp2
      go_meet
      case rel => exact ⟨_, (true), (by first | rfl | (simp; done) | (simp [*]; done)), H', ⟨by first | omega | exact Nat.le_refl _⟩, by repeat (first | exact Drawn0.refl _ | apply Drawn0.step)⟩
    · rw [if_neg c8] at H
      have c8b0 : decide (0 < a1) = false := decide_eq_false c8
      clear c8
      (first | rw [c8b0] | (simp only [i64_w, i32_w]; rw [c8b0]) | skip)
      have H' := Aside0.mk H
      clear H
      go_wp2
      go_meet
      case rel => exact ⟨_, (decide (a4 < 0)), (by first | rfl | (simp; done) | (simp [*]; done)), H', ⟨by first | omega | exact Nat.le_refl _⟩, by repeat (first | exact Drawn0.refl _ | apply Drawn0.step)⟩
  case rest =>
    clear HC7
    try clear p2
    try clear c3
    try clear c8
    try clear c8b0
    obtain ⟨kq, x18_6, rfl, HA, HJ6, ⟨mc6, rfl⟩⟩ := hcut
    cases kq with
    | zero => exact absurd HA.out (by simp [match_within.j0])
    | succ kj6 =>
      have H := HA.out
      clear HA
      simp only [match_within.j0] at H
      by_cases c9 : x18_6 = true
      · subst c9
        have H1 : (some false) = some r := by rw [if_pos rfl] at H; exact H
        clear H
        have H := H1
        clear H1
        obtain rfl := Option.some.inj H
        go_wp2
        go_ret
        exact ⟨by first | rfl | (simp; done) | (simp [*]; done), by repeat (first | exact Drawn0.refl _ | apply Drawn0.step)⟩
      · replace c9 := Bool.eq_false_iff.mpr c9
        subst c9
        have H1 : (if a1 = 0 then (if a0 < 0 then (some false) else (if a0 = 0 then (if a2 = true then (some false) else (if a4 > 0 then (some true) else (if a3 < 0 then (some true) else (if a3 = 0 then (some (!a5)) else (some false))))) else (if a4 > 0 then (some true) else (if a3 < 0 then (some true) else (if a3 = 0 then (some (!a5)) else (some false)))))) else (if a4 > 0 then (some true) else (if a3 < 0 then (some true) else (if a3 = 0 then (some (!a5)) else (some false))))) = some r := by rw [if_neg (show ¬ (false = true) by decide)] at H; exact H
        clear H
        have H := H1
        clear H1
        by_cases c10 : a1 = 0
        · rw [if_pos c10] at H
          have c10b0 : (a1 == 0) = true := beq_iff_eq.mpr c10
          have c10b1 : (a1 != 0) = false := bne_eq_false_iff_eq.mpr c10
          clear c10
          by_cases c11 : a0 < 0
          · rw [if_pos c11] at H
            have c11b0 : decide (a0 < 0) = true := decide_eq_true c11
            clear c11
            obtain rfl := Option.some.inj H
            go_wp2
            go_ret
            exact ⟨by first | rfl | (simp; done) | (simp [*]; done), by repeat (first | exact Drawn0.refl _ | apply Drawn0.step)⟩
          · rw [if_neg c11] at H
            have c11b0 : decide (a0 < 0) = false := decide_eq_false c11
            clear c11
            by_cases c12 : a0 = 0
            · rw [if_pos c12] at H
              have c12b0 : (a0 == 0) = true := beq_iff_eq.mpr c12
              have c12b1 : (a0 != 0) = false := bne_eq_false_iff_eq.mpr c12
              clear c12
              by_cases c13 : a2 = true
              · subst c13
                have H1 : (some false) = some r := by rw [if_pos rfl] at H; exact H
                clear H
                have H := H1
                clear H1
                obtain rfl := Option.some.inj H
                go_wp2
                go_ret
                exact ⟨by first | rfl | (simp; done) | (simp [*]; done), by repeat (first | exact Drawn0.refl _ | apply Drawn0.step)⟩
              · replace c13 := Bool.eq_false_iff.mpr c13
                subst c13
                have H1 : (if a4 > 0 then (some true) else (if a3 < 0 then (some true) else (if a3 = 0 then (some (!a5)) else (some false)))) = some r := by rw [if_neg (show ¬ (false = true) by decide)] at H; exact H
                clear H
                have H := H1
                clear H1
                by_cases c14 : a4 > 0
                · rw [if_pos c14] at H
                  have c14b0 : decide (0 < a4) = true := decide_eq_true c14
                  clear c14
                  obtain rfl := Option.some.inj H
                  go_wp2
                  go_ret
                  exact ⟨by first | rfl | (simp; done) | (simp [*]; done), by repeat (first | exact Drawn0.refl _ | apply Drawn0.step)⟩
                · rw [if_neg c14] at H
                  have c14b0 : decide (0 < a4) = false := decide_eq_false c14
                  clear c14
                  by_cases c15 : a3 < 0
                  · rw [if_pos c15] at H
                    have c15b0 : decide (a3 < 0) = true := decide_eq_true c15
                    clear c15
                    obtain rfl := Option.some.inj H
                    go_wp2
                    go_ret
                    exact ⟨by first | rfl | (simp; done) | (simp [*]; done), by repeat (first | exact Drawn0.refl _ | apply Drawn0.step)⟩
                  · rw [if_neg c15] at H
                    have c15b0 : decide (a3 < 0) = false := decide_eq_false c15
                    clear c15
                    by_cases c16 : a3 = 0
                    · rw [if_pos c16] at H
                      have c16b0 : (a3 == 0) = true := beq_iff_eq.mpr c16
                      have c16b1 : (a3 != 0) = false := bne_eq_false_iff_eq.mpr c16
                      clear c16
                      obtain rfl := Option.some.inj H
                      go_wp2
                      go_ret
                      exact ⟨by first | rfl | (simp; done) | (simp [*]; done), by repeat (first | exact Drawn0.refl _ | apply Drawn0.step)⟩
                    · rw [if_neg c16] at H
                      have c16b0 : (a3 == 0) = false := beq_eq_false_iff_ne.mpr c16
                      have c16b1 : (a3 != 0) = true := bne_iff_ne.mpr c16
                      obtain rfl := Option.some.inj H
                      go_wp2
                      go_ret
                      exact ⟨by first | rfl | (simp; done) | (simp [*]; done), by repeat (first | exact Drawn0.refl _ | apply Drawn0.step)⟩
            · rw [if_neg c12] at H
              have c12b0 : (a0 == 0) = false := beq_eq_false_iff_ne.mpr c12
              have c12b1 : (a0 != 0) = true := bne_iff_ne.mpr c12
              by_cases c17 : a4 > 0
              · rw [if_pos c17] at H
                have c17b0 : decide (0 < a4) = true := decide_eq_true c17
                clear c17
                obtain rfl := Option.some.inj H
                go_wp2
                go_ret
                exact ⟨by first | rfl | (simp; done) | (simp [*]; done), by repeat (first | exact Drawn0.refl _ | apply Drawn0.step)⟩
              · rw [if_neg c17] at H
                have c17b0 : decide (0 < a4) = false := decide_eq_false c17
                clear c17
                by_cases c18 : a3 < 0
                · rw [if_pos c18] at H
                  have c18b0 : decide (a3 < 0) = true := decide_eq_true c18
                  clear c18
                  obtain rfl := Option.some.inj H
                  go_wp2
                  go_ret
                  exact ⟨by first | rfl | (simp; done) | (simp [*]; done), by repeat (first | exact Drawn0.refl _ | apply Drawn0.step)⟩
                · rw [if_neg c18] at H
                  have c18b0 : decide (a3 < 0) = false := decide_eq_false c18
                  clear c18
                  by_cases c19 : a3 = 0
                  · rw [if_pos c19] at H
                    have c19b0 : (a3 == 0) = true := beq_iff_eq.mpr c19
                    have c19b1 : (a3 != 0) = false := bne_eq_false_iff_eq.mpr c19
                    clear c19
                    obtain rfl := Option.some.inj H
                    go_wp2
                    go_ret
                    exact ⟨by first | rfl | (simp; done) | (simp [*]; done), by repeat (first | exact Drawn0.refl _ | apply Drawn0.step)⟩
                  · rw [if_neg c19] at H
                    have c19b0 : (a3 == 0) = false := beq_eq_false_iff_ne.mpr c19
                    have c19b1 : (a3 != 0) = true := bne_iff_ne.mpr c19
                    obtain rfl := Option.some.inj H
                    go_wp2
                    go_ret
                    exact ⟨by first | rfl | (simp; done) | (simp [*]; done), by repeat (first | exact Drawn0.refl _ | apply Drawn0.step)⟩
        · rw [if_neg c10] at H
          have c10b0 : (a1 == 0) = false := beq_eq_false_iff_ne.mpr c10
          have c10b1 : (a1 != 0) = true := bne_iff_ne.mpr c10
          by_cases c20 : a4 > 0
          · rw [if_pos c20] at H
            have c20b0 : decide (0 < a4) = true := decide_eq_true c20
            clear c20
            obtain rfl := Option.some.inj H
            go_wp2
            go_ret
            exact ⟨by first | rfl | (simp; done) | (simp [*]; done), by repeat (first | exact Drawn0.refl _ | apply Drawn0.step)⟩
          · rw [if_neg c20] at H
            have c20b0 : decide (0 < a4) = false := decide_eq_false c20
            clear c20
            by_cases c21 : a3 < 0
            · rw [if_pos c21] at H
              have c21b0 : decide (a3 < 0) = true := decide_eq_true c21
              clear c21
              obtain rfl := Option.some.inj H
              go_wp2
              go_ret
              exact ⟨by first | rfl | (simp; done) | (simp [*]; done), by repeat (first | exact Drawn0.refl _ | apply Drawn0.step)⟩
            · rw [if_neg c21] at H
              have c21b0 : decide (a3 < 0) = false := decide_eq_false c21
              clear c21
              by_cases c22 : a3 = 0
              · rw [if_pos c22] at H
                have c22b0 : (a3 == 0) = true := beq_iff_eq.mpr c22
                have c22b1 : (a3 != 0) = false := bne_eq_false_iff_eq.mpr c22
                clear c22
                obtain rfl := Option.some.inj H
                go_wp2
                go_ret
                exact ⟨by first | rfl | (simp; done) | (simp [*]; done), by repeat (first | exact Drawn0.refl _ | apply Drawn0.step)⟩
              · rw [if_neg c22] at H
                have c22b0 : (a3 == 0) = false := beq_eq_false_iff_ne.mpr c22
                have c22b1 : (a3 != 0) = true := bne_iff_ne.mpr c22
                obtain rfl := Option.some.inj H
                go_wp2
                go_ret
                exact ⟨by first | rfl | (simp; done) | (simp [*]; done), by repeat (first | exact Drawn0.refl _ | apply Drawn0.step)⟩

end Go.Proofs.YtdflblegdfpdpaaDoor.PE
end

section
/- match.Lex of a bound, match.InLex: the machine's calls. -/
namespace Go.Proofs.YtdflblegdfpdpaaDoor.LexW
open Go Go.RowKit Go.Proofs.YtdflblegdfpdpaaDoorW.PrintWords Go.Proofs.YtdflblegdfpdpaaDoorW.PrintLast Go.Proofs.YtdflblegdfpdpaaDoorW.PrintMore Go.Proofs.YtdflblegdfpdpaaDoor.NumS Go.Proofs.YtdflblegdfpdpaaDoor.ScoreW Go.Proofs.YtdflblegdfpdpaaDoor.CloneW Go.Proofs.YtdflblegdfpdpaaDoor.RefE
set_option linter.unusedVariables false
set_option maxRecDepth 100000
theorem one3 (x : Int) (A : Option Addr) (n c : Nat) (b : Bool) : (#[.int .i64 x, .slice A n c, .bool b] : Array Value).all (·.oneCell') = true := by
  rw [Array.all_eq_true_iff_forall_mem]
  intro v hv
  have hv : v ∈ ([.int .i64 x, .slice A n c, .bool b] : List Value) := by simpa using hv
  simp only [List.mem_cons, List.not_mem_nil, or_false] at hv
  rcases hv with rfl | rfl | rfl <;> rfl
theorem cell_lt {W : World} {g : Nat} {o : Obj} (h : W.heap[g]? = some o) : g < W.heap.size := by
  rcases Nat.lt_or_ge g W.heap.size with h1 | h1
  · exact h1
  · rw [Array.getElem?_eq_none h1] at h; cases h
theorem cell_lt2 {W : World} {a : Addr} {v : Value} (h : W.cell? a = some v) : a.block < W.heap.size := by
  rcases Nat.lt_or_ge a.block W.heap.size with h1 | h1
  · exact h1
  · unfold World.cell? at h
    rw [Array.getElem?_eq_none h1] at h
    cases h
theorem C_setRow2 {W : World} {A : Option Addr} {n : Nat} {l : List Int} (h : Kd.C (Kd.int .u8) W A n l) (g : Nat) (cs : Array Value) (hg : ∀ ad, A = some ad → ad.block ≠ g) : Kd.C (Kd.int .u8) (W.setRow g cs) A n l := by
  cases A with
  | some ad => exact C_setRow h g cs (hg ad rfl)
  | none =>
    obtain ⟨h1, h2, h3⟩ := h
    exact ⟨h1, h2, fun h0 => by obtain ⟨a, ha, _⟩ := h3 h0; cases ha⟩
theorem setRow_heap2 (w : World) (g : Nat) (cs old : Array Value) (t : TypeId) (h : w.heap[g]? = some (.cells old t (0, 0))) : (w.setRow g cs).heap[g]? = some (.cells cs t (0, 0)) := setRow_heap _ _ _ _ _ _ h

set_option maxHeartbeats 1600000 in
theorem lexFarMinus.calls (A : Option Addr) (c : Nat) (w : World) (hr : Kd.C (Kd.int .u8) w A 1 [45]) :
    Calls Tryd.prog 24 #[.slice A 1 c] w fun e w' => e = .returned (.tuple #[.agg #[.int .i64 (-1), .slice none 0 0, .bool false], .int .i64 0]) ∧ Below w.heap.size w w' := by
  have e1 := str_is [45] (by unfold inB; decide) [45] (by unfold inB; decide) [45] (by simp [strOfNums])
  have e2 := str_is [45] (by unfold inB; decide) [43] (by unfold inB; decide) [43] (by simp [strOfNums])
  rw [show decide (([45] : List Int) = [45]) = true by decide] at e1
  rw [show decide (([45] : List Int) = [43]) = false by decide] at e2
  have hs := Kd.C_string (P := Tryd.prog) (w := w.alloc (.cells #[.int .i64 0, .slice none 0 0, .bool false] 43)) (A := A) (c := c) Tryd.underlying22 Tryd.underlying5 Tryd.underlying9 (Kd.C_alloc (xs := [45]) hr _)
  have hs : (convert 22 9 (.slice A 1 c)).run Tryd.prog (w.alloc (.cells #[.int .i64 0, .slice none 0 0, .bool false] 43)) = .ok (.string (strOfNums [45])) (w.alloc (.cells #[.int .i64 0, .slice none 0 0, .bool false] 43)) := hs
  generalize strOfNums [45] = sx at *
  clear hr
  go_enter Tryd.func24, Tryd.ntmps24
  go_wp2
  refine bodyPost_ret (GlobW.results_cell_row_tmp (P := Tryd.prog) rfl _ _ w.heap.size 43 _ (0, 0) _ rfl (blk_new w _) Tryd.underlying43 rfl (by kernel_rfl)) rfl ?_
  exact ⟨rfl, below_alloc (Below.refl _ _) _⟩

set_option maxHeartbeats 1600000 in
theorem lexFarPlus.calls (A : Option Addr) (c : Nat) (w : World) (hr : Kd.C (Kd.int .u8) w A 1 [43]) :
    Calls Tryd.prog 24 #[.slice A 1 c] w fun e w' => e = .returned (.tuple #[.agg #[.int .i64 (1), .slice none 0 0, .bool false], .int .i64 0]) ∧ Below w.heap.size w w' := by
  have e1 := str_is [43] (by unfold inB; decide) [45] (by unfold inB; decide) [45] (by simp [strOfNums])
  have e2 := str_is [43] (by unfold inB; decide) [43] (by unfold inB; decide) [43] (by simp [strOfNums])
  rw [show decide (([43] : List Int) = [45]) = false by decide] at e1
  rw [show decide (([43] : List Int) = [43]) = true by decide] at e2
  have hs := Kd.C_string (P := Tryd.prog) (w := w.alloc (.cells #[.int .i64 0, .slice none 0 0, .bool false] 43)) (A := A) (c := c) Tryd.underlying22 Tryd.underlying5 Tryd.underlying9 (Kd.C_alloc (xs := [43]) hr _)
  have hs : (convert 22 9 (.slice A 1 c)).run Tryd.prog (w.alloc (.cells #[.int .i64 0, .slice none 0 0, .bool false] 43)) = .ok (.string (strOfNums [43])) (w.alloc (.cells #[.int .i64 0, .slice none 0 0, .bool false] 43)) := hs
  generalize strOfNums [43] = sx at *
  clear hr
  go_enter Tryd.func24, Tryd.ntmps24
  go_wp2
  refine bodyPost_ret (GlobW.results_cell_row_tmp (P := Tryd.prog) rfl _ _ w.heap.size 43 _ (0, 0) _ rfl (blk_new w _) Tryd.underlying43 rfl (by kernel_rfl)) rfl ?_
  exact ⟨rfl, below_alloc (Below.refl _ _) _⟩

set_option maxHeartbeats 3200000 in
theorem lexInShut.calls (A : Option Addr) (c : Nat) (l t : List Int) (w : World) (hr : Kd.C (Kd.int .u8) w A l.length l) (hb : inB l) (hpos : 0 < l.length) (hcl : l.length ≤ c) (hx : rd l 0 = 91) (ht : t = l.drop 1) (hl : l.length ≤ 140737488355328) :
    Calls Tryd.prog 24 #[.slice A l.length c] w fun e w' => ∃ A' c', e = .returned (.tuple #[.agg #[.int .i64 0, .slice A' t.length c', .bool false], .int .i64 0]) ∧ t.length ≤ c' ∧ Kd.C (Kd.int .u8) w' A' t.length t ∧ Below w.heap.size w w' := by
  have e1 := str_is l hb [45] (by unfold inB; decide) [45] (by simp [strOfNums])
  have e2 := str_is l hb [43] (by unfold inB; decide) [43] (by simp [strOfNums])
  rw [decide_eq_false (fun h => by rw [h] at hx; exact absurd hx (by decide))] at e1
  rw [decide_eq_false (fun h => by rw [h] at hx; exact absurd hx (by decide))] at e2
  have hs := Kd.C_string (P := Tryd.prog) (w := w.alloc (.cells #[.int .i64 0, .slice none 0 0, .bool false] 43)) (A := A) (c := c) Tryd.underlying22 Tryd.underlying5 Tryd.underlying9 (Kd.C_alloc hr _)
  obtain ⟨At, hrd, hCd, hcd⟩ := cut_drop2 l A c hcl 1 (by omega)
  have hrd : ∀ W : World, (Instr.slice 22 (.slice A l.length c) (some (.int .i64 1)) none none).run Tryd.prog W = .ok (.slice At t.length (c - 1)) W := by rw [ht]; exact hrd
  have HTC := Aside0.mk (show Kd.C (Kd.int .u8) w At t.length t by rw [ht]; exact hCd w hr)
  have htl : t.length ≤ 140737488355328 := by rw [ht, List.length_drop]; omega
  obtain ⟨ad, rfl, hc⟩ := Kd.at_int hr (0 : Int) (by omega) (by omega)
  have hcA : w.cell? ad = some (.int .u8 91) := by rw [hx] at hc; simpa [Addr.add] using hc
  have hadn : ad.block ≠ w.heap.size := by have := cell_lt2 hcA; omega
  have hcA2 := Lib.cell?_alloc_some (.cells #[.int .i64 0, .slice none 0 0, .bool false] 43) hcA
  have d0 : decide ((0 : Int) < l.length) = true := decide_eq_true (by omega)
  have d0' : decide (0 < l.length) = true := decide_eq_true hpos
  clear hc hcA hb hr hx ht hCd hcd hcl
  go_enter Tryd.func24, Tryd.ntmps24
  go_upto_region 6 with fail
  have hS0 : (w.alloc (.cells #[.int .i64 0, .slice none 0 0, .bool false] 43)).drew.cell? ad = some (.int .u8 91) ∧ Aside0 (∃ cs : Array Value, cs.size = 3 ∧ (w.alloc (.cells #[.int .i64 0, .slice none 0 0, .bool false] 43)).drew.heap[w.heap.size]? = some (.cells cs 43 (0, 0))) ∧ Aside0 (Below w.heap.size w (w.alloc (.cells #[.int .i64 0, .slice none 0 0, .bool false] 43)).drew) := ⟨hcA2, ⟨_, rfl, blk_new w _⟩, ⟨(below_alloc (Below.refl _ _) _).drew⟩⟩
  clear hs e1 e2 hcA2
  refine wp_region_held_drew (S := (fun w' => w'.cell? ad = some (.int .u8 91) ∧ Aside0 (∃ cs : Array Value, cs.size = 3 ∧ w'.heap[w.heap.size]? = some (.cells cs 43 (0, 0))) ∧ Aside0 (Below w.heap.size w w'))) (by kernel_rfl) (by exact hS0) (fun hHeld => ?_)
  refine wpAnyH_take (i := 0) (oi := ({ dst := some 30, op := Go.Op.move (Go.Operand.tmp 0), type := 22, pos := "match.go:173", after := #[], guard := none } : Oper)) (v := ?vp0) rfl (by kernel_rfl) (by kernel_rfl) (by kernel_rfl) (fun _ _ _ h => h) (Or.inl ⟨by rfl, ?hyp0⟩) (by assumption) ?restp0
  case hyp0 => (intro w hSw; (try dsimp only at hSw); go_simp; (try with_reducible rfl))
  (try simp only [Act.put, List.setIfInBounds_toArray, List.set_cons_zero, List.set_cons_succ])
  refine wpAnyH_take (i := 1) (oi := ({ dst := some 31, op := Go.Op.slice 22 (Go.Operand.tmp 30) (some (Go.Operand.const (Go.Value.int Go.IntKind.i64 1))) none none, type := 22, pos := "match.go:173", after := #[{ on := 0, ground := Go.Ground.data }], guard := none } : Oper)) (v := ?vp1) rfl (by kernel_rfl) (by kernel_rfl) (by kernel_rfl) (fun _ _ _ h => h) (Or.inl ⟨by rfl, ?hyp1⟩) (by assumption) ?restp1
  case hyp1 => (intro w hSw; (try dsimp only at hSw); go_simp; (try with_reducible rfl))
  (try simp only [Act.put, List.setIfInBounds_toArray, List.set_cons_zero, List.set_cons_succ])
  refine wpAnyH_take (i := 3) (oi := ({ dst := some 33, op := Go.Op.move (Go.Operand.tmp 0), type := 22, pos := "match.go:173", after := #[], guard := none } : Oper)) (v := ?vp3) rfl (by kernel_rfl) (by kernel_rfl) (by kernel_rfl) (fun _ _ _ h => h) (Or.inl ⟨by rfl, ?hyp3⟩) (by assumption) ?restp3
  case hyp3 => (intro w hSw; (try dsimp only at hSw); go_simp; (try with_reducible rfl))
  (try simp only [Act.put, List.setIfInBounds_toArray, List.set_cons_zero, List.set_cons_succ])
  refine wpAnyH_take (i := 4) (oi := ({ dst := some 34, op := Go.Op.indexAddr 22 (Go.Operand.tmp 33) (Go.Operand.const (Go.Value.int Go.IntKind.i64 0)), type := 0, pos := "match.go:173", after := #[{ on := 3, ground := Go.Ground.data }], guard := none } : Oper)) (v := ?vp4) rfl (by kernel_rfl) (by kernel_rfl) (by kernel_rfl) (fun _ _ _ h => h) (Or.inl ⟨by rfl, ?hyp4⟩) (by assumption) ?restp4
  case hyp4 => (intro w hSw; (try dsimp only at hSw); go_simp; (try with_reducible rfl))
  (try simp only [Act.put, List.setIfInBounds_toArray, List.set_cons_zero, List.set_cons_succ])
  refine wpAnyH_take (i := 5) (oi := ({ dst := some 35, op := Go.Op.load 5 (Go.Operand.tmp 34), type := 5, pos := "match.go:173", after := #[{ on := 4, ground := Go.Ground.data }], guard := none } : Oper)) (v := ?vp5) rfl (by kernel_rfl) (by kernel_rfl) (by kernel_rfl) (fun _ _ _ h => h) (Or.inl ⟨by rfl, ?hyp5⟩) (by assumption) ?restp5
  case hyp5 => (intro w hSw; (try dsimp only at hSw); go_simp; (try with_reducible rfl))
  (try simp only [Act.put, List.setIfInBounds_toArray, List.set_cons_zero, List.set_cons_succ])
  refine wpAnyH_take (i := 6) (oi := ({ dst := some 36, op := Go.Op.binOp Go.BinOp.eql 5 (Go.Operand.tmp 35) (Go.Operand.const (Go.Value.int Go.IntKind.u8 40)) 5, type := 4, pos := "match.go:173", after := #[{ on := 5, ground := Go.Ground.data }], guard := none } : Oper)) (v := ?vp6) rfl (by kernel_rfl) (by kernel_rfl) (by kernel_rfl) (fun _ _ _ h => h) (Or.inl ⟨by rfl, ?hyp6⟩) (by assumption) ?restp6
  case hyp6 => (intro w hSw; (try dsimp only at hSw); go_simp; (try with_reducible rfl))
  (try simp only [Act.put, List.setIfInBounds_toArray, List.set_cons_zero, List.set_cons_succ])
  refine wpAnyH_ready (rs := [2]) (by kernel_rfl) (by simp) ?_
  refine AllReadyH.cons (o := ({ dst := some 32, op := Go.Op.call { callee := Go.Callee.value (Go.Operand.func 35), args := #[Go.Operand.tmp 31], argTypes := #[22] }, type := 22, pos := "match.go:173", after := #[{ on := 1, ground := Go.Ground.data }], guard := none } : Oper)) rfl (fun K hK => ?_) AllReadyH.nil
  go_simp
  refine (clone.calls At (c - 1) t _ (Kd.C_below HTC.out hHeld.2.2.out) htl).mono ?_
  rintro e w7 ⟨A', c', rfl, hc', hCc, hb, hAb⟩
  have HC7 := Aside0.mk hCc
  have HB7 := Aside0.mk (PB.below_next hHeld.2.2.out hb)
  have hX7 := pw_cell_below hb hHeld.1
  have HAB : Aside0 (∀ ad2, A' = some ad2 → ad2.block ≠ w.heap.size) := ⟨fun ad2 h2 => by obtain ⟨cs7, _, hK7⟩ := hHeld.2.1.out; have h1 := hAb ad2 h2; have h3 := cell_lt hK7; omega⟩
  obtain ⟨cs7, hcs7, hK7⟩ := hHeld.2.1.out
  have HK7 := Aside0.mk (blk_below hK7 hb)
  clear hCc hb hK7 hAb
  (try go_wp2_with fail)
  refine hK.out _ _ (by exact ⟨hX7, ⟨cs7, hcs7, HK7.out⟩, HB7⟩) (fun hHeld => ?_)
  clear hK K
  (try simp only [Act.put, List.setIfInBounds_toArray, List.set_cons_zero, List.set_cons_succ])
  refine wpAnyH_take (i := 7) (oi := ({ dst := some 37, op := Go.Op.build 43 #[(1, Go.Operand.tmp 32), (2, Go.Operand.tmp 36)], type := 43, pos := "match.go:173", after := #[{ on := 2, ground := Go.Ground.data }, { on := 6, ground := Go.Ground.data }], guard := none } : Oper)) (v := ?vp7) rfl (by kernel_rfl) (by kernel_rfl) (by kernel_rfl) (fun _ _ _ h => h) (Or.inl ⟨by rfl, ?hyp7⟩) (by assumption) ?restp7
  case hyp7 => (intro w hSw; (try dsimp only at hSw); go_simp; (try with_reducible rfl))
  (try simp only [Act.put, List.setIfInBounds_toArray, List.set_cons_zero, List.set_cons_succ])
  refine wpAnyH_ready (rs := [8]) (by kernel_rfl) (by simp) ?_
  refine AllReadyH.cons (o := ({ dst := none, op := Go.Op.store 43 (Go.Operand.tmp 2) (Go.Operand.tmp 37), type := 0, pos := "match.go:173", after := #[{ on := 7, ground := Go.Ground.data }, { on := 2, ground := Go.Ground.chain }, { on := 0, ground := Go.Ground.phase }, { on := 1, ground := Go.Ground.phase }, { on := 2, ground := Go.Ground.phase }, { on := 3, ground := Go.Ground.phase }, { on := 4, ground := Go.Ground.phase }, { on := 5, ground := Go.Ground.phase }, { on := 6, ground := Go.Ground.phase }, { on := 7, ground := Go.Ground.phase }], guard := none } : Oper)) rfl (fun K hK => ?_) AllReadyH.nil
  rw [if_pos (by rfl)]
  refine wp_store_row 43 (.tmp 2) (.tmp 37) rfl w.heap.size #[.int .i64 0, .slice A' t.length c', .bool false] rfl rfl 43 cs7 HK7.out (by kernel_rfl) hcs7 (one3 _ _ _ _ _) ?_
  have HR8 := Aside0.mk (setRow_heap2 w7 w.heap.size #[.int .i64 0, .slice A' t.length c', .bool false] cs7 43 HK7.out)
  have HB8 := Aside0.mk (below_setRow HB7.out (Nat.le_refl _) #[.int .i64 0, .slice A' t.length c', .bool false])
  have HC8 := Aside0.mk (show Kd.C (Kd.int .u8) (w7.setRow w.heap.size #[.int .i64 0, .slice A' t.length c', .bool false]) A' t.length t from C_setRow2 HC7.out _ _ HAB.out)
  have hX8 : (w7.setRow w.heap.size #[.int .i64 0, .slice A' t.length c', .bool false]).cell? ad = some (.int .u8 91) := (cell_setRow_other _ _ _ _ hadn).trans hX7
  refine hK.out _ _ (by exact ⟨hX8, ⟨_, rfl, HR8.out⟩, HB8⟩) (fun hHeld => ?_)
  clear hK K
  refine wpAnyH_take (i := 9) (oi := ({ dst := some 3, op := Go.Op.assign (Go.Operand.const (Go.Value.int Go.IntKind.i64 0)), type := 50, pos := "match.go:173", after := #[{ on := 8, ground := Go.Ground.chain }, { on := 0, ground := Go.Ground.phase }, { on := 1, ground := Go.Ground.phase }, { on := 2, ground := Go.Ground.phase }, { on := 3, ground := Go.Ground.phase }, { on := 4, ground := Go.Ground.phase }, { on := 5, ground := Go.Ground.phase }, { on := 6, ground := Go.Ground.phase }, { on := 7, ground := Go.Ground.phase }, { on := 8, ground := Go.Ground.phase }], guard := none } : Oper)) (v := ?vp9) rfl (by kernel_rfl) (by kernel_rfl) (by kernel_rfl) (fun _ _ _ h => h) (Or.inl ⟨by rfl, ?hyp9⟩) (by assumption) ?restp9
  case hyp9 => (intro w hSw; (try dsimp only at hSw); go_simp; (try with_reducible rfl))
  (try simp only [Act.put, List.setIfInBounds_toArray, List.set_cons_zero, List.set_cons_succ])
  refine wpAnyH_done (by kernel_rfl) ?_ _
  (try go_wp2_with fail)
  refine bodyPost_ret (GlobW.results_cell_row_tmp (P := Tryd.prog) rfl _ _ w.heap.size 43 _ (0, 0) _ rfl HR8.out Tryd.underlying43 rfl (by kernel_rfl)) rfl ?_
  exact ⟨A', c', rfl, hc', HC8.out, HB8.out⟩

set_option maxHeartbeats 3200000 in
theorem lexInOpen.calls (A : Option Addr) (c : Nat) (l t : List Int) (w : World) (hr : Kd.C (Kd.int .u8) w A l.length l) (hb : inB l) (hpos : 0 < l.length) (hcl : l.length ≤ c) (hx : rd l 0 = 40) (ht : t = l.drop 1) (hl : l.length ≤ 140737488355328) :
    Calls Tryd.prog 24 #[.slice A l.length c] w fun e w' => ∃ A' c', e = .returned (.tuple #[.agg #[.int .i64 0, .slice A' t.length c', .bool true], .int .i64 0]) ∧ t.length ≤ c' ∧ Kd.C (Kd.int .u8) w' A' t.length t ∧ Below w.heap.size w w' := by
  have e1 := str_is l hb [45] (by unfold inB; decide) [45] (by simp [strOfNums])
  have e2 := str_is l hb [43] (by unfold inB; decide) [43] (by simp [strOfNums])
  rw [decide_eq_false (fun h => by rw [h] at hx; exact absurd hx (by decide))] at e1
  rw [decide_eq_false (fun h => by rw [h] at hx; exact absurd hx (by decide))] at e2
  have hs := Kd.C_string (P := Tryd.prog) (w := w.alloc (.cells #[.int .i64 0, .slice none 0 0, .bool false] 43)) (A := A) (c := c) Tryd.underlying22 Tryd.underlying5 Tryd.underlying9 (Kd.C_alloc hr _)
  obtain ⟨At, hrd, hCd, hcd⟩ := cut_drop2 l A c hcl 1 (by omega)
  have hrd : ∀ W : World, (Instr.slice 22 (.slice A l.length c) (some (.int .i64 1)) none none).run Tryd.prog W = .ok (.slice At t.length (c - 1)) W := by rw [ht]; exact hrd
  have HTC := Aside0.mk (show Kd.C (Kd.int .u8) w At t.length t by rw [ht]; exact hCd w hr)
  have htl : t.length ≤ 140737488355328 := by rw [ht, List.length_drop]; omega
  obtain ⟨ad, rfl, hc⟩ := Kd.at_int hr (0 : Int) (by omega) (by omega)
  have hcA : w.cell? ad = some (.int .u8 40) := by rw [hx] at hc; simpa [Addr.add] using hc
  have hadn : ad.block ≠ w.heap.size := by have := cell_lt2 hcA; omega
  have hcA2 := Lib.cell?_alloc_some (.cells #[.int .i64 0, .slice none 0 0, .bool false] 43) hcA
  have d0 : decide ((0 : Int) < l.length) = true := decide_eq_true (by omega)
  have d0' : decide (0 < l.length) = true := decide_eq_true hpos
  clear hc hcA hb hr hx ht hCd hcd hcl
  go_enter Tryd.func24, Tryd.ntmps24
  go_upto_region 6 with fail
  have hS0 : (w.alloc (.cells #[.int .i64 0, .slice none 0 0, .bool false] 43)).drew.cell? ad = some (.int .u8 40) ∧ Aside0 (∃ cs : Array Value, cs.size = 3 ∧ (w.alloc (.cells #[.int .i64 0, .slice none 0 0, .bool false] 43)).drew.heap[w.heap.size]? = some (.cells cs 43 (0, 0))) ∧ Aside0 (Below w.heap.size w (w.alloc (.cells #[.int .i64 0, .slice none 0 0, .bool false] 43)).drew) := ⟨hcA2, ⟨_, rfl, blk_new w _⟩, ⟨(below_alloc (Below.refl _ _) _).drew⟩⟩
  clear hs e1 e2 hcA2
  refine wp_region_held_drew (S := (fun w' => w'.cell? ad = some (.int .u8 40) ∧ Aside0 (∃ cs : Array Value, cs.size = 3 ∧ w'.heap[w.heap.size]? = some (.cells cs 43 (0, 0))) ∧ Aside0 (Below w.heap.size w w'))) (by kernel_rfl) (by exact hS0) (fun hHeld => ?_)
  refine wpAnyH_take (i := 0) (oi := ({ dst := some 30, op := Go.Op.move (Go.Operand.tmp 0), type := 22, pos := "match.go:173", after := #[], guard := none } : Oper)) (v := ?vp0) rfl (by kernel_rfl) (by kernel_rfl) (by kernel_rfl) (fun _ _ _ h => h) (Or.inl ⟨by rfl, ?hyp0⟩) (by assumption) ?restp0
  case hyp0 => (intro w hSw; (try dsimp only at hSw); go_simp; (try with_reducible rfl))
  (try simp only [Act.put, List.setIfInBounds_toArray, List.set_cons_zero, List.set_cons_succ])
  refine wpAnyH_take (i := 1) (oi := ({ dst := some 31, op := Go.Op.slice 22 (Go.Operand.tmp 30) (some (Go.Operand.const (Go.Value.int Go.IntKind.i64 1))) none none, type := 22, pos := "match.go:173", after := #[{ on := 0, ground := Go.Ground.data }], guard := none } : Oper)) (v := ?vp1) rfl (by kernel_rfl) (by kernel_rfl) (by kernel_rfl) (fun _ _ _ h => h) (Or.inl ⟨by rfl, ?hyp1⟩) (by assumption) ?restp1
  case hyp1 => (intro w hSw; (try dsimp only at hSw); go_simp; (try with_reducible rfl))
  (try simp only [Act.put, List.setIfInBounds_toArray, List.set_cons_zero, List.set_cons_succ])
  refine wpAnyH_take (i := 3) (oi := ({ dst := some 33, op := Go.Op.move (Go.Operand.tmp 0), type := 22, pos := "match.go:173", after := #[], guard := none } : Oper)) (v := ?vp3) rfl (by kernel_rfl) (by kernel_rfl) (by kernel_rfl) (fun _ _ _ h => h) (Or.inl ⟨by rfl, ?hyp3⟩) (by assumption) ?restp3
  case hyp3 => (intro w hSw; (try dsimp only at hSw); go_simp; (try with_reducible rfl))
  (try simp only [Act.put, List.setIfInBounds_toArray, List.set_cons_zero, List.set_cons_succ])
  refine wpAnyH_take (i := 4) (oi := ({ dst := some 34, op := Go.Op.indexAddr 22 (Go.Operand.tmp 33) (Go.Operand.const (Go.Value.int Go.IntKind.i64 0)), type := 0, pos := "match.go:173", after := #[{ on := 3, ground := Go.Ground.data }], guard := none } : Oper)) (v := ?vp4) rfl (by kernel_rfl) (by kernel_rfl) (by kernel_rfl) (fun _ _ _ h => h) (Or.inl ⟨by rfl, ?hyp4⟩) (by assumption) ?restp4
  case hyp4 => (intro w hSw; (try dsimp only at hSw); go_simp; (try with_reducible rfl))
  (try simp only [Act.put, List.setIfInBounds_toArray, List.set_cons_zero, List.set_cons_succ])
  refine wpAnyH_take (i := 5) (oi := ({ dst := some 35, op := Go.Op.load 5 (Go.Operand.tmp 34), type := 5, pos := "match.go:173", after := #[{ on := 4, ground := Go.Ground.data }], guard := none } : Oper)) (v := ?vp5) rfl (by kernel_rfl) (by kernel_rfl) (by kernel_rfl) (fun _ _ _ h => h) (Or.inl ⟨by rfl, ?hyp5⟩) (by assumption) ?restp5
  case hyp5 => (intro w hSw; (try dsimp only at hSw); go_simp; (try with_reducible rfl))
  (try simp only [Act.put, List.setIfInBounds_toArray, List.set_cons_zero, List.set_cons_succ])
  refine wpAnyH_take (i := 6) (oi := ({ dst := some 36, op := Go.Op.binOp Go.BinOp.eql 5 (Go.Operand.tmp 35) (Go.Operand.const (Go.Value.int Go.IntKind.u8 40)) 5, type := 4, pos := "match.go:173", after := #[{ on := 5, ground := Go.Ground.data }], guard := none } : Oper)) (v := ?vp6) rfl (by kernel_rfl) (by kernel_rfl) (by kernel_rfl) (fun _ _ _ h => h) (Or.inl ⟨by rfl, ?hyp6⟩) (by assumption) ?restp6
  case hyp6 => (intro w hSw; (try dsimp only at hSw); go_simp; (try with_reducible rfl))
  (try simp only [Act.put, List.setIfInBounds_toArray, List.set_cons_zero, List.set_cons_succ])
  refine wpAnyH_ready (rs := [2]) (by kernel_rfl) (by simp) ?_
  refine AllReadyH.cons (o := ({ dst := some 32, op := Go.Op.call { callee := Go.Callee.value (Go.Operand.func 35), args := #[Go.Operand.tmp 31], argTypes := #[22] }, type := 22, pos := "match.go:173", after := #[{ on := 1, ground := Go.Ground.data }], guard := none } : Oper)) rfl (fun K hK => ?_) AllReadyH.nil
  go_simp
  refine (clone.calls At (c - 1) t _ (Kd.C_below HTC.out hHeld.2.2.out) htl).mono ?_
  rintro e w7 ⟨A', c', rfl, hc', hCc, hb, hAb⟩
  have HC7 := Aside0.mk hCc
  have HB7 := Aside0.mk (PB.below_next hHeld.2.2.out hb)
  have hX7 := pw_cell_below hb hHeld.1
  have HAB : Aside0 (∀ ad2, A' = some ad2 → ad2.block ≠ w.heap.size) := ⟨fun ad2 h2 => by obtain ⟨cs7, _, hK7⟩ := hHeld.2.1.out; have h1 := hAb ad2 h2; have h3 := cell_lt hK7; omega⟩
  obtain ⟨cs7, hcs7, hK7⟩ := hHeld.2.1.out
  have HK7 := Aside0.mk (blk_below hK7 hb)
  clear hCc hb hK7 hAb
  (try go_wp2_with fail)
  refine hK.out _ _ (by exact ⟨hX7, ⟨cs7, hcs7, HK7.out⟩, HB7⟩) (fun hHeld => ?_)
  clear hK K
  (try simp only [Act.put, List.setIfInBounds_toArray, List.set_cons_zero, List.set_cons_succ])
  refine wpAnyH_take (i := 7) (oi := ({ dst := some 37, op := Go.Op.build 43 #[(1, Go.Operand.tmp 32), (2, Go.Operand.tmp 36)], type := 43, pos := "match.go:173", after := #[{ on := 2, ground := Go.Ground.data }, { on := 6, ground := Go.Ground.data }], guard := none } : Oper)) (v := ?vp7) rfl (by kernel_rfl) (by kernel_rfl) (by kernel_rfl) (fun _ _ _ h => h) (Or.inl ⟨by rfl, ?hyp7⟩) (by assumption) ?restp7
  case hyp7 => (intro w hSw; (try dsimp only at hSw); go_simp; (try with_reducible rfl))
  (try simp only [Act.put, List.setIfInBounds_toArray, List.set_cons_zero, List.set_cons_succ])
  refine wpAnyH_ready (rs := [8]) (by kernel_rfl) (by simp) ?_
  refine AllReadyH.cons (o := ({ dst := none, op := Go.Op.store 43 (Go.Operand.tmp 2) (Go.Operand.tmp 37), type := 0, pos := "match.go:173", after := #[{ on := 7, ground := Go.Ground.data }, { on := 2, ground := Go.Ground.chain }, { on := 0, ground := Go.Ground.phase }, { on := 1, ground := Go.Ground.phase }, { on := 2, ground := Go.Ground.phase }, { on := 3, ground := Go.Ground.phase }, { on := 4, ground := Go.Ground.phase }, { on := 5, ground := Go.Ground.phase }, { on := 6, ground := Go.Ground.phase }, { on := 7, ground := Go.Ground.phase }], guard := none } : Oper)) rfl (fun K hK => ?_) AllReadyH.nil
  rw [if_pos (by rfl)]
  refine wp_store_row 43 (.tmp 2) (.tmp 37) rfl w.heap.size #[.int .i64 0, .slice A' t.length c', .bool true] rfl rfl 43 cs7 HK7.out (by kernel_rfl) hcs7 (one3 _ _ _ _ _) ?_
  have HR8 := Aside0.mk (setRow_heap2 w7 w.heap.size #[.int .i64 0, .slice A' t.length c', .bool true] cs7 43 HK7.out)
  have HB8 := Aside0.mk (below_setRow HB7.out (Nat.le_refl _) #[.int .i64 0, .slice A' t.length c', .bool true])
  have HC8 := Aside0.mk (show Kd.C (Kd.int .u8) (w7.setRow w.heap.size #[.int .i64 0, .slice A' t.length c', .bool true]) A' t.length t from C_setRow2 HC7.out _ _ HAB.out)
  have hX8 : (w7.setRow w.heap.size #[.int .i64 0, .slice A' t.length c', .bool true]).cell? ad = some (.int .u8 40) := (cell_setRow_other _ _ _ _ hadn).trans hX7
  refine hK.out _ _ (by exact ⟨hX8, ⟨_, rfl, HR8.out⟩, HB8⟩) (fun hHeld => ?_)
  clear hK K
  refine wpAnyH_take (i := 9) (oi := ({ dst := some 3, op := Go.Op.assign (Go.Operand.const (Go.Value.int Go.IntKind.i64 0)), type := 50, pos := "match.go:173", after := #[{ on := 8, ground := Go.Ground.chain }, { on := 0, ground := Go.Ground.phase }, { on := 1, ground := Go.Ground.phase }, { on := 2, ground := Go.Ground.phase }, { on := 3, ground := Go.Ground.phase }, { on := 4, ground := Go.Ground.phase }, { on := 5, ground := Go.Ground.phase }, { on := 6, ground := Go.Ground.phase }, { on := 7, ground := Go.Ground.phase }, { on := 8, ground := Go.Ground.phase }], guard := none } : Oper)) (v := ?vp9) rfl (by kernel_rfl) (by kernel_rfl) (by kernel_rfl) (fun _ _ _ h => h) (Or.inl ⟨by rfl, ?hyp9⟩) (by assumption) ?restp9
  case hyp9 => (intro w hSw; (try dsimp only at hSw); go_simp; (try with_reducible rfl))
  (try simp only [Act.put, List.setIfInBounds_toArray, List.set_cons_zero, List.set_cons_succ])
  refine wpAnyH_done (by kernel_rfl) ?_ _
  (try go_wp2_with fail)
  refine bodyPost_ret (GlobW.results_cell_row_tmp (P := Tryd.prog) rfl _ _ w.heap.size 43 _ (0, 0) _ rfl HR8.out Tryd.underlying43 rfl (by kernel_rfl)) rfl ?_
  exact ⟨A', c', rfl, hc', HC8.out, HB8.out⟩
theorem below_drawn0 {W W' : World} (h : Drawn0 W W') : Below W.heap.size W W' := h.below
theorem s7 {w W W' : World} {g3 g4 : Nat} {v0 v1 v2 v3 v4 v5 : Value} (h : W.cell? ⟨g3, 0, none⟩ = some v0 ∧ W.cell? ⟨g3, 1, none⟩ = some v1 ∧ W.cell? ⟨g3, 2, none⟩ = some v2 ∧ W.cell? ⟨g4, 0, none⟩ = some v3 ∧ W.cell? ⟨g4, 1, none⟩ = some v4 ∧ W.cell? ⟨g4, 2, none⟩ = some v5 ∧ Aside0 (Below w.heap.size w W)) (hb : Below W.heap.size W W') :
    W'.cell? ⟨g3, 0, none⟩ = some v0 ∧ W'.cell? ⟨g3, 1, none⟩ = some v1 ∧ W'.cell? ⟨g3, 2, none⟩ = some v2 ∧ W'.cell? ⟨g4, 0, none⟩ = some v3 ∧ W'.cell? ⟨g4, 1, none⟩ = some v4 ∧ W'.cell? ⟨g4, 2, none⟩ = some v5 ∧ Aside0 (Below w.heap.size w W') :=
  ⟨pw_cell_below hb h.1, pw_cell_below hb h.2.1, pw_cell_below hb h.2.2.1, pw_cell_below hb h.2.2.2.1, pw_cell_below hb h.2.2.2.2.1, pw_cell_below hb h.2.2.2.2.2.1, ⟨PB.below_next h.2.2.2.2.2.2.out hb⟩⟩

/-- Between two ends: how it stands to each, how far and how open they are. -/
def withinB (tl fl : Int) (ol : Bool) (th fh : Int) (oh : Bool) : Bool :=
  if fl > 0 then false else if fh < 0 then false else if fl = 0 ∧ (tl < 0 ∨ (tl = 0 ∧ ol = true)) then false else (decide (fh > 0) || decide (th < 0) || (decide (th = 0) && !oh))
theorem within_rest (th fh : Int) (oh : Bool) : (if fh > 0 then some true else (if th < 0 then some true else (if th = 0 then some (!oh) else some false))) = some (decide (fh > 0) || decide (th < 0) || (decide (th = 0) && !oh)) := by
  by_cases h1 : fh > 0
  · simp [h1]
  · by_cases h2 : th < 0
    · simp [h1, h2]
    · by_cases h3 : th = 0 <;> simp [h1, h2, h3]
theorem within_f (tl fl : Int) (ol : Bool) (th fh : Int) (oh : Bool) : PE.match_within.f 1 tl fl ol th fh oh = some (withinB tl fl ol th fh oh) := by
  have hr := within_rest th fh oh
  have hj : ∀ b : Bool, PE.match_within.j0 1 tl fl ol th fh oh b = if b = true then some false else (if fl = 0 then (if tl < 0 then some false else if tl = 0 then (if ol = true then some false else some (decide (fh > 0) || decide (th < 0) || (decide (th = 0) && !oh))) else some (decide (fh > 0) || decide (th < 0) || (decide (th = 0) && !oh))) else some (decide (fh > 0) || decide (th < 0) || (decide (th = 0) && !oh))) := by
    intro b
    rw [← hr]
    rfl
  unfold PE.match_within.f withinB
  rw [hj, hj]
  generalize (decide (fh > 0) || decide (th < 0) || (decide (th = 0) && !oh)) = R
  by_cases h1 : fl > 0
  · rw [if_pos h1, if_pos h1, if_pos rfl]
  · rw [if_neg h1, if_neg h1]
    by_cases h2 : fh < 0
    · rw [if_pos h2, if_pos (decide_eq_true h2)]
    · rw [if_neg h2, if_neg (by simp [h2])]
      by_cases h3 : fl = 0
      · rw [if_pos h3]
        by_cases h4 : tl < 0
        · rw [if_pos h4, if_pos ⟨h3, .inl h4⟩]
        · rw [if_neg h4]
          by_cases h5 : tl = 0
          · rw [if_pos h5]
            cases ol
            · rw [if_neg (by simp), if_neg (by rintro ⟨_, h | h⟩; exact h4 h; cases h.2)]
            · rw [if_pos rfl, if_pos ⟨h3, .inr ⟨h5, rfl⟩⟩]
          · rw [if_neg h5, if_neg (by rintro ⟨_, h | h⟩; exact h4 h; exact h5 h.1)]
      · rw [if_neg h3, if_neg (fun h => h3 h.1)]
theorem within.calls (tl fl : Int) (ol : Bool) (th fh : Int) (oh : Bool) (w : World) :
    Calls Tryd.prog 33 #[.int .i64 tl, .int .i64 fl, .bool ol, .int .i64 th, .int .i64 fh, .bool oh] w fun e w' => e = .returned (.bool (withinB tl fl ol th fh oh)) ∧ Drawn0 w w' :=
  PE.match_within.calls 1 tl fl ol th fh oh _ w (within_f tl fl ol th fh oh)
def inLexB (fl : Int) (l : List Int) (ol : Bool) (fh : Int) (h : List Int) (oh : Bool) (m : List Int) : Bool := withinB (cmpL m l) fl ol (cmpL m h) fh oh

set_option maxHeartbeats 3200000 in
theorem inLex.calls (fl : Int) (Al : Option Addr) (cl : Nat) (l : List Int) (ol : Bool) (fh : Int) (Ah : Option Addr) (ch : Nat) (h : List Int) (oh : Bool) (Am : Option Addr) (cm : Nat) (m : List Int) (w : World)
    (hl : Kd.C (Kd.int .u8) w Al l.length l) (hh : Kd.C (Kd.int .u8) w Ah h.length h) (hm : Kd.C (Kd.int .u8) w Am m.length m) (il : inB l) (ih : inB h) (im : inB m) :
    Calls Tryd.prog 25 #[.agg #[.int .i64 fl, .slice Al l.length cl, .bool ol], .agg #[.int .i64 fh, .slice Ah h.length ch, .bool oh], .slice Am m.length cm] w fun e w' => e = .returned (.bool (inLexB fl l ol fh h oh m)) ∧ Below w.heap.size w w' := by
  have HL := Aside0.mk hl
  have HH := Aside0.mk hh
  have HM := Aside0.mk hm
  have IL := Aside0.mk il
  have IH := Aside0.mk ih
  have IM := Aside0.mk im
  have HB := Aside0.mk (Below.refl w.heap.size w)
  clear hl hh hm il ih im
  go_enter Tryd.func25, Tryd.ntmps25
  go_upto_region 1 with (first
    | ((with_reducible refine gate_dst (N := 3) rfl ?_); refine box_event ?hg (N := 3) ?hd (cs := #[.int .i64 fl, .slice Al l.length cl, .bool ol]) (t := 43) ?hr ?_; (case hd => rfl); (case hg => rfl); (case hr => first | (go_simp; done) | (go_simp; rfl)); intro g3 hg3 w5 hbox hb; have n0_ := Aside0.mk (below_step HB.out hb); have BK3 := Aside0.mk hbox; clear HB; have HB := n0_; clear n0_ hb hbox hg3)
    | ((with_reducible refine gate_dst (N := 4) rfl ?_); refine box_event ?hg (N := 4) ?hd (cs := #[.int .i64 fh, .slice Ah h.length ch, .bool oh]) (t := 43) ?hr ?_; (case hd => rfl); (case hg => rfl); (case hr => first | (go_simp; done) | (go_simp; rfl)); intro g4 hg4 w6 hbox hb; have n0_ := Aside0.mk (below_step HB.out hb); have BK4 := Aside0.mk hbox; have BK3b := Aside0.mk (blk_below BK3.out hb); clear HB; have HB := n0_; clear n0_ hb hbox BK3 hg4))
  have x30 : w6.cell? ⟨g3, 0, none⟩ = some (.int .i64 fl) := (blk_cell BK3b.out 0).trans rfl
  have x31 : w6.cell? ⟨g3, 1, none⟩ = some (.slice Al l.length cl) := (blk_cell BK3b.out 1).trans rfl
  have x32 : w6.cell? ⟨g3, 2, none⟩ = some (.bool ol) := (blk_cell BK3b.out 2).trans rfl
  have x40 : w6.cell? ⟨g4, 0, none⟩ = some (.int .i64 fh) := (blk_cell BK4.out 0).trans rfl
  have x41 : w6.cell? ⟨g4, 1, none⟩ = some (.slice Ah h.length ch) := (blk_cell BK4.out 1).trans rfl
  have x42 : w6.cell? ⟨g4, 2, none⟩ = some (.bool oh) := (blk_cell BK4.out 2).trans rfl
  have hS0 : w6.drew.cell? ⟨g3, 0, none⟩ = some (.int .i64 fl) ∧ w6.drew.cell? ⟨g3, 1, none⟩ = some (.slice Al l.length cl) ∧ w6.drew.cell? ⟨g3, 2, none⟩ = some (.bool ol) ∧ w6.drew.cell? ⟨g4, 0, none⟩ = some (.int .i64 fh) ∧ w6.drew.cell? ⟨g4, 1, none⟩ = some (.slice Ah h.length ch) ∧ w6.drew.cell? ⟨g4, 2, none⟩ = some (.bool oh) ∧ Aside0 (Below w.heap.size w w6.drew) := ⟨x30, x31, x32, x40, x41, x42, ⟨HB.out.drew⟩⟩
  clear x30 x31 x32 x40 x41 x42 BK3b BK4
  refine wp_region_held_drew (S := (fun W => W.cell? ⟨g3, 0, none⟩ = some (.int .i64 fl) ∧ W.cell? ⟨g3, 1, none⟩ = some (.slice Al l.length cl) ∧ W.cell? ⟨g3, 2, none⟩ = some (.bool ol) ∧ W.cell? ⟨g4, 0, none⟩ = some (.int .i64 fh) ∧ W.cell? ⟨g4, 1, none⟩ = some (.slice Ah h.length ch) ∧ W.cell? ⟨g4, 2, none⟩ = some (.bool oh) ∧ Aside0 (Below w.heap.size w W))) (by kernel_rfl) (by exact hS0) (fun hHeld => ?_)
  refine wpAnyH_take (i := 0) (oi := ({ dst := some 7, op := Go.Op.move (Go.Operand.tmp 2), type := 22, pos := "match.go:207", after := #[], guard := none } : Oper)) (v := ?vq0) rfl (by kernel_rfl) (by kernel_rfl) (by kernel_rfl) (fun _ _ _ h => h) (Or.inl ⟨by rfl, ?hyq0⟩) (by assumption) ?restq0
  case hyq0 => (intro w hSw; (try dsimp only at hSw); go_simp; (try with_reducible rfl))
  (try simp only [Act.put, List.setIfInBounds_toArray, List.set_cons_zero, List.set_cons_succ])
  refine wpAnyH_take (i := 1) (oi := ({ dst := some 8, op := Go.Op.fieldAddr 43 (Go.Operand.tmp 3) 1, type := 0, pos := "match.go:207", after := #[], guard := none } : Oper)) (v := ?vq1) rfl (by kernel_rfl) (by kernel_rfl) (by kernel_rfl) (fun _ _ _ h => h) (Or.inl ⟨by rfl, ?hyq1⟩) (by assumption) ?restq1
  case hyq1 => (intro w hSw; (try dsimp only at hSw); go_simp; (try with_reducible rfl))
  (try simp only [Act.put, List.setIfInBounds_toArray, List.set_cons_zero, List.set_cons_succ])
  refine wpAnyH_take (i := 2) (oi := ({ dst := some 9, op := Go.Op.load 22 (Go.Operand.tmp 8), type := 22, pos := "match.go:207", after := #[{ on := 1, ground := Go.Ground.data }], guard := none } : Oper)) (v := ?vq2) rfl (by kernel_rfl) (by kernel_rfl) (by kernel_rfl) (fun _ _ _ h => h) (Or.inl ⟨by rfl, ?hyq2⟩) (by assumption) ?restq2
  case hyq2 => (intro w hSw; (try dsimp only at hSw); go_simp; (try with_reducible rfl))
  (try simp only [Act.put, List.setIfInBounds_toArray, List.set_cons_zero, List.set_cons_succ])
  refine wpAnyH_take (i := 4) (oi := ({ dst := some 11, op := Go.Op.fieldAddr 43 (Go.Operand.tmp 3) 0, type := 0, pos := "match.go:207", after := #[], guard := none } : Oper)) (v := ?vq4) rfl (by kernel_rfl) (by kernel_rfl) (by kernel_rfl) (fun _ _ _ h => h) (Or.inl ⟨by rfl, ?hyq4⟩) (by assumption) ?restq4
  case hyq4 => (intro w hSw; (try dsimp only at hSw); go_simp; (try with_reducible rfl))
  (try simp only [Act.put, List.setIfInBounds_toArray, List.set_cons_zero, List.set_cons_succ])
  refine wpAnyH_take (i := 5) (oi := ({ dst := some 12, op := Go.Op.load 3 (Go.Operand.tmp 11), type := 3, pos := "match.go:207", after := #[{ on := 4, ground := Go.Ground.data }], guard := none } : Oper)) (v := ?vq5) rfl (by kernel_rfl) (by kernel_rfl) (by kernel_rfl) (fun _ _ _ h => h) (Or.inl ⟨by rfl, ?hyq5⟩) (by assumption) ?restq5
  case hyq5 => (intro w hSw; (try dsimp only at hSw); go_simp; (try with_reducible rfl))
  (try simp only [Act.put, List.setIfInBounds_toArray, List.set_cons_zero, List.set_cons_succ])
  refine wpAnyH_take (i := 6) (oi := ({ dst := some 13, op := Go.Op.fieldAddr 43 (Go.Operand.tmp 3) 2, type := 0, pos := "match.go:207", after := #[], guard := none } : Oper)) (v := ?vq6) rfl (by kernel_rfl) (by kernel_rfl) (by kernel_rfl) (fun _ _ _ h => h) (Or.inl ⟨by rfl, ?hyq6⟩) (by assumption) ?restq6
  case hyq6 => (intro w hSw; (try dsimp only at hSw); go_simp; (try with_reducible rfl))
  (try simp only [Act.put, List.setIfInBounds_toArray, List.set_cons_zero, List.set_cons_succ])
  refine wpAnyH_take (i := 7) (oi := ({ dst := some 14, op := Go.Op.load 4 (Go.Operand.tmp 13), type := 4, pos := "match.go:207", after := #[{ on := 6, ground := Go.Ground.data }], guard := none } : Oper)) (v := ?vq7) rfl (by kernel_rfl) (by kernel_rfl) (by kernel_rfl) (fun _ _ _ h => h) (Or.inl ⟨by rfl, ?hyq7⟩) (by assumption) ?restq7
  case hyq7 => (intro w hSw; (try dsimp only at hSw); go_simp; (try with_reducible rfl))
  (try simp only [Act.put, List.setIfInBounds_toArray, List.set_cons_zero, List.set_cons_succ])
  refine wpAnyH_take (i := 8) (oi := ({ dst := some 15, op := Go.Op.move (Go.Operand.tmp 2), type := 22, pos := "match.go:207", after := #[], guard := none } : Oper)) (v := ?vq8) rfl (by kernel_rfl) (by kernel_rfl) (by kernel_rfl) (fun _ _ _ h => h) (Or.inl ⟨by rfl, ?hyq8⟩) (by assumption) ?restq8
  case hyq8 => (intro w hSw; (try dsimp only at hSw); go_simp; (try with_reducible rfl))
  (try simp only [Act.put, List.setIfInBounds_toArray, List.set_cons_zero, List.set_cons_succ])
  refine wpAnyH_take (i := 9) (oi := ({ dst := some 16, op := Go.Op.fieldAddr 43 (Go.Operand.tmp 4) 1, type := 0, pos := "match.go:207", after := #[], guard := none } : Oper)) (v := ?vq9) rfl (by kernel_rfl) (by kernel_rfl) (by kernel_rfl) (fun _ _ _ h => h) (Or.inl ⟨by rfl, ?hyq9⟩) (by assumption) ?restq9
  case hyq9 => (intro w hSw; (try dsimp only at hSw); go_simp; (try with_reducible rfl))
  (try simp only [Act.put, List.setIfInBounds_toArray, List.set_cons_zero, List.set_cons_succ])
  refine wpAnyH_take (i := 10) (oi := ({ dst := some 17, op := Go.Op.load 22 (Go.Operand.tmp 16), type := 22, pos := "match.go:207", after := #[{ on := 9, ground := Go.Ground.data }], guard := none } : Oper)) (v := ?vq10) rfl (by kernel_rfl) (by kernel_rfl) (by kernel_rfl) (fun _ _ _ h => h) (Or.inl ⟨by rfl, ?hyq10⟩) (by assumption) ?restq10
  case hyq10 => (intro w hSw; (try dsimp only at hSw); go_simp; (try with_reducible rfl))
  (try simp only [Act.put, List.setIfInBounds_toArray, List.set_cons_zero, List.set_cons_succ])
  refine wpAnyH_take (i := 12) (oi := ({ dst := some 19, op := Go.Op.fieldAddr 43 (Go.Operand.tmp 4) 0, type := 0, pos := "match.go:207", after := #[], guard := none } : Oper)) (v := ?vq12) rfl (by kernel_rfl) (by kernel_rfl) (by kernel_rfl) (fun _ _ _ h => h) (Or.inl ⟨by rfl, ?hyq12⟩) (by assumption) ?restq12
  case hyq12 => (intro w hSw; (try dsimp only at hSw); go_simp; (try with_reducible rfl))
  (try simp only [Act.put, List.setIfInBounds_toArray, List.set_cons_zero, List.set_cons_succ])
  refine wpAnyH_take (i := 13) (oi := ({ dst := some 20, op := Go.Op.load 3 (Go.Operand.tmp 19), type := 3, pos := "match.go:207", after := #[{ on := 12, ground := Go.Ground.data }], guard := none } : Oper)) (v := ?vq13) rfl (by kernel_rfl) (by kernel_rfl) (by kernel_rfl) (fun _ _ _ h => h) (Or.inl ⟨by rfl, ?hyq13⟩) (by assumption) ?restq13
  case hyq13 => (intro w hSw; (try dsimp only at hSw); go_simp; (try with_reducible rfl))
  (try simp only [Act.put, List.setIfInBounds_toArray, List.set_cons_zero, List.set_cons_succ])
  refine wpAnyH_take (i := 14) (oi := ({ dst := some 21, op := Go.Op.fieldAddr 43 (Go.Operand.tmp 4) 2, type := 0, pos := "match.go:207", after := #[], guard := none } : Oper)) (v := ?vq14) rfl (by kernel_rfl) (by kernel_rfl) (by kernel_rfl) (fun _ _ _ h => h) (Or.inl ⟨by rfl, ?hyq14⟩) (by assumption) ?restq14
  case hyq14 => (intro w hSw; (try dsimp only at hSw); go_simp; (try with_reducible rfl))
  (try simp only [Act.put, List.setIfInBounds_toArray, List.set_cons_zero, List.set_cons_succ])
  refine wpAnyH_take (i := 15) (oi := ({ dst := some 22, op := Go.Op.load 4 (Go.Operand.tmp 21), type := 4, pos := "match.go:207", after := #[{ on := 14, ground := Go.Ground.data }], guard := none } : Oper)) (v := ?vq15) rfl (by kernel_rfl) (by kernel_rfl) (by kernel_rfl) (fun _ _ _ h => h) (Or.inl ⟨by rfl, ?hyq15⟩) (by assumption) ?restq15
  case hyq15 => (intro w hSw; (try dsimp only at hSw); go_simp; (try with_reducible rfl))
  (try simp only [Act.put, List.setIfInBounds_toArray, List.set_cons_zero, List.set_cons_succ])
  refine wpAnyH_ready (rs := [3]) (by kernel_rfl) (by simp) ?_
  refine AllReadyH.cons (o := ({ dst := some 10, op := Go.Op.call { callee := Go.Callee.value (Go.Operand.func 36), args := #[Go.Operand.tmp 7, Go.Operand.tmp 9], argTypes := #[22, 22] }, type := 3, pos := "match.go:207", after := #[{ on := 0, ground := Go.Ground.data }, { on := 2, ground := Go.Ground.data }], guard := none } : Oper)) rfl (fun K hK => ?_) AllReadyH.nil
  go_simp
  refine (compare.calls Am cm m Al cl l _ (Kd.C_below HM.out hHeld.2.2.2.2.2.2.out) (Kd.C_below HL.out hHeld.2.2.2.2.2.2.out) IM.out IL.out).mono ?_
  rintro e wx ⟨rfl, rfl⟩
  (try go_wp2_with fail)
  refine hK.out _ _ (by exact hHeld) (fun hHeld => ?_)
  clear hK K
  (try simp only [Act.put, List.setIfInBounds_toArray, List.set_cons_zero, List.set_cons_succ])
  refine wpAnyH_ready (rs := [11]) (by kernel_rfl) (by simp) ?_
  refine AllReadyH.cons (o := ({ dst := some 18, op := Go.Op.call { callee := Go.Callee.value (Go.Operand.func 36), args := #[Go.Operand.tmp 15, Go.Operand.tmp 17], argTypes := #[22, 22] }, type := 3, pos := "match.go:207", after := #[{ on := 8, ground := Go.Ground.data }, { on := 10, ground := Go.Ground.data }, { on := 3, ground := Go.Ground.chain }], guard := none } : Oper)) rfl (fun K hK => ?_) AllReadyH.nil
  go_simp
  refine (compare.calls Am cm m Ah ch h _ (Kd.C_below HM.out hHeld.2.2.2.2.2.2.out) (Kd.C_below HH.out hHeld.2.2.2.2.2.2.out) IM.out IH.out).mono ?_
  rintro e wx ⟨rfl, rfl⟩
  (try go_wp2_with fail)
  refine hK.out _ _ (by exact hHeld) (fun hHeld => ?_)
  clear hK K
  (try simp only [Act.put, List.setIfInBounds_toArray, List.set_cons_zero, List.set_cons_succ])
  refine wpAnyH_ready (rs := [16]) (by kernel_rfl) (by simp) ?_
  refine AllReadyH.cons (o := ({ dst := some 23, op := Go.Op.call { callee := Go.Callee.value (Go.Operand.func 33), args := #[Go.Operand.tmp 10, Go.Operand.tmp 12, Go.Operand.tmp 14, Go.Operand.tmp 18, Go.Operand.tmp 20, Go.Operand.tmp 22], argTypes := #[3, 3, 4, 3, 3, 4] }, type := 4, pos := "match.go:207", after := #[{ on := 3, ground := Go.Ground.data }, { on := 5, ground := Go.Ground.data }, { on := 7, ground := Go.Ground.data }, { on := 11, ground := Go.Ground.data }, { on := 13, ground := Go.Ground.data }, { on := 15, ground := Go.Ground.data }, { on := 11, ground := Go.Ground.chain }], guard := none } : Oper)) rfl (fun K hK => ?_) AllReadyH.nil
  go_simp
  refine (within.calls _ _ _ _ _ _ _).mono ?_
  rintro e wx ⟨rfl, hb⟩
  have HBE := Aside0.mk (PB.below_next hHeld.2.2.2.2.2.2.out (below_drawn0 hb))
  have hS1 := s7 hHeld (below_drawn0 hb)
  clear hb
  (try go_wp2_with fail)
  refine hK.out _ _ (by exact hS1) (fun hHeld => ?_)
  clear hK K
  (try simp only [Act.put, List.setIfInBounds_toArray, List.set_cons_zero, List.set_cons_succ])
  refine wpAnyH_take (i := 17) (oi := ({ dst := some 6, op := Go.Op.assign (Go.Operand.tmp 23), type := 4, pos := "match.go:207", after := #[{ on := 16, ground := Go.Ground.data }, { on := 16, ground := Go.Ground.chain }, { on := 0, ground := Go.Ground.phase }, { on := 1, ground := Go.Ground.phase }, { on := 2, ground := Go.Ground.phase }, { on := 3, ground := Go.Ground.phase }, { on := 4, ground := Go.Ground.phase }, { on := 5, ground := Go.Ground.phase }, { on := 6, ground := Go.Ground.phase }, { on := 7, ground := Go.Ground.phase }, { on := 8, ground := Go.Ground.phase }, { on := 9, ground := Go.Ground.phase }, { on := 10, ground := Go.Ground.phase }, { on := 11, ground := Go.Ground.phase }, { on := 12, ground := Go.Ground.phase }, { on := 13, ground := Go.Ground.phase }, { on := 14, ground := Go.Ground.phase }, { on := 15, ground := Go.Ground.phase }, { on := 16, ground := Go.Ground.phase }], guard := none } : Oper)) (v := ?vq17) rfl (by kernel_rfl) (by kernel_rfl) (by kernel_rfl) (fun _ _ _ h => h) (Or.inl ⟨by rfl, ?hyq17⟩) (by assumption) ?restq17
  case hyq17 => (intro w hSw; (try dsimp only at hSw); go_simp; (try with_reducible rfl))
  (try simp only [Act.put, List.setIfInBounds_toArray, List.set_cons_zero, List.set_cons_succ])
  refine wpAnyH_done (by kernel_rfl) ?_ _
  (try go_wp2_with fail)
  go_ret
  exact ⟨rfl, HBE.out⟩
end Go.Proofs.YtdflblegdfpdpaaDoor.LexW
end

section
-- PRINTED by print.py (a twelfth state) out of the translation. Not trusted: Lean checks it.
namespace Go.Proofs.YtdflblegdfpdpaaDoor.PE
open Go.RowKit Go.Proofs.YtdflblegdfpdpaaDoorW.PrintWords Go.Proofs.YtdflblegdfpdpaaDoorW.PrintLast Go.Proofs.YtdflblegdfpdpaaDoorW.PrintMore
attribute [local go_sem] max2_int min2_int max_two min_two max_three min_three max_four min_four   -- for this text's walks alone
open PA PB
set_option linter.unusedVariables false
set_option linter.unusedSimpArgs false

/-! ### word_Text: function 20 -/
def word_Text.f (a0 : Int) : Option (List Int) := if a0 < 0 then ((some (([45] : List Int) : List Int)).bind fun y304 => ((word_Digits.f (IntKind.u64.wrap (-(IntKind.u64.wrap (a0))))).bind fun t307 => (if y304.length + t307.length < 140737488355328 then (some (y304 ++ t307)) else (none)))) else ((word_Digits.f (IntKind.u64.wrap (a0))).bind fun t313 => (some t313))
set_option maxHeartbeats 8000000 in
set_option maxRecDepth 100000 in
theorem word_Text.calls (a0 : Int) (r : List Int) (w : World) (h : word_Text.f a0 = some r) :
    Calls Tryd.prog 20 #[.int .i64 a0] w fun e w' => ∃ v0_ : Value, e = .returned (v0_) ∧ Kd.R (Kd.int .u8) 5 w' w.heap.size (fun _ => True) v0_ r ∧ Below w.heap.size w w' := by
  have HB := Aside0.mk (Below.refl w.heap.size w)
  have H : (if a0 < 0 then ((some (([45] : List Int) : List Int)).bind fun y304 => ((word_Digits.f (IntKind.u64.wrap (-(IntKind.u64.wrap (a0))))).bind fun t307 => (if y304.length + t307.length < 140737488355328 then (some (y304 ++ t307)) else (none)))) else ((word_Digits.f (IntKind.u64.wrap (a0))).bind fun t313 => (some t313))) = some r := h
  clear h
  by_cases c2 : a0 < 0
  · rw [if_pos c2] at H
    have c2b0 : decide (a0 < 0) = true := decide_eq_true c2
    clear c2
    obtain ⟨y304, hy304⟩ : ∃ y_ : List Int, y_ = (([45] : List Int)) := ⟨_, rfl⟩
    replace H : ((word_Digits.f (IntKind.u64.wrap (-(IntKind.u64.wrap (a0))))).bind fun t307 => (if y304.length + t307.length < 140737488355328 then (some (y304 ++ t307)) else (none))) = some r := by first | (rw [hy304]; with_reducible exact H) | (have H2_ := (Option.bind_some _ _).symm.trans H; rw [hy304]; with_reducible exact H2_) | (have H2_ := (Option.bind_some _ _).symm.trans H; with_reducible exact H2_) | with_reducible exact H | (rw [hy304]; exact H) | exact H
    have Ny304 := Aside0.mk hy304
    clear hy304
    replace H := Option.bind_eq_some_iff.mp H
    obtain ⟨t307, A30, H⟩ := H
    replace H : (if y304.length + t307.length < 140737488355328 then (some (y304 ++ t307)) else (none)) = some r := H
    have A3 := Aside0.mk A30
    clear A30
    by_cases c4 : y304.length + t307.length < 140737488355328
    · rw [if_pos c4] at H
      have LMc4 := Aside0.mk c4
      clear c4
      obtain ⟨y310, hy310⟩ : ∃ y_ : List Int, y_ = (y304 ++ t307) := ⟨_, rfl⟩
      replace H : (some y310) = some r := by first | (rw [hy310]; with_reducible exact H) | (have H2_ := (Option.bind_some _ _).symm.trans H; rw [hy310]; with_reducible exact H2_) | (have H2_ := (Option.bind_some _ _).symm.trans H; with_reducible exact H2_) | with_reducible exact H | (rw [hy310]; exact H) | exact H
      have Ny310 := Aside0.mk hy310
      clear hy310
      obtain rfl := Option.some.inj H
      go_enter Tryd.func20, Tryd.ntmps20
      go_wp2_with (first | ((with_reducible refine gate_dst (N := 5) rfl ?_); refine Kd.R_lit (Kd.int .u8) _ 5 ?hg (N := 5) ?hd (xs := ([45] : List Int)) (inner := [.int .u8 45]) (ok := fun _ => True) (okp := fun _ => True) ?hr ?hp (fun _ hk => hk) trivial (Below.refl _ _) (Nat.le_refl _) (by simp) ?_; (case hd => rfl); (case hg => rfl); (case hr => first | (go_simp; done) | (go_simp; rfl)); (case hp => exact (Reps.one (show Kd.M (Kd.int .u8) _ _ _ 45 [.int .u8 45] from rfl) (Reps.none _ _))); intro v305 w5 ho6 hb hg_ hnew_; clear hg_ hnew_; (first | rw [← Ny304.out] at ho6 | (simp only [Int.reduceToNat] at ho6; rw [← Ny304.out] at ho6)); have n0_ := Aside0.mk (Kd.R_lower ho6 (below_size (by repeat (first | (with_reducible first | exact HB.out | apply below_alloc | apply pw_below_drewN | apply below_drew1) | exact HB.out)))); have n1_ := Aside0.mk (below_step (by repeat (first | (with_reducible first | exact HB.out | apply below_alloc | apply pw_below_drewN | apply below_drew1) | exact HB.out)) hb); clear HB; have HO306 := n0_; have HB := n1_; clear n0_ n1_; clear hb ho6) | ((with_reducible refine gate_callee (f := 30) rfl ?_); refine goesL_ (some 9) rfl rfl Tryd.func30 (by kernel_rfl) rfl #[.int .u64 (IntKind.u64.wrap (-(IntKind.u64.wrap (a0))))] rfl (by (try simp only [List.map_toArray, List.map_cons, List.map_nil]); first | done | rfl | (simp only [List.length_drop, List.length_take]; rfl)) ?_; (with_reducible refine (word_Digits.calls (IntKind.u64.wrap (-(IntKind.u64.wrap (a0)))) t307 _ A3.out).mono ?_); rintro e w7 ⟨v308, rfl, ho0, hb⟩; refine ⟨_, rfl, ?_⟩; have n0_ := Aside0.mk (Kd.R_elder' (by (with_reducible repeat (first | apply Kd.R_alloc | apply Kd.R_drewN | apply Kd.R_drew)); exact HO306.out) (Kd.R_base ho0) hb); have n1_ := Aside0.mk (Kd.R_lower (Kd.R_new' ho0 (Kd.R_lt (by (with_reducible repeat (first | apply Kd.R_alloc | apply Kd.R_drewN | apply Kd.R_drew)); exact HO306.out))) (below_size (by repeat (first | (with_reducible first | exact HB.out | apply below_alloc | apply pw_below_drewN | apply below_drew1) | exact HB.out)))); have n2_ := Aside0.mk (below_step (by repeat (first | (with_reducible first | exact HB.out | apply below_alloc | apply pw_below_drewN | apply below_drew1) | exact HB.out)) hb); clear HO306; clear HB; have HO306 := n0_; have HO309 := n1_; have HB := n2_; clear n0_ n1_ n2_; (try clear hb); (try clear hb2); (try clear hk); (try clear hi); (try clear ho0); obtain ⟨Ao9, co9, eo9⟩ := Kd.R_slice HO309.out; subst eo9) | ((with_reducible refine gate_builtin (b := .append) (xs := #[.tmp 5, .tmp 9]) rfl ?_); at_builtin; refine Kd.R_append_rows (Kd.int .u8) (w0 := w) w.heap.size rfl (.tmp 5) (.tmp 9) 22 5 (.int .u8 0) 1 rfl Tryd.underlying22 info5 rfl (by decide) (by omega) v305 y304 t307 _ _ _ (fun k_ => some k_ ≠ (.slice Ao9 t307.length co9 : Value).ownBlock) (fun _ => False) rfl rfl ?aO ?aR (fun _ _ h => h) (fun _ h => h.elim) ?aF ?aB ?aS ?aL ?_; (case aR => repeat (first | exact (Kd.R_reads' HO309.out).2.2 | (with_reducible refine Kd.C_alloc ?_ _) | (with_reducible refine Kd.C_drewN ?_ _) | (with_reducible refine Kd.C_drew ?_))); (case aB => exact (by repeat (first | (with_reducible first | exact HB.out | apply below_alloc | apply pw_below_drewN | apply below_drew1) | exact HB.out))); (case aF => exact (fun k_ hk => Kd.fresh' (Kd.R_lt (by (with_reducible repeat (first | apply Kd.R_alloc | apply Kd.R_drewN | apply Kd.R_drew)); exact HO309.out)) k_ hk)); (case aO => exact (by (with_reducible repeat (first | apply Kd.R_alloc | apply Kd.R_drewN | apply Kd.R_drew)); exact Kd.R_mono HO306.out (fun _ hk => hk.2))); (case aS => exact (below_size (by repeat (first | (with_reducible first | exact HB.out | apply below_alloc | apply pw_below_drewN | apply below_drew1) | exact HB.out)))); (case aL => have := LMc4.out; omega); intro v311 w8 ho hb hg hat; rw [← Ny310.out] at ho; have n0_ := Aside0.mk (Kd.R_after (ok := (fun _ => True)) (by (with_reducible repeat (first | apply Kd.R_alloc | apply Kd.R_drewN | apply Kd.R_drew)); exact HO309.out) hg hat); have n1_ := Aside0.mk (hb); have n2_ := Aside0.mk (ho); clear HO309; clear HB; clear HO306; have HO309 := n0_; have HB := n1_; have HO312 := n2_; clear n0_ n1_ n2_; clear ho hb hg hat))
      go_ret
      exact ⟨_, by first | rfl | (simp [errW_none, errW_some] <;> rfl) | (simp [*, errW_none, errW_some] <;> rfl), by (with_reducible repeat (first | apply Kd.R_alloc | apply Kd.R_drewN | apply Kd.R_drew)); exact Kd.R_mono HO312.out (fun _ hk => trivial), by repeat (first | (with_reducible first | exact HB.out | apply below_alloc | apply pw_below_drewN | apply below_drew1) | exact HB.out)⟩
    · rw [if_neg c4] at H
      exact absurd H (by simp)
  · rw [if_neg c2] at H
    have c2b0 : decide (a0 < 0) = false := decide_eq_false c2
    clear c2
    replace H := Option.bind_eq_some_iff.mp H
    obtain ⟨t313, A100, H⟩ := H
    replace H : (some t313) = some r := H
    have A10 := Aside0.mk A100
    clear A100
    obtain rfl := Option.some.inj H
    go_enter Tryd.func20, Tryd.ntmps20
    go_wp2_with (first | ((with_reducible refine gate_callee (f := 30) rfl ?_); refine goesL_ (some 13) rfl rfl Tryd.func30 (by kernel_rfl) rfl #[.int .u64 (IntKind.u64.wrap (a0))] rfl (by (try simp only [List.map_toArray, List.map_cons, List.map_nil]); first | done | rfl | (simp only [List.length_drop, List.length_take]; rfl)) ?_; (with_reducible refine (word_Digits.calls (IntKind.u64.wrap (a0)) t313 _ A10.out).mono ?_); rintro e w11 ⟨v314, rfl, ho0, hb⟩; refine ⟨_, rfl, ?_⟩; have n0_ := Aside0.mk (Kd.R_lower ho0 (below_size (by repeat (first | (with_reducible first | exact HB.out | apply below_alloc | apply pw_below_drewN | apply below_drew1) | exact HB.out)))); have n1_ := Aside0.mk (below_step (by repeat (first | (with_reducible first | exact HB.out | apply below_alloc | apply pw_below_drewN | apply below_drew1) | exact HB.out)) hb); clear HB; have HO315 := n0_; have HB := n1_; clear n0_ n1_; (try clear hb); (try clear hb2); (try clear hk); (try clear hi); (try clear ho0)))
    go_ret
    exact ⟨_, by first | rfl | (simp [errW_none, errW_some] <;> rfl) | (simp [*, errW_none, errW_some] <;> rfl), by (with_reducible repeat (first | apply Kd.R_alloc | apply Kd.R_drewN | apply Kd.R_drew)); exact HO315.out, by repeat (first | (with_reducible first | exact HB.out | apply below_alloc | apply pw_below_drewN | apply below_drew1) | exact HB.out)⟩

end Go.Proofs.YtdflblegdfpdpaaDoor.PE
end

section
-- PRINTED by print.py (a twelfth state) out of the translation. Not trusted: Lean checks it.
namespace Go.Proofs.YtdflblegdfpdpaaDoor.PE
open Go.RowKit Go.Proofs.YtdflblegdfpdpaaDoorW.PrintWords Go.Proofs.YtdflblegdfpdpaaDoorW.PrintLast Go.Proofs.YtdflblegdfpdpaaDoorW.PrintMore
attribute [local go_sem] max2_int min2_int max_two min_two max_three min_three max_four min_four   -- for this text's walks alone
open PA PB
set_option linter.unusedVariables false
set_option linter.unusedSimpArgs false

/-! ### match_compare: function 34 -/
def match_compare.f (a0 : Int) (a1 : Int) : Option (Int) := if a0 < a1 then (some (-1)) else (if a0 > a1 then (some 1) else (some 0))
set_option maxHeartbeats 8000000 in
set_option maxRecDepth 100000 in
theorem match_compare.calls (a0 : Int) (a1 : Int) (r : Int) (w : World) (h : match_compare.f a0 a1 = some r) :
    Calls Tryd.prog 34 #[.int .i64 a0, .int .i64 a1] w fun e w' => e = .returned (.int .i64 r) ∧ Drawn0 w w' := by
  have H : (if a0 < a1 then (some (-1)) else (if a0 > a1 then (some 1) else (some 0))) = some r := h
  clear h
  by_cases c3 : a0 < a1
  · rw [if_pos c3] at H
    have c3b0 : decide (a0 < a1) = true := decide_eq_true c3
    clear c3
    obtain rfl := Option.some.inj H
    go_enter Tryd.func34, Tryd.ntmps34
    go_wp2
    go_ret
    exact ⟨by first | rfl | (simp; done) | (simp [*]; done), by repeat (first | exact Drawn0.refl _ | apply Drawn0.step)⟩
  · rw [if_neg c3] at H
    have c3b0 : decide (a0 < a1) = false := decide_eq_false c3
    clear c3
    by_cases c4 : a0 > a1
    · rw [if_pos c4] at H
      have c4b0 : decide (a1 < a0) = true := decide_eq_true c4
      clear c4
      obtain rfl := Option.some.inj H
      go_enter Tryd.func34, Tryd.ntmps34
      go_wp2
      go_ret
      exact ⟨by first | rfl | (simp; done) | (simp [*]; done), by repeat (first | exact Drawn0.refl _ | apply Drawn0.step)⟩
    · rw [if_neg c4] at H
      have c4b0 : decide (a1 < a0) = false := decide_eq_false c4
      clear c4
      obtain rfl := Option.some.inj H
      go_enter Tryd.func34, Tryd.ntmps34
      go_wp2
      go_ret
      exact ⟨by first | rfl | (simp; done) | (simp [*]; done), by repeat (first | exact Drawn0.refl _ | apply Drawn0.step)⟩

end Go.Proofs.YtdflblegdfpdpaaDoor.PE
end

section
-- PRINTED by print.py (a twelfth state) out of the translation. Not trusted: Lean checks it.
namespace Go.Proofs.YtdflblegdfpdpaaDoor.PE
open Go.RowKit Go.Proofs.YtdflblegdfpdpaaDoorW.PrintWords Go.Proofs.YtdflblegdfpdpaaDoorW.PrintLast Go.Proofs.YtdflblegdfpdpaaDoorW.PrintMore
attribute [local go_sem] max2_int min2_int max_two min_two max_three min_three max_four min_four   -- for this text's walks alone
open PA PB
set_option linter.unusedVariables false
set_option linter.unusedSimpArgs false

/-! ### match_InScore: function 22 -/
def match_InScore.f (k : Nat) (a0_0 : Int) (a0_1 : Int) (a0_2 : Bool) (a1_0 : Int) (a1_1 : Int) (a1_2 : Bool) (a2 : Int) : Option (Bool) := (match_compare.f a2 a0_1).bind fun t335 => ((match_compare.f a2 a1_1).bind fun t336 => ((match_within.f k t335 a0_0 a0_2 t336 a1_0 a1_2).bind fun t337 => (some t337)))
theorem match_InScore.mono : ∀ a0 a1 a2 a3 a4 a5 a6 k, LeO (match_InScore.f k a0 a1 a2 a3 a4 a5 a6) (match_InScore.f (k + 1) a0 a1 a2 a3 a4 a5 a6) := by
  intro a0 a1 a2 a3 a4 a5 a6 k
  unfold match_InScore.f
  repeat' first
      | (with_reducible exact match_within.mono _ _ _ _ _ _ _)
      | (with_reducible exact LeO.refl _)
      | (with_reducible exact LeO.none _)
      | (with_reducible refine LeO.ite ?_ ?_)
      | (with_reducible refine LeO.bind ?_ (fun _ => ?_))
      | exact match_within.mono _ _ _ _ _ _ _
      | exact LeO.none _
      | refine LeO.ite ?_ ?_
      | refine LeO.bind ?_ (fun _ => ?_)
set_option maxHeartbeats 8000000 in
set_option maxRecDepth 100000 in
theorem match_InScore.calls (k : Nat) (a0_0 : Int) (a0_1 : Int) (a0_2 : Bool) (a1_0 : Int) (a1_1 : Int) (a1_2 : Bool) (a2 : Int) (r : Bool) (w : World) (h : match_InScore.f k a0_0 a0_1 a0_2 a1_0 a1_1 a1_2 a2 = some r) :
    Calls Tryd.prog 22 #[.agg #[.int .i64 a0_0, .int .i64 a0_1, .bool a0_2], .agg #[.int .i64 a1_0, .int .i64 a1_1, .bool a1_2], .int .i64 a2] w fun e w' => e = .returned (.bool r) ∧ Below w.heap.size w w' := by
  have hu41 := Tryd.underlying41
  have HB := Aside0.mk (Below.refl w.heap.size w)
  have H : ((match_compare.f a2 a0_1).bind fun t335 => ((match_compare.f a2 a1_1).bind fun t336 => ((match_within.f k t335 a0_0 a0_2 t336 a1_0 a1_2).bind fun t337 => (some t337)))) = some r := h
  clear h
  replace H := Option.bind_eq_some_iff.mp H
  obtain ⟨t335, A40, H⟩ := H
  replace H : ((match_compare.f a2 a1_1).bind fun t336 => ((match_within.f k t335 a0_0 a0_2 t336 a1_0 a1_2).bind fun t337 => (some t337))) = some r := H
  have A4 := Aside0.mk A40
  clear A40
  replace H := Option.bind_eq_some_iff.mp H
  obtain ⟨t336, A50, H⟩ := H
  replace H : ((match_within.f k t335 a0_0 a0_2 t336 a1_0 a1_2).bind fun t337 => (some t337)) = some r := H
  have A5 := Aside0.mk A50
  clear A50
  replace H := Option.bind_eq_some_iff.mp H
  obtain ⟨t337, A60, H⟩ := H
  replace H : (some t337) = some r := H
  have A6 := Aside0.mk A60
  clear A60
  obtain rfl := Option.some.inj H
  go_enter Tryd.func22, Tryd.ntmps22
  go_wp2_with (first | ((with_reducible refine gate_dst (N := 3) rfl ?_); refine box_event ?hg (N := 3) ?hd (cs := #[.int .i64 a0_0, .int .i64 a0_1, .bool a0_2]) (t := 41) ?hr ?_; (case hd => rfl); (case hg => rfl); (case hr => first | (go_simp; done) | (go_simp; rfl)); intro gb333 hg w7 hbox hb; have n0_ := Aside0.mk (below_step (by repeat (first | (with_reducible first | exact HB.out | apply below_alloc | apply pw_below_drewN | apply below_drew1) | exact HB.out)) hb); have n1_ := Aside0.mk (hbox); have n2_ := Aside0.mk ((by rw [hg]; exact (below_size (by repeat (first | (with_reducible first | exact HB.out | apply below_alloc | apply pw_below_drewN | apply below_drew1) | exact HB.out))) : w.heap.size ≤ gb333)); have n3_ := Aside0.mk ((by rw [hg]; exact (below_size (by repeat (first | (with_reducible first | exact HB.out | apply below_alloc | apply pw_below_drewN | apply below_drew1) | exact HB.out))) : w.heap.size ≤ gb333)); clear HB; have HB := n0_; have BK333 := n1_; have GW333 := n2_; have GE333 := n3_; clear n0_ n1_ n2_ n3_; clear hb hbox hg) | ((with_reducible refine gate_dst (N := 4) rfl ?_); refine box_event ?hg (N := 4) ?hd (cs := #[.int .i64 a1_0, .int .i64 a1_1, .bool a1_2]) (t := 41) ?hr ?_; (case hd => rfl); (case hg => rfl); (case hr => first | (go_simp; done) | (go_simp; rfl)); intro gb334 hg w8 hbox hb; have n0_ := Aside0.mk (blk_below (g := gb333) (o := .cells #[.int .i64 a0_0, .int .i64 a0_1, .bool a0_2] 41 (0, 0)) (by (with_reducible repeat (first | refine blk_drewN ?_ _ | refine blk_drew ?_ | refine blk_alloc ?_ _)); exact BK333.out) hb); have n1_ := Aside0.mk (below_step (by repeat (first | (with_reducible first | exact HB.out | apply below_alloc | apply pw_below_drewN | apply below_drew1 | refine below_set ?_ GE333.out) | exact HB.out)) hb); have n2_ := Aside0.mk (hbox); have n3_ := Aside0.mk ((by rw [hg]; exact (below_size (by repeat (first | (with_reducible first | exact HB.out | apply below_alloc | apply pw_below_drewN | apply below_drew1 | refine below_set ?_ GE333.out) | exact HB.out))) : w.heap.size ≤ gb334)); have n4_ := Aside0.mk ((by rw [hg]; exact (below_size (by repeat (first | (with_reducible first | exact HB.out | apply below_alloc | apply pw_below_drewN | apply below_drew1 | refine below_set ?_ GE333.out) | exact HB.out))) : w.heap.size ≤ gb334)); have n5_ := Aside0.mk ((by rw [hg]; exact Nat.ne_of_lt (blk_lt (g := gb333) (o := .cells #[.int .i64 a0_0, .int .i64 a0_1, .bool a0_2] 41 (0, 0)) (by (with_reducible repeat (first | refine blk_drewN ?_ _ | refine blk_drew ?_ | refine blk_alloc ?_ _)); exact BK333.out)) : gb333 ≠ gb334)); have n6_ := Aside0.mk ((by rw [hg]; exact Nat.ne_of_gt (blk_lt (g := gb333) (o := .cells #[.int .i64 a0_0, .int .i64 a0_1, .bool a0_2] 41 (0, 0)) (by (with_reducible repeat (first | refine blk_drewN ?_ _ | refine blk_drew ?_ | refine blk_alloc ?_ _)); exact BK333.out)) : gb334 ≠ gb333)); clear BK333; clear HB; have BK333 := n0_; have HB := n1_; have BK334 := n2_; have GW334 := n3_; have GE334 := n4_; have NB333_334 := n5_; have NB334_333 := n6_; clear n0_ n1_ n2_ n3_ n4_ n5_ n6_; clear hb hbox hg; have hnb9 := NB333_334.out; have hnc9 := NB334_333.out; have hcz10_0 : w8.cell? ⟨gb333, 0, none⟩ = some (.int .i64 a0_0) := (blk_cell BK333.out 0).trans rfl; have hcz10_1 : w8.cell? ⟨gb333, 1, none⟩ = some (.int .i64 a0_1) := (blk_cell BK333.out 1).trans rfl; have hcz10_2 : w8.cell? ⟨gb333, 2, none⟩ = some (.bool a0_2) := (blk_cell BK333.out 2).trans rfl; have hfz10_0 := blk_frozen BK333.out 0; have hfz10_1 := blk_frozen BK333.out 1; have hfz10_2 := blk_frozen BK333.out 2) | (go_at_call 34; (with_reducible refine (match_compare.calls a2 a0_1 t335 _ A4.out).mono ?_); rintro e w' ⟨rfl, ⟨nd, rfl⟩⟩; (try first | exact ⟨rfl, _, World.drewN_drewN _ _ _⟩ | exact ⟨rfl, _, Eq.trans (World.drewN_drewN _ _ _) (congrArg (World.drewN _) (Nat.add_assoc _ _ _))⟩); have hcz11_0 : w8.cell? ⟨gb334, 0, none⟩ = some (.int .i64 a1_0) := (blk_cell BK334.out 0).trans rfl; have hcz11_1 : w8.cell? ⟨gb334, 1, none⟩ = some (.int .i64 a1_1) := (blk_cell BK334.out 1).trans rfl; have hcz11_2 : w8.cell? ⟨gb334, 2, none⟩ = some (.bool a1_2) := (blk_cell BK334.out 2).trans rfl; have hfz11_0 := blk_frozen BK334.out 0; have hfz11_1 := blk_frozen BK334.out 1; have hfz11_2 := blk_frozen BK334.out 2) | (go_at_call 34; (with_reducible refine (match_compare.calls a2 a1_1 t336 _ A5.out).mono ?_); rintro e w' ⟨rfl, ⟨nd, rfl⟩⟩; (try first | exact ⟨rfl, _, World.drewN_drewN _ _ _⟩ | exact ⟨rfl, _, Eq.trans (World.drewN_drewN _ _ _) (congrArg (World.drewN _) (Nat.add_assoc _ _ _))⟩)) | (go_at_call 33; (with_reducible refine (match_within.calls k t335 a0_0 a0_2 t336 a1_0 a1_2 t337 _ A6.out).mono ?_); rintro e w' ⟨rfl, ⟨nd, rfl⟩⟩; (try first | exact ⟨rfl, _, World.drewN_drewN _ _ _⟩ | exact ⟨rfl, _, Eq.trans (World.drewN_drewN _ _ _) (congrArg (World.drewN _) (Nat.add_assoc _ _ _))⟩)))
  repeat (go_quiet (first | ((with_reducible refine gate_dst (N := 3) rfl ?_); refine box_event ?hg (N := 3) ?hd (cs := #[.int .i64 a0_0, .int .i64 a0_1, .bool a0_2]) (t := 41) ?hr ?_; (case hd => rfl); (case hg => rfl); (case hr => first | (go_simp; done) | (go_simp; rfl)); intro gb333 hg w7 hbox hb; have n0_ := Aside0.mk (below_step (by repeat (first | (with_reducible first | exact HB.out | apply below_alloc | apply pw_below_drewN | apply below_drew1) | exact HB.out)) hb); have n1_ := Aside0.mk (hbox); have n2_ := Aside0.mk ((by rw [hg]; exact (below_size (by repeat (first | (with_reducible first | exact HB.out | apply below_alloc | apply pw_below_drewN | apply below_drew1) | exact HB.out))) : w.heap.size ≤ gb333)); have n3_ := Aside0.mk ((by rw [hg]; exact (below_size (by repeat (first | (with_reducible first | exact HB.out | apply below_alloc | apply pw_below_drewN | apply below_drew1) | exact HB.out))) : w.heap.size ≤ gb333)); clear HB; have HB := n0_; have BK333 := n1_; have GW333 := n2_; have GE333 := n3_; clear n0_ n1_ n2_ n3_; clear hb hbox hg) | ((with_reducible refine gate_dst (N := 4) rfl ?_); refine box_event ?hg (N := 4) ?hd (cs := #[.int .i64 a1_0, .int .i64 a1_1, .bool a1_2]) (t := 41) ?hr ?_; (case hd => rfl); (case hg => rfl); (case hr => first | (go_simp; done) | (go_simp; rfl)); intro gb334 hg w8 hbox hb; have n0_ := Aside0.mk (blk_below (g := gb333) (o := .cells #[.int .i64 a0_0, .int .i64 a0_1, .bool a0_2] 41 (0, 0)) (by (with_reducible repeat (first | refine blk_drewN ?_ _ | refine blk_drew ?_ | refine blk_alloc ?_ _)); exact BK333.out) hb); have n1_ := Aside0.mk (below_step (by repeat (first | (with_reducible first | exact HB.out | apply below_alloc | apply pw_below_drewN | apply below_drew1 | refine below_set ?_ GE333.out) | exact HB.out)) hb); have n2_ := Aside0.mk (hbox); have n3_ := Aside0.mk ((by rw [hg]; exact (below_size (by repeat (first | (with_reducible first | exact HB.out | apply below_alloc | apply pw_below_drewN | apply below_drew1 | refine below_set ?_ GE333.out) | exact HB.out))) : w.heap.size ≤ gb334)); have n4_ := Aside0.mk ((by rw [hg]; exact (below_size (by repeat (first | (with_reducible first | exact HB.out | apply below_alloc | apply pw_below_drewN | apply below_drew1 | refine below_set ?_ GE333.out) | exact HB.out))) : w.heap.size ≤ gb334)); have n5_ := Aside0.mk ((by rw [hg]; exact Nat.ne_of_lt (blk_lt (g := gb333) (o := .cells #[.int .i64 a0_0, .int .i64 a0_1, .bool a0_2] 41 (0, 0)) (by (with_reducible repeat (first | refine blk_drewN ?_ _ | refine blk_drew ?_ | refine blk_alloc ?_ _)); exact BK333.out)) : gb333 ≠ gb334)); have n6_ := Aside0.mk ((by rw [hg]; exact Nat.ne_of_gt (blk_lt (g := gb333) (o := .cells #[.int .i64 a0_0, .int .i64 a0_1, .bool a0_2] 41 (0, 0)) (by (with_reducible repeat (first | refine blk_drewN ?_ _ | refine blk_drew ?_ | refine blk_alloc ?_ _)); exact BK333.out)) : gb334 ≠ gb333)); clear BK333; clear HB; have BK333 := n0_; have HB := n1_; have BK334 := n2_; have GW334 := n3_; have GE334 := n4_; have NB333_334 := n5_; have NB334_333 := n6_; clear n0_ n1_ n2_ n3_ n4_ n5_ n6_; clear hb hbox hg; have hnb9 := NB333_334.out; have hnc9 := NB334_333.out; have hcz10_0 : w8.cell? ⟨gb333, 0, none⟩ = some (.int .i64 a0_0) := (blk_cell BK333.out 0).trans rfl; have hcz10_1 : w8.cell? ⟨gb333, 1, none⟩ = some (.int .i64 a0_1) := (blk_cell BK333.out 1).trans rfl; have hcz10_2 : w8.cell? ⟨gb333, 2, none⟩ = some (.bool a0_2) := (blk_cell BK333.out 2).trans rfl; have hfz10_0 := blk_frozen BK333.out 0; have hfz10_1 := blk_frozen BK333.out 1; have hfz10_2 := blk_frozen BK333.out 2) | (go_at_call 34; (with_reducible refine (match_compare.calls a2 a0_1 t335 _ A4.out).mono ?_); rintro e w' ⟨rfl, ⟨nd, rfl⟩⟩; (try first | exact ⟨rfl, _, World.drewN_drewN _ _ _⟩ | exact ⟨rfl, _, Eq.trans (World.drewN_drewN _ _ _) (congrArg (World.drewN _) (Nat.add_assoc _ _ _))⟩); have hcz11_0 : w8.cell? ⟨gb334, 0, none⟩ = some (.int .i64 a1_0) := (blk_cell BK334.out 0).trans rfl; have hcz11_1 : w8.cell? ⟨gb334, 1, none⟩ = some (.int .i64 a1_1) := (blk_cell BK334.out 1).trans rfl; have hcz11_2 : w8.cell? ⟨gb334, 2, none⟩ = some (.bool a1_2) := (blk_cell BK334.out 2).trans rfl; have hfz11_0 := blk_frozen BK334.out 0; have hfz11_1 := blk_frozen BK334.out 1; have hfz11_2 := blk_frozen BK334.out 2) | (go_at_call 34; (with_reducible refine (match_compare.calls a2 a1_1 t336 _ A5.out).mono ?_); rintro e w' ⟨rfl, ⟨nd, rfl⟩⟩; (try first | exact ⟨rfl, _, World.drewN_drewN _ _ _⟩ | exact ⟨rfl, _, Eq.trans (World.drewN_drewN _ _ _) (congrArg (World.drewN _) (Nat.add_assoc _ _ _))⟩)) | (go_at_call 33; (with_reducible refine (match_within.calls k t335 a0_0 a0_2 t336 a1_0 a1_2 t337 _ A6.out).mono ?_); rintro e w' ⟨rfl, ⟨nd, rfl⟩⟩; (try first | exact ⟨rfl, _, World.drewN_drewN _ _ _⟩ | exact ⟨rfl, _, Eq.trans (World.drewN_drewN _ _ _) (congrArg (World.drewN _) (Nat.add_assoc _ _ _))⟩))); try go_wp2_with (first | ((with_reducible refine gate_dst (N := 3) rfl ?_); refine box_event ?hg (N := 3) ?hd (cs := #[.int .i64 a0_0, .int .i64 a0_1, .bool a0_2]) (t := 41) ?hr ?_; (case hd => rfl); (case hg => rfl); (case hr => first | (go_simp; done) | (go_simp; rfl)); intro gb333 hg w7 hbox hb; have n0_ := Aside0.mk (below_step (by repeat (first | (with_reducible first | exact HB.out | apply below_alloc | apply pw_below_drewN | apply below_drew1) | exact HB.out)) hb); have n1_ := Aside0.mk (hbox); have n2_ := Aside0.mk ((by rw [hg]; exact (below_size (by repeat (first | (with_reducible first | exact HB.out | apply below_alloc | apply pw_below_drewN | apply below_drew1) | exact HB.out))) : w.heap.size ≤ gb333)); have n3_ := Aside0.mk ((by rw [hg]; exact (below_size (by repeat (first | (with_reducible first | exact HB.out | apply below_alloc | apply pw_below_drewN | apply below_drew1) | exact HB.out))) : w.heap.size ≤ gb333)); clear HB; have HB := n0_; have BK333 := n1_; have GW333 := n2_; have GE333 := n3_; clear n0_ n1_ n2_ n3_; clear hb hbox hg) | ((with_reducible refine gate_dst (N := 4) rfl ?_); refine box_event ?hg (N := 4) ?hd (cs := #[.int .i64 a1_0, .int .i64 a1_1, .bool a1_2]) (t := 41) ?hr ?_; (case hd => rfl); (case hg => rfl); (case hr => first | (go_simp; done) | (go_simp; rfl)); intro gb334 hg w8 hbox hb; have n0_ := Aside0.mk (blk_below (g := gb333) (o := .cells #[.int .i64 a0_0, .int .i64 a0_1, .bool a0_2] 41 (0, 0)) (by (with_reducible repeat (first | refine blk_drewN ?_ _ | refine blk_drew ?_ | refine blk_alloc ?_ _)); exact BK333.out) hb); have n1_ := Aside0.mk (below_step (by repeat (first | (with_reducible first | exact HB.out | apply below_alloc | apply pw_below_drewN | apply below_drew1 | refine below_set ?_ GE333.out) | exact HB.out)) hb); have n2_ := Aside0.mk (hbox); have n3_ := Aside0.mk ((by rw [hg]; exact (below_size (by repeat (first | (with_reducible first | exact HB.out | apply below_alloc | apply pw_below_drewN | apply below_drew1 | refine below_set ?_ GE333.out) | exact HB.out))) : w.heap.size ≤ gb334)); have n4_ := Aside0.mk ((by rw [hg]; exact (below_size (by repeat (first | (with_reducible first | exact HB.out | apply below_alloc | apply pw_below_drewN | apply below_drew1 | refine below_set ?_ GE333.out) | exact HB.out))) : w.heap.size ≤ gb334)); have n5_ := Aside0.mk ((by rw [hg]; exact Nat.ne_of_lt (blk_lt (g := gb333) (o := .cells #[.int .i64 a0_0, .int .i64 a0_1, .bool a0_2] 41 (0, 0)) (by (with_reducible repeat (first | refine blk_drewN ?_ _ | refine blk_drew ?_ | refine blk_alloc ?_ _)); exact BK333.out)) : gb333 ≠ gb334)); have n6_ := Aside0.mk ((by rw [hg]; exact Nat.ne_of_gt (blk_lt (g := gb333) (o := .cells #[.int .i64 a0_0, .int .i64 a0_1, .bool a0_2] 41 (0, 0)) (by (with_reducible repeat (first | refine blk_drewN ?_ _ | refine blk_drew ?_ | refine blk_alloc ?_ _)); exact BK333.out)) : gb334 ≠ gb333)); clear BK333; clear HB; have BK333 := n0_; have HB := n1_; have BK334 := n2_; have GW334 := n3_; have GE334 := n4_; have NB333_334 := n5_; have NB334_333 := n6_; clear n0_ n1_ n2_ n3_ n4_ n5_ n6_; clear hb hbox hg; have hnb9 := NB333_334.out; have hnc9 := NB334_333.out; have hcz10_0 : w8.cell? ⟨gb333, 0, none⟩ = some (.int .i64 a0_0) := (blk_cell BK333.out 0).trans rfl; have hcz10_1 : w8.cell? ⟨gb333, 1, none⟩ = some (.int .i64 a0_1) := (blk_cell BK333.out 1).trans rfl; have hcz10_2 : w8.cell? ⟨gb333, 2, none⟩ = some (.bool a0_2) := (blk_cell BK333.out 2).trans rfl; have hfz10_0 := blk_frozen BK333.out 0; have hfz10_1 := blk_frozen BK333.out 1; have hfz10_2 := blk_frozen BK333.out 2) | (go_at_call 34; (with_reducible refine (match_compare.calls a2 a0_1 t335 _ A4.out).mono ?_); rintro e w' ⟨rfl, ⟨nd, rfl⟩⟩; (try first | exact ⟨rfl, _, World.drewN_drewN _ _ _⟩ | exact ⟨rfl, _, Eq.trans (World.drewN_drewN _ _ _) (congrArg (World.drewN _) (Nat.add_assoc _ _ _))⟩); have hcz11_0 : w8.cell? ⟨gb334, 0, none⟩ = some (.int .i64 a1_0) := (blk_cell BK334.out 0).trans rfl; have hcz11_1 : w8.cell? ⟨gb334, 1, none⟩ = some (.int .i64 a1_1) := (blk_cell BK334.out 1).trans rfl; have hcz11_2 : w8.cell? ⟨gb334, 2, none⟩ = some (.bool a1_2) := (blk_cell BK334.out 2).trans rfl; have hfz11_0 := blk_frozen BK334.out 0; have hfz11_1 := blk_frozen BK334.out 1; have hfz11_2 := blk_frozen BK334.out 2) | (go_at_call 34; (with_reducible refine (match_compare.calls a2 a1_1 t336 _ A5.out).mono ?_); rintro e w' ⟨rfl, ⟨nd, rfl⟩⟩; (try first | exact ⟨rfl, _, World.drewN_drewN _ _ _⟩ | exact ⟨rfl, _, Eq.trans (World.drewN_drewN _ _ _) (congrArg (World.drewN _) (Nat.add_assoc _ _ _))⟩)) | (go_at_call 33; (with_reducible refine (match_within.calls k t335 a0_0 a0_2 t336 a1_0 a1_2 t337 _ A6.out).mono ?_); rintro e w' ⟨rfl, ⟨nd, rfl⟩⟩; (try first | exact ⟨rfl, _, World.drewN_drewN _ _ _⟩ | exact ⟨rfl, _, Eq.trans (World.drewN_drewN _ _ _) (congrArg (World.drewN _) (Nat.add_assoc _ _ _))⟩))))
  go_ret
  exact ⟨by first | rfl | (simp [errW_none, errW_some] <;> rfl) | (simp [*, errW_none, errW_some] <;> rfl), by repeat (first | (with_reducible first | exact HB.out | apply below_alloc | apply pw_below_drewN | apply below_drew1 | refine below_set ?_ GE333.out | refine below_set ?_ GE334.out) | exact HB.out)⟩

end Go.Proofs.YtdflblegdfpdpaaDoor.PE
end

section
/- MatchEnds, in plain Lean: what bounds that are written as text let in. -/
namespace Go.Proofs.YtdflblegdfpdpaaDoor.EndsS
open Go Go.RowKit Go.Proofs.YtdflblegdfpdpaaDoor.PA Go.Proofs.YtdflblegdfpdpaaDoor.NumS Go.Proofs.YtdflblegdfpdpaaDoor.NumT Go.Proofs.YtdflblegdfpdpaaDoor.ScoreW Go.Proofs.YtdflblegdfpdpaaDoor.LexW Go.Proofs.YtdflblegdfpdpaaDoor.RefE
set_option linter.unusedVariables false

def cmpI (a b : Int) : Int := if a < b then -1 else if a > b then 1 else 0
theorem compare_f (a b : Int) : PE.match_compare.f a b = some (cmpI a b) := by
  unfold PE.match_compare.f cmpI
  split
  · rfl
  · split <;> rfl
def inScoreB (fl ls : Int) (ol : Bool) (fh hs : Int) (oh : Bool) (s : Int) : Bool := withinB (cmpI s ls) fl ol (cmpI s hs) fh oh
theorem inScore_f (fl ls : Int) (ol : Bool) (fh hs : Int) (oh : Bool) (s : Int) : PE.match_InScore.f 1 fl ls ol fh hs oh s = some (inScoreB fl ls ol fh hs oh s) := by
  unfold PE.match_InScore.f inScoreB
  rw [compare_f, compare_f, Option.bind_some, Option.bind_some, within_f, Option.bind_some]
theorem inScore.calls (fl ls : Int) (ol : Bool) (fh hs : Int) (oh : Bool) (s : Int) (r : Bool) (hr : inScoreB fl ls ol fh hs oh s = r) (w : World) :
    Calls Tryd.prog 22 #[.agg #[.int .i64 fl, .int .i64 ls, .bool ol], .agg #[.int .i64 fh, .int .i64 hs, .bool oh], .int .i64 s] w fun e w' => e = .returned (.bool r) ∧ Below w.heap.size w w' :=
  hr ▸ PE.match_InScore.calls 1 fl ls ol fh hs oh s _ w (inScore_f fl ls ol fh hs oh s)

theorem cmpI_lt (a b : Int) : cmpI a b < 0 ↔ a < b := by unfold cmpI; split <;> (try split) <;> omega
theorem cmpI_eq (a b : Int) : cmpI a b = 0 ↔ a = b := by unfold cmpI; split <;> (try split) <;> omega
theorem cmpI_gt (a b : Int) : cmpI a b > 0 ↔ a > b := by unfold cmpI; split <;> (try split) <;> omega

/-- The four of a text c against a bound: c is how the text stands to it. -/
theorem from_shut (c d : Int) : withinB c 0 false d 1 false = decide (c ≥ 0) := by
  unfold withinB
  rw [if_neg (by omega), if_neg (by omega)]
  by_cases h : c < 0
  · rw [if_pos ⟨rfl, .inl h⟩]; symm; exact decide_eq_false (by omega)
  · rw [if_neg (by rintro ⟨_, h' | h'⟩; exact h h'; cases h'.2)]; simp; omega
theorem from_open (c d : Int) : withinB c 0 true d 1 false = decide (c > 0) := by
  unfold withinB
  rw [if_neg (by omega), if_neg (by omega)]
  by_cases h : c ≤ 0
  · rw [if_pos ⟨rfl, by by_cases h0 : c < 0; exact .inl h0; exact .inr ⟨by omega, rfl⟩⟩]; symm; exact decide_eq_false (by omega)
  · rw [if_neg (by rintro ⟨_, h' | h'⟩; omega; omega)]; simp; omega
theorem upto_shut (c d : Int) : withinB d (-1) false c 0 false = decide (c ≤ 0) := by
  unfold withinB
  rw [if_neg (by omega), if_neg (by omega), if_neg (by rintro ⟨h, _⟩; omega)]
  simp
  rw [Bool.eq_iff_iff]; simp; omega
theorem upto_open (c d : Int) : withinB d (-1) false c 0 true = decide (c < 0) := by
  unfold withinB
  rw [if_neg (by omega), if_neg (by omega), if_neg (by rintro ⟨h, _⟩; omega)]
  simp
theorem all_in (c d : Int) : withinB c (-1) false d 1 false = true := by
  unfold withinB
  rw [if_neg (by omega), if_neg (by omega), if_neg (by rintro ⟨h, _⟩; omega)]
  simp
theorem high_none (c d : Int) : withinB c 1 false d 1 false = false := by
  unfold withinB
  rw [if_pos (by omega)]
theorem low_none (c d : Int) : withinB c (-1) false d (-1) false = false := by
  unfold withinB
  rw [if_neg (by omega), if_pos (by omega)]
theorem same_shut (c : Int) : withinB c 0 false c 0 false = decide (c = 0) := by
  unfold withinB
  rw [if_neg (by omega), if_neg (by omega)]
  by_cases h : c < 0
  · rw [if_pos ⟨rfl, .inl h⟩]; symm; exact decide_eq_false (by omega)
  · rw [if_neg (by rintro ⟨_, h' | h'⟩; exact h h'; cases h'.2)]; simp; omega
theorem open_none (c : Int) : withinB c 0 true c 0 false = false := by
  unfold withinB
  rw [if_neg (by omega), if_neg (by omega)]
  by_cases h : c ≤ 0
  · rw [if_pos ⟨rfl, by by_cases h0 : c < 0; exact .inl h0; exact .inr ⟨by omega, rfl⟩⟩]
  · rw [if_neg (by rintro ⟨_, h' | h'⟩; omega; omega)]; simp; omega

theorem dig_some (n : Int) (h : 0 ≤ n ∧ n < 18446744073709551616) : PA.word_Digits.f n = some (PA.digitsL n.toNat) := if_pos h
theorem text_some (n : Int) (h : -9223372036854775808 ≤ n ∧ n < 9223372036854775808) : PE.word_Text.f n = some (textL n) := by
  unfold PE.word_Text.f textL
  by_cases h0 : n < 0
  · have e : IntKind.u64.wrap (-(IntKind.u64.wrap n)) = (n.natAbs : Int) := by rw [IntKind.wrap_u64, IntKind.wrap_u64]; omega
    have hl := PA.digitsL_len 20 n.natAbs (by omega) (by decide)
    rw [if_pos h0, if_pos h0, Option.bind_some, e, dig_some _ (by omega), Option.bind_some, Int.toNat_natCast, if_pos (by simp; omega)]
    rfl
  · have e : IntKind.u64.wrap n = n := by rw [IntKind.wrap_u64]; omega
    rw [if_neg h0, if_neg h0, e, dig_some _ (by omega), Option.bind_some]
theorem text_not (n : Int) (h : -9223372036854775808 ≤ n ∧ n < 9223372036854775808) (l : List Int) (hl : (intS l).2 ≠ 0) : textL n ≠ l := by
  intro e
  rw [← e, int_text n h] at hl
  exact hl rfl
theorem text_head (n : Int) : decide ((textL n).take 1 = [40]) = false := by
  refine decide_eq_false (fun h => ?_)
  have hm : (40 : Int) ∈ textL n := List.mem_of_mem_take (h ▸ List.mem_singleton.2 rfl : (40 : Int) ∈ (textL n).take 1)
  unfold textL at hm
  split at hm
  · rcases List.mem_cons.1 hm with h | h
    · omega
    · have := digits_dig _ _ h; omega
  · have := digits_dig _ _ hm; omega
theorem score_shut (n : Int) (h : -9223372036854775808 ≤ n ∧ n < 9223372036854775808) : scoreS (textL n) = (0, n, false, 0) := by
  unfold scoreS
  rw [text_head]
  show scoreB (textL n) false = _
  unfold scoreB
  rw [if_neg (text_not n h _ (by decide)), if_neg (text_not n h _ (by decide)), if_neg (text_not n h _ (by decide)), int_text n h]
  rfl
theorem score_open (n : Int) (h : -9223372036854775808 ≤ n ∧ n < 9223372036854775808) : scoreS (40 :: textL n) = (0, n, true, 0) := by
  unfold scoreS
  rw [show decide ((40 :: textL n).take 1 = [40]) = true by simp]
  show scoreB (textL n) true = _
  unfold scoreB
  rw [if_neg (text_not n h _ (by decide)), if_neg (text_not n h _ (by decide)), if_neg (text_not n h _ (by decide)), int_text n h]
  rfl
theorem score_low : scoreS [45, 105, 110, 102] = (-1, 0, false, 0) := by decide
theorem score_high : scoreS [43, 105, 110, 102] = (1, 0, false, 0) := by decide
end Go.Proofs.YtdflblegdfpdpaaDoor.EndsS
end

section
/- larderlaw9.MatchEnds: walked. -/
namespace Go.Proofs.YtdflblegdfpdpaaDoor.EndsW
open Go Go.RowKit Go.Proofs.YtdflblegdfpdpaaDoorW.PrintWords Go.Proofs.YtdflblegdfpdpaaDoorW.PrintLast Go.Proofs.YtdflblegdfpdpaaDoorW.PrintMore Go.Proofs.YtdflblegdfpdpaaDoor.ScoreW Go.Proofs.YtdflblegdfpdpaaDoor.AskW Go.Proofs.YtdflblegdfpdpaaDoor.GlobW Go.Proofs.YtdflblegdfpdpaaDoor.CloneW Go.Proofs.YtdflblegdfpdpaaDoor.LexW Go.Proofs.YtdflblegdfpdpaaDoor.EndsS Go.Proofs.YtdflblegdfpdpaaDoor.NumT Go.Proofs.YtdflblegdfpdpaaDoor.RefE
set_option linter.unusedVariables false
set_option maxRecDepth 100000

theorem sizeB : (Tryd.prog.info? 41).map (·.size) = some 3 := by kernel_rfl
theorem sizeL : (Tryd.prog.info? 43).map (·.size) = some 3 := by kernel_rfl
theorem load_bound {w : World} {g : Nat} {f : Int} {s : Int} {o : Bool} (h : w.heap[g]? = some (.cells #[.int .i64 f, .int .i64 s, .bool o] 41 (0, 0))) :
    (loadVar 41 ⟨g, 0, none⟩).run Tryd.prog w = .ok (.agg #[.int .i64 f, .int .i64 s, .bool o]) w :=
  run_loadVar_row (P := Tryd.prog) w g 41 41 _ (0, 0) _ h Tryd.underlying41 rfl sizeB
theorem load_lex {w : World} {g : Nat} {f : Int} {A : Option Addr} {n c : Nat} {o : Bool} (h : w.heap[g]? = some (.cells #[.int .i64 f, .slice A n c, .bool o] 43 (0, 0))) :
    (loadVar 43 ⟨g, 0, none⟩).run Tryd.prog w = .ok (.agg #[.int .i64 f, .slice A n c, .bool o]) w :=
  run_loadVar_row (P := Tryd.prog) w g 43 43 _ (0, 0) _ h Tryd.underlying43 rfl sizeL

theorem lex_cells {w : World} {g : Nat} {f : Int} {A : Option Addr} {n c : Nat} {o : Bool} (h : w.heap[g]? = some (.cells #[.int .i64 f, .slice A n c, .bool o] 43 (0, 0))) :
    w.cell? ⟨g, 0, none⟩ = some (.int .i64 f) ∧ w.cell? ⟨g, 1, none⟩ = some (.slice A n c) ∧ w.cell? ⟨g, 2, none⟩ = some (.bool o) := ⟨blk_cell h 0, blk_cell h 1, blk_cell h 2⟩
/-- What stays from world to world: the argument's box, what it leads to. -/
structure Sa (w W : World) (gb : Nat) (Ap At : Option Addr) (cp ct : Nat) (P T : List Int) (I J : Int) : Prop where
  bel : Below w.heap.size w W
  z1 : W.cell? ⟨gb, 1, none⟩ = some (.slice Ap P.length cp)
  z2 : W.cell? ⟨gb, 2, none⟩ = some (.slice At T.length ct)
  z3 : W.cell? ⟨gb, 3, none⟩ = some (.int .i64 I)
  z4 : W.cell? ⟨gb, 4, none⟩ = some (.int .i64 J)
  p : Kd.C (Kd.int .u8) W Ap P.length P
  t : Kd.C (Kd.int .u8) W At T.length T
theorem Sa.next {w W W' : World} {gb : Nat} {Ap At : Option Addr} {cp ct : Nat} {P T : List Int} {I J : Int} (h : Sa w W gb Ap At cp ct P T I J) (hb : Below W.heap.size W W') : Sa w W' gb Ap At cp ct P T I J :=
  ⟨PB.below_next h.bel hb, pw_cell_below hb h.z1, pw_cell_below hb h.z2, pw_cell_below hb h.z3, pw_cell_below hb h.z4, Kd.C_below h.p hb, Kd.C_below h.t hb⟩
/-- The four bounds of scores, and what stays. -/
structure En (w W : World) (gb : Nat) (Ap At : Option Addr) (cp ct : Nat) (P T : List Int) (I J : Int) (g4 g6 g8 g10 : Nat) : Prop where
  sa : Sa w W gb Ap At cp ct P T I J
  b4 : W.heap[g4]? = some (.cells #[.int .i64 0, .int .i64 I, .bool false] 41 (0, 0))
  b6 : W.heap[g6]? = some (.cells #[.int .i64 0, .int .i64 I, .bool true] 41 (0, 0))
  b8 : W.heap[g8]? = some (.cells #[.int .i64 (-1), .int .i64 0, .bool false] 41 (0, 0))
  b10 : W.heap[g10]? = some (.cells #[.int .i64 1, .int .i64 0, .bool false] 41 (0, 0))
theorem En.next {w W W' : World} {gb : Nat} {Ap At : Option Addr} {cp ct : Nat} {P T : List Int} {I J : Int} {g4 g6 g8 g10 : Nat} (h : En w W gb Ap At cp ct P T I J g4 g6 g8 g10) (hb : Below W.heap.size W W') : En w W' gb Ap At cp ct P T I J g4 g6 g8 g10 :=
  ⟨h.sa.next hb, blk_below h.b4 hb, blk_below h.b6 hb, blk_below h.b8 hb, blk_below h.b10 hb⟩
theorem scoreC.calls (A : Option Addr) (c : Nat) (l : List Int) (f s : Int) (o : Bool) (e0 : Int) (hs : scoreS l = (f, s, o, e0)) (w : World) (hr : Kd.C (Kd.int .u8) w A l.length l) (hc : l.length ≤ c) (hb : inB l) :
    Calls Tryd.prog 21 #[.slice A l.length c] w fun e w' => e = .returned (.tuple #[.agg #[.int .i64 f, .int .i64 s, .bool o], .int .i64 e0]) ∧ Below w.heap.size w w' := by
  have := score.calls A c l w hr hc hb
  rw [hs] at this
  exact this
theorem is_from_shut (I J : Int) : inScoreB 0 I false 1 0 false J = decide (I ≤ J) := by
  unfold inScoreB
  rw [from_shut, decide_eq_decide]
  have := cmpI_lt J I
  omega
theorem is_from_open (I J : Int) : inScoreB 0 I true 1 0 false J = decide (I < J) := by
  unfold inScoreB
  rw [from_open, decide_eq_decide]
  have := cmpI_gt J I
  omega
theorem is_upto_shut (I J : Int) : inScoreB (-1) 0 false 0 I false J = decide (J ≤ I) := by
  unfold inScoreB
  rw [upto_shut, decide_eq_decide]
  have := cmpI_gt J I
  omega
theorem is_upto_open (I J : Int) : inScoreB (-1) 0 false 0 I true J = decide (J < I) := by
  unfold inScoreB
  rw [upto_open, decide_eq_decide]
  have := cmpI_lt J I
  omega
theorem is_all (J : Int) : inScoreB (-1) 0 false 1 0 false J = true := all_in _ _
theorem is_high (J : Int) : inScoreB 1 0 false 1 0 false J = false := high_none _ _
theorem is_low (J : Int) : inScoreB (-1) 0 false (-1) 0 false J = false := low_none _ _
theorem is_same (I J : Int) : inScoreB 0 I false 0 I false J = decide (J = I) := by
  unfold inScoreB
  rw [same_shut, decide_eq_decide]
  exact cmpI_eq J I
theorem is_none (I J : Int) : inScoreB 0 I true 0 I false J = false := open_none _
abbrev NumS_rd (l : List Int) (x : Int) : Prop := rd l 0 = x
theorem inLexC.calls (fl : Int) (Al : Option Addr) (cl : Nat) (l : List Int) (ol : Bool) (fh : Int) (Ah : Option Addr) (ch : Nat) (h : List Int) (oh : Bool) (Am : Option Addr) (cm : Nat) (m : List Int) (r : Bool) (hr : inLexB fl l ol fh h oh m = r) (w : World)
    (hl : Kd.C (Kd.int .u8) w Al l.length l) (hh : Kd.C (Kd.int .u8) w Ah h.length h) (hm : Kd.C (Kd.int .u8) w Am m.length m) (il : inB l) (ih : inB h) (im : inB m) :
    Calls Tryd.prog 25 #[.agg #[.int .i64 fl, .slice Al l.length cl, .bool ol], .agg #[.int .i64 fh, .slice Ah h.length ch, .bool oh], .slice Am m.length cm] w fun e w' => e = .returned (.bool r) ∧ Below w.heap.size w w' :=
  hr ▸ inLex.calls fl Al cl l ol fh Ah ch h oh Am cm m w hl hh hm il ih im
/-- The four bounds of members, and what stays. -/
structure Le (w W : World) (gb : Nat) (Ap At : Option Addr) (cp ct : Nat) (P T : List Int) (I J : Int) (g14 g15 g16 g17 : Nat) (A5 A6 : Option Addr) (c5 c6 : Nat) : Prop where
  sa : Sa w W gb Ap At cp ct P T I J
  b14 : W.heap[g14]? = some (.cells #[.int .i64 0, .slice A5 P.length c5, .bool false] 43 (0, 0))
  b15 : W.heap[g15]? = some (.cells #[.int .i64 0, .slice A6 P.length c6, .bool true] 43 (0, 0))
  b16 : W.heap[g16]? = some (.cells #[.int .i64 (-1), .slice none 0 0, .bool false] 43 (0, 0))
  b17 : W.heap[g17]? = some (.cells #[.int .i64 1, .slice none 0 0, .bool false] 43 (0, 0))
  p5 : Kd.C (Kd.int .u8) W A5 P.length P
  p6 : Kd.C (Kd.int .u8) W A6 P.length P
theorem Le.next {w W W' : World} {gb : Nat} {Ap At : Option Addr} {cp ct : Nat} {P T : List Int} {I J : Int} {g14 g15 g16 g17 : Nat} {A5 A6 : Option Addr} {c5 c6 : Nat} (h : Le w W gb Ap At cp ct P T I J g14 g15 g16 g17 A5 A6 c5 c6) (hb : Below W.heap.size W W') : Le w W' gb Ap At cp ct P T I J g14 g15 g16 g17 A5 A6 c5 c6 :=
  ⟨h.sa.next hb, blk_below h.b14 hb, blk_below h.b15 hb, blk_below h.b16 hb, blk_below h.b17 hb, Kd.C_below h.p5 hb, Kd.C_below h.p6 hb⟩

section
variable (P T : List Int) (I J : Int) (Ap At : Option Addr) (cp ct : Nat) (w : World)
set_option maxHeartbeats 8000000 in
theorem ends (cs : Array Value) (h1 : cs[1]? = some (.slice Ap P.length cp)) (h2 : cs[2]? = some (.slice At T.length ct)) (h3 : cs[3]? = some (.int .i64 I)) (h4 : cs[4]? = some (.int .i64 J)) (hP : Kd.C (Kd.int .u8) w Ap P.length P) (hT : Kd.C (Kd.int .u8) w At T.length T) (hcp : P.length ≤ cp) (hct : T.length ≤ ct) (hlP : P.length ≤ 140737488351232) (hlT : T.length ≤ 140737488351232)
    (hPi : inB P) (hTi : inB T) (hI : -9223372036854775808 ≤ I ∧ I < 9223372036854775808) (hJ : -9223372036854775808 ≤ J ∧ J < 9223372036854775808) (hG : GL w) :
    Calls Tryd.prog 7 #[.agg cs] w fun e w' => e = .returned (.bool true) ∧ Below w.heap.size w w' := by
  have HP := Aside0.mk hP
  have HT := Aside0.mk hT
  have HG := Aside0.mk hG
  have HPI := Aside0.mk hPi
  have HTI := Aside0.mk hTi
  have HI := Aside0.mk hI
  clear hP hT hG hPi hTi
  go_enter Tryd.func7, Tryd.ntmps7
  go_wp2_with (first | ((with_reducible refine gate_dst (N := 1) rfl ?_); refine box_event ?hg (N := 1) ?hd (cs := cs) (t := 45) ?hr ?_; (case hd => rfl); (case hg => rfl); (case hr => first | (go_simp; done) | (go_simp; rfl)); intro gb hg w5 hbox hb; have HSA := Aside0.mk (Sa.mk (w := w) hb ((blk_cell hbox 1).trans h1) ((blk_cell hbox 2).trans h2) ((blk_cell hbox 3).trans h3) ((blk_cell hbox 4).trans h4) (Kd.C_below HP.out hb) (Kd.C_below HT.out hb)); clear hb hbox hg))
  refine (PB.wakes_walk w5 (HG.out.below HSA.out.bel)).mono ?_
  rintro e w6 ⟨rfl, hb⟩
  have HS6 := Aside0.mk (HSA.out.next hb)
  clear HSA hb HP HT HG
  have z3 := HS6.out.z3
  go_wp2_with fail
  refine (PE.word_Text.calls I (textL I) _ (text_some I HI.out)).mono ?_
  rintro e w7 ⟨v7, rfl, hR, hb⟩
  obtain ⟨An, cn, rfl, hcn, hCn⟩ := Kd.R_reads hR
  have HS7 := Aside0.mk (HS6.out.next hb)
  have HN := Aside0.mk hCn
  have hln := textL_len I HI.out
  have HNI : Aside0 (inB (textL I)) := ⟨textL_in I⟩
  have HSC := Aside0.mk (score_shut I HI.out)
  have HSO := Aside0.mk (score_open I HI.out)
  obtain ⟨lo, hlo⟩ : ∃ lo, lo = [40] ++ textL I := ⟨_, rfl⟩
  have hlo1 : lo.length ≤ 22 := by rw [hlo, List.length_append, List.length_singleton]; omega
  have HLO := Aside0.mk hlo
  have HOI : Aside0 (inB lo) := ⟨by rw [hlo]; intro x hx; rcases List.mem_append.1 hx with h | h; rw [List.mem_singleton.1 h]; decide; exact HNI.out x h⟩
  rw [show (40 :: textL I) = lo from hlo.symm] at HSO
  clear HS6 hb hR hCn z3 hlo
  generalize textL I = tn at *
  go_upto_region 5 with (first
    | (go_at_call 21; refine (scoreC.calls An cn tn 0 I false 0 HSC.out _ HN.out hcn HNI.out).mono ?_; rintro e w8 ⟨rfl, hb⟩; have HS8 := Aside0.mk (HS7.out.next hb); have HN8 := Aside0.mk (Kd.C_below HN.out hb); clear hb HS7 HN))
  have hb9 := below_alloc (Below.refl w8.heap.size w8) (.cells #[.int .i64 0, .int .i64 I, .bool false] 41)
  have HB4 := Aside0.mk (blk_new w8 (.cells #[.int .i64 0, .int .i64 I, .bool false] 41))
  have HS9 := Aside0.mk (HS8.out.next hb9)
  have HN9 := Aside0.mk (Kd.C_below HN8.out hb9)
  clear hb9 HS8 HN8
  generalize w8.alloc (.cells #[.int .i64 0, .int .i64 I, .bool false] 41) = w9 at *
  generalize w8.heap.size = g4 at *
  have hc1 := conv_at (w := w9) w9.heap.size rfl #[.int .u8 40] 1 1
  go_upto_region 6 with (first
    | ((with_reducible refine gate_builtin (b := .append) (xs := #[.tmp 30, .tmp 31]) rfl ?_); at_builtin; refine wpList_append_fullW rfl (.tmp 30) (.tmp 31) rfl ⟨w9.heap.size, 0, none⟩ [40] rfl (got_const _ _ rfl [40] _ (by decide)) An cn tn rfl (Kd.C_alloc HN9.out _) (by simp only [List.length_singleton]; omega) lo HLO.out ?_; intro Ao co w10 hCo hco hb hA; have HS10 := Aside0.mk ((HS9.out.next (below_alloc (Below.refl _ _) _)).next hb); have HB4b := Aside0.mk (blk_below (blk_alloc HB4.out _) hb); have HOC := Aside0.mk hCo; clear hCo hb hA hc1 HS9 HB4 HN9)
    | (go_at_call 21; refine (scoreC.calls Ao co lo 0 I true 0 HSO.out _ HOC.out hco HOI.out).mono ?_; rintro e w11 ⟨rfl, hb⟩; have HS11 := Aside0.mk (HS10.out.next hb); have HB4c := Aside0.mk (blk_below HB4b.out hb); clear hb HS10 HB4b HOC))
  have hb9 := below_alloc (Below.refl w11.heap.size w11) (.cells #[.int .i64 0, .int .i64 I, .bool true] 41)
  have HB6 := Aside0.mk (blk_new w11 (.cells #[.int .i64 0, .int .i64 I, .bool true] 41))
  have HB4 := Aside0.mk (blk_below HB4c.out hb9)
  have HS12 := Aside0.mk (HS11.out.next hb9)
  clear hb9 HS11 HB4c HSC HSO HLO HOI HNI
  generalize w11.alloc (.cells #[.int .i64 0, .int .i64 I, .bool true] 41) = w12 at *
  generalize w11.heap.size = g6 at *
  have hc1 := conv_at (w := w12) w12.heap.size rfl #[.int .u8 45, .int .u8 105, .int .u8 110, .int .u8 102] 4 4
  go_upto_region 7 with (first
    | (go_at_call 21; refine (scoreC.calls _ 4 [45, 105, 110, 102] (-1) 0 false 0 score_low _ (got_const w12 _ rfl [45, 105, 110, 102] _ (by decide)) (by decide) (by unfold inB; decide)).mono ?_; rintro e w13 ⟨rfl, hb⟩; have HS13 := Aside0.mk ((HS12.out.next (below_alloc (Below.refl _ _) _)).next hb); have HB4b := Aside0.mk (blk_below (blk_alloc HB4.out _) hb); have HB6b := Aside0.mk (blk_below (blk_alloc HB6.out _) hb); clear hb hc1 HS12 HB4 HB6))
  have hb9 := below_alloc (Below.refl w13.heap.size w13) (.cells #[.int .i64 (-1), .int .i64 0, .bool false] 41)
  have HB8 := Aside0.mk (blk_new w13 (.cells #[.int .i64 (-1), .int .i64 0, .bool false] 41))
  have HB4 := Aside0.mk (blk_below HB4b.out hb9)
  have HB6 := Aside0.mk (blk_below HB6b.out hb9)
  have HS14 := Aside0.mk (HS13.out.next hb9)
  clear hb9 HS13 HB4b HB6b
  generalize w13.alloc (.cells #[.int .i64 (-1), .int .i64 0, .bool false] 41) = w14 at *
  generalize w13.heap.size = g8 at *
  have hc1 := conv_at (w := w14) w14.heap.size rfl #[.int .u8 43, .int .u8 105, .int .u8 110, .int .u8 102] 4 4
  go_upto_region 8 with (first
    | (go_at_call 21; refine (scoreC.calls _ 4 [43, 105, 110, 102] 1 0 false 0 score_high _ (got_const w14 _ rfl [43, 105, 110, 102] _ (by decide)) (by decide) (by unfold inB; decide)).mono ?_; rintro e w15 ⟨rfl, hb⟩; have HS15 := Aside0.mk ((HS14.out.next (below_alloc (Below.refl _ _) _)).next hb); have HB4b := Aside0.mk (blk_below (blk_alloc HB4.out _) hb); have HB6b := Aside0.mk (blk_below (blk_alloc HB6.out _) hb); have HB8b := Aside0.mk (blk_below (blk_alloc HB8.out _) hb); clear hb hc1 HS14 HB4 HB6 HB8))
  have hb9 := below_alloc (Below.refl w15.heap.size w15) (.cells #[.int .i64 1, .int .i64 0, .bool false] 41)
  have HE := Aside0.mk (En.mk (HS15.out.next hb9) (blk_below HB4b.out hb9) (blk_below HB6b.out hb9) (blk_below HB8b.out hb9) (blk_new w15 (.cells #[.int .i64 1, .int .i64 0, .bool false] 41)))
  clear hb9 HS15 HB4b HB6b HB8b
  generalize w15.alloc (.cells #[.int .i64 1, .int .i64 0, .bool false] 41) = w16 at *
  generalize w15.heap.size = g10 at *
  have z4 := HE.out.sa.z4
  go_upto_region 11 with fail
  -- BIG
  obtain ⟨bge, hge⟩ : ∃ b, decide (I ≤ J) = b := ⟨_, rfl⟩
  obtain ⟨bgt, hgt⟩ : ∃ b, decide (I < J) = b := ⟨_, rfl⟩
  obtain ⟨ble, hle⟩ : ∃ b, decide (J ≤ I) = b := ⟨_, rfl⟩
  obtain ⟨blt, hlt⟩ : ∃ b, decide (J < I) = b := ⟨_, rfl⟩
  obtain ⟨beq, heq⟩ : ∃ b, decide (J = I) = b := ⟨_, rfl⟩
  have heq2 : (J == I) = beq := by rw [← heq]; rfl
  have Q1 := Aside0.mk ((is_from_shut I J).trans hge)
  have Q2 := Aside0.mk ((is_from_open I J).trans hgt)
  have Q3 := Aside0.mk ((is_upto_shut I J).trans hle)
  have Q4 := Aside0.mk ((is_upto_open I J).trans hlt)
  have Q5 := Aside0.mk (is_all J)
  have Q6 := Aside0.mk (is_high J)
  have Q7 := Aside0.mk (is_low J)
  have Q8 := Aside0.mk ((is_same I J).trans heq)
  have Q9 := Aside0.mk (is_none I J)
  have n1 : (bge != bge) = false := by simp
  have n2 : (bgt != bgt) = false := by simp
  have n3 : (ble != ble) = false := by simp
  have n4 : (blt != blt) = false := by simp
  have n5 : (beq != beq) = false := by simp
  clear z4
  have hS0 : En w w16.drew gb Ap At cp ct P T I J g4 g6 g8 g10 := HE.out.next (Below.refl _ _).drew
  go_cut [105] (fun v105 wc => v105 = .bool false ∧ Aside0 (En w wc gb Ap At cp ct P T I J g4 g6 g8 g10))
  case first =>
    refine wp_region_held_drew (S := (fun W => En w W gb Ap At cp ct P T I J g4 g6 g8 g10)) (by kernel_rfl) (by exact hS0) (fun hHeld => ?_)
    refine wpAnyH_take (i := 0) (oi := ({ dst := some 64, op := Go.Op.load 41 (Go.Operand.tmp 4), type := 41, pos := "law.go:363", after := #[], guard := none } : Oper)) (v := Value.agg #[.int .i64 0, .int .i64 I, .bool false]) rfl (by kernel_rfl) (by kernel_rfl) (by kernel_rfl) (fun _ _ _ h => h) (Or.inl ⟨by rfl, ?hyp0⟩) (by assumption) ?restp0
    case hyp0 => (intro w hSw; (try dsimp only at hSw); have hl := load_bound hSw.b4; simp [execOp, Act.eval, Instr.loadAt, Instr.sureAddr, hl]; (try rfl))
    (try simp only [Act.put, List.setIfInBounds_toArray, List.set_cons_zero, List.set_cons_succ])
    refine wpAnyH_take (i := 1) (oi := ({ dst := some 65, op := Go.Op.load 41 (Go.Operand.tmp 10), type := 41, pos := "law.go:363", after := #[], guard := none } : Oper)) (v := Value.agg #[.int .i64 1, .int .i64 0, .bool false]) rfl (by kernel_rfl) (by kernel_rfl) (by kernel_rfl) (fun _ _ _ h => h) (Or.inl ⟨by rfl, ?hyp1⟩) (by assumption) ?restp1
    case hyp1 => (intro w hSw; (try dsimp only at hSw); have hl := load_bound hSw.b10; simp [execOp, Act.eval, Instr.loadAt, Instr.sureAddr, hl]; (try rfl))
    (try simp only [Act.put, List.setIfInBounds_toArray, List.set_cons_zero, List.set_cons_succ])
    refine wpAnyH_take (i := 2) (oi := ({ dst := some 66, op := Go.Op.move (Go.Operand.tmp 12), type := 2, pos := "law.go:363", after := #[], guard := none } : Oper)) (v := ?vp2) rfl (by kernel_rfl) (by kernel_rfl) (by kernel_rfl) (fun _ _ _ h => h) (Or.inl ⟨by rfl, ?hyp2⟩) (by assumption) ?restp2
    case hyp2 => (intro w hSw; (try dsimp only at hSw); go_simp; (try with_reducible rfl))
    (try simp only [Act.put, List.setIfInBounds_toArray, List.set_cons_zero, List.set_cons_succ])
    refine wpAnyH_take (i := 4) (oi := ({ dst := some 68, op := Go.Op.move (Go.Operand.tmp 12), type := 2, pos := "law.go:363", after := #[], guard := none } : Oper)) (v := ?vp4) rfl (by kernel_rfl) (by kernel_rfl) (by kernel_rfl) (fun _ _ _ h => h) (Or.inl ⟨by rfl, ?hyp4⟩) (by assumption) ?restp4
    case hyp4 => (intro w hSw; (try dsimp only at hSw); go_simp; (try with_reducible rfl))
    (try simp only [Act.put, List.setIfInBounds_toArray, List.set_cons_zero, List.set_cons_succ])
    refine wpAnyH_take (i := 5) (oi := ({ dst := some 69, op := Go.Op.fieldAddr 45 (Go.Operand.tmp 1) 3, type := 0, pos := "law.go:363", after := #[], guard := none } : Oper)) (v := ?vp5) rfl (by kernel_rfl) (by kernel_rfl) (by kernel_rfl) (fun _ _ _ h => h) (Or.inl ⟨by rfl, ?hyp5⟩) (by assumption) ?restp5
    case hyp5 => (intro w hSw; (try dsimp only at hSw); go_simp; (try with_reducible rfl))
    (try simp only [Act.put, List.setIfInBounds_toArray, List.set_cons_zero, List.set_cons_succ])
    refine wpAnyH_take (i := 6) (oi := ({ dst := some 70, op := Go.Op.load 2 (Go.Operand.tmp 69), type := 2, pos := "law.go:363", after := #[{ on := 5, ground := Go.Ground.data }], guard := none } : Oper)) (v := ?vp6) rfl (by kernel_rfl) (by kernel_rfl) (by kernel_rfl) (fun _ _ _ h => h) (Or.inl ⟨by rfl, ?hyp6⟩) (by assumption) ?restp6
    case hyp6 => (intro w hSw; (try dsimp only at hSw); have z := hSw.sa.z3; go_simp; (try with_reducible rfl))
    (try simp only [Act.put, List.setIfInBounds_toArray, List.set_cons_zero, List.set_cons_succ])
    refine wpAnyH_take (i := 7) (oi := ({ dst := some 71, op := Go.Op.binOp Go.BinOp.geq 2 (Go.Operand.tmp 68) (Go.Operand.tmp 70) 2, type := 4, pos := "law.go:363", after := #[{ on := 4, ground := Go.Ground.data }, { on := 6, ground := Go.Ground.data }], guard := none } : Oper)) (v := ?vp7) rfl (by kernel_rfl) (by kernel_rfl) (by kernel_rfl) (fun _ _ _ h => h) (Or.inl ⟨by rfl, ?hyp7⟩) (by assumption) ?restp7
    case hyp7 => (intro w hSw; (try dsimp only at hSw); go_simp; (try with_reducible rfl))
    (try simp only [Act.put, List.setIfInBounds_toArray, List.set_cons_zero, List.set_cons_succ])
    refine wpAnyH_ready (rs := [3]) (by kernel_rfl) (by simp) ?_
    refine AllReadyH.cons (o := ({ dst := some 67, op := Go.Op.call { callee := Go.Callee.value (Go.Operand.func 22), args := #[Go.Operand.tmp 64, Go.Operand.tmp 65, Go.Operand.tmp 66], argTypes := #[41, 41, 2] }, type := 4, pos := "law.go:363", after := #[{ on := 0, ground := Go.Ground.data }, { on := 1, ground := Go.Ground.data }, { on := 2, ground := Go.Ground.data }], guard := none } : Oper)) rfl (fun K hK => ?_) AllReadyH.nil
    go_simp
    refine (inScore.calls 0 I false 1 0 false J bge Q1.out _).mono ?_
    rintro e wx ⟨rfl, hb⟩
    have hS1 := En.next hHeld hb
    clear hb
    (try go_wp2_with fail)
    refine hK.out _ _ (by exact hS1) (fun hHeld => ?_)
    clear hK K
    (try simp only [Act.put, List.setIfInBounds_toArray, List.set_cons_zero, List.set_cons_succ])
    refine wpAnyH_take (i := 8) (oi := ({ dst := some 72, op := Go.Op.binOp Go.BinOp.neq 4 (Go.Operand.tmp 67) (Go.Operand.tmp 71) 4, type := 4, pos := "law.go:363", after := #[{ on := 3, ground := Go.Ground.data }, { on := 7, ground := Go.Ground.data }], guard := none } : Oper)) (v := ?vp8) rfl (by kernel_rfl) (by kernel_rfl) (by kernel_rfl) (fun _ _ _ h => h) (Or.inl ⟨by rfl, ?hyp8⟩) (by assumption) ?restp8
    case hyp8 => (intro w hSw; (try dsimp only at hSw); go_simp; (try with_reducible rfl))
    (try simp only [Act.put, List.setIfInBounds_toArray, List.set_cons_zero, List.set_cons_succ])
    refine wpAnyH_take (i := 9) (oi := ({ dst := some 73, op := Go.Op.move (Go.Operand.tmp 72), type := 4, pos := "law.go:363", after := #[{ on := 8, ground := Go.Ground.data }, { on := 3, ground := Go.Ground.chain }], guard := none } : Oper)) (v := ?vp9) rfl (by kernel_rfl) (by kernel_rfl) (by kernel_rfl) (fun _ _ _ h => h) (Or.inl ⟨by rfl, ?hyp9⟩) (by assumption) ?restp9
    case hyp9 => (intro w hSw; (try dsimp only at hSw); go_simp; (try with_reducible rfl))
    (try simp only [Act.put, List.setIfInBounds_toArray, List.set_cons_zero, List.set_cons_succ])
    refine wpAnyH_take (i := 10) (oi := ({ dst := some 74, op := Go.Op.load 41 (Go.Operand.tmp 6), type := 41, pos := "law.go:363", after := #[{ on := 9, ground := Go.Ground.guard }], guard := some (9, false) } : Oper)) (v := Value.agg #[.int .i64 0, .int .i64 I, .bool true]) rfl (by kernel_rfl) (by kernel_rfl) (by kernel_rfl) (fun _ _ _ h => h) (Or.inl ⟨by rfl, ?hyp10⟩) (by assumption) ?restp10
    case hyp10 => (intro w hSw; (try dsimp only at hSw); have hl := load_bound hSw.b6; simp [execOp, Act.eval, Instr.loadAt, Instr.sureAddr, hl]; (try rfl))
    (try simp only [Act.put, List.setIfInBounds_toArray, List.set_cons_zero, List.set_cons_succ])
    refine wpAnyH_take (i := 11) (oi := ({ dst := some 75, op := Go.Op.load 41 (Go.Operand.tmp 10), type := 41, pos := "law.go:363", after := #[{ on := 9, ground := Go.Ground.guard }], guard := some (9, false) } : Oper)) (v := Value.agg #[.int .i64 1, .int .i64 0, .bool false]) rfl (by kernel_rfl) (by kernel_rfl) (by kernel_rfl) (fun _ _ _ h => h) (Or.inl ⟨by rfl, ?hyp11⟩) (by assumption) ?restp11
    case hyp11 => (intro w hSw; (try dsimp only at hSw); have hl := load_bound hSw.b10; simp [execOp, Act.eval, Instr.loadAt, Instr.sureAddr, hl]; (try rfl))
    (try simp only [Act.put, List.setIfInBounds_toArray, List.set_cons_zero, List.set_cons_succ])
    refine wpAnyH_take (i := 12) (oi := ({ dst := some 76, op := Go.Op.move (Go.Operand.tmp 12), type := 2, pos := "law.go:363", after := #[{ on := 9, ground := Go.Ground.guard }], guard := some (9, false) } : Oper)) (v := ?vp12) rfl (by kernel_rfl) (by kernel_rfl) (by kernel_rfl) (fun _ _ _ h => h) (Or.inl ⟨by rfl, ?hyp12⟩) (by assumption) ?restp12
    case hyp12 => (intro w hSw; (try dsimp only at hSw); go_simp; (try with_reducible rfl))
    (try simp only [Act.put, List.setIfInBounds_toArray, List.set_cons_zero, List.set_cons_succ])
    refine wpAnyH_take (i := 14) (oi := ({ dst := some 78, op := Go.Op.move (Go.Operand.tmp 12), type := 2, pos := "law.go:363", after := #[{ on := 9, ground := Go.Ground.guard }], guard := some (9, false) } : Oper)) (v := ?vp14) rfl (by kernel_rfl) (by kernel_rfl) (by kernel_rfl) (fun _ _ _ h => h) (Or.inl ⟨by rfl, ?hyp14⟩) (by assumption) ?restp14
    case hyp14 => (intro w hSw; (try dsimp only at hSw); go_simp; (try with_reducible rfl))
    (try simp only [Act.put, List.setIfInBounds_toArray, List.set_cons_zero, List.set_cons_succ])
    refine wpAnyH_take (i := 15) (oi := ({ dst := some 79, op := Go.Op.fieldAddr 45 (Go.Operand.tmp 1) 3, type := 0, pos := "law.go:363", after := #[{ on := 9, ground := Go.Ground.guard }], guard := some (9, false) } : Oper)) (v := ?vp15) rfl (by kernel_rfl) (by kernel_rfl) (by kernel_rfl) (fun _ _ _ h => h) (Or.inl ⟨by rfl, ?hyp15⟩) (by assumption) ?restp15
    case hyp15 => (intro w hSw; (try dsimp only at hSw); go_simp; (try with_reducible rfl))
    (try simp only [Act.put, List.setIfInBounds_toArray, List.set_cons_zero, List.set_cons_succ])
    refine wpAnyH_take (i := 16) (oi := ({ dst := some 80, op := Go.Op.load 2 (Go.Operand.tmp 79), type := 2, pos := "law.go:363", after := #[{ on := 15, ground := Go.Ground.data }, { on := 9, ground := Go.Ground.guard }], guard := some (9, false) } : Oper)) (v := ?vp16) rfl (by kernel_rfl) (by kernel_rfl) (by kernel_rfl) (fun _ _ _ h => h) (Or.inl ⟨by rfl, ?hyp16⟩) (by assumption) ?restp16
    case hyp16 => (intro w hSw; (try dsimp only at hSw); have z := hSw.sa.z3; go_simp; (try with_reducible rfl))
    (try simp only [Act.put, List.setIfInBounds_toArray, List.set_cons_zero, List.set_cons_succ])
    refine wpAnyH_take (i := 17) (oi := ({ dst := some 81, op := Go.Op.binOp Go.BinOp.gtr 2 (Go.Operand.tmp 78) (Go.Operand.tmp 80) 2, type := 4, pos := "law.go:363", after := #[{ on := 14, ground := Go.Ground.data }, { on := 16, ground := Go.Ground.data }, { on := 9, ground := Go.Ground.guard }], guard := some (9, false) } : Oper)) (v := ?vp17) rfl (by kernel_rfl) (by kernel_rfl) (by kernel_rfl) (fun _ _ _ h => h) (Or.inl ⟨by rfl, ?hyp17⟩) (by assumption) ?restp17
    case hyp17 => (intro w hSw; (try dsimp only at hSw); go_simp; (try with_reducible rfl))
    (try simp only [Act.put, List.setIfInBounds_toArray, List.set_cons_zero, List.set_cons_succ])
    refine wpAnyH_ready (rs := [13]) (by kernel_rfl) (by simp) ?_
    refine AllReadyH.cons (o := ({ dst := some 77, op := Go.Op.call { callee := Go.Callee.value (Go.Operand.func 22), args := #[Go.Operand.tmp 74, Go.Operand.tmp 75, Go.Operand.tmp 76], argTypes := #[41, 41, 2] }, type := 4, pos := "law.go:363", after := #[{ on := 10, ground := Go.Ground.data }, { on := 11, ground := Go.Ground.data }, { on := 12, ground := Go.Ground.data }, { on := 9, ground := Go.Ground.chain }, { on := 9, ground := Go.Ground.guard }], guard := some (9, false) } : Oper)) rfl (fun K hK => ?_) AllReadyH.nil
    go_simp
    refine (inScore.calls 0 I true 1 0 false J bgt Q2.out _).mono ?_
    rintro e wx ⟨rfl, hb⟩
    have hS1 := En.next hHeld hb
    clear hb
    (try go_wp2_with fail)
    refine hK.out _ _ (by exact hS1) (fun hHeld => ?_)
    clear hK K
    (try simp only [Act.put, List.setIfInBounds_toArray, List.set_cons_zero, List.set_cons_succ])
    refine wpAnyH_take (i := 18) (oi := ({ dst := some 82, op := Go.Op.binOp Go.BinOp.neq 4 (Go.Operand.tmp 77) (Go.Operand.tmp 81) 4, type := 4, pos := "law.go:363", after := #[{ on := 13, ground := Go.Ground.data }, { on := 17, ground := Go.Ground.data }, { on := 9, ground := Go.Ground.guard }], guard := some (9, false) } : Oper)) (v := ?vp18) rfl (by kernel_rfl) (by kernel_rfl) (by kernel_rfl) (fun _ _ _ h => h) (Or.inl ⟨by rfl, ?hyp18⟩) (by assumption) ?restp18
    case hyp18 => (intro w hSw; (try dsimp only at hSw); go_simp; (try with_reducible rfl))
    (try simp only [Act.put, List.setIfInBounds_toArray, List.set_cons_zero, List.set_cons_succ])
    refine wpAnyH_take (i := 19) (oi := ({ dst := some 83, op := Go.Op.pick (Go.Operand.tmp 73) (Go.Operand.const (Go.Value.bool true)) (Go.Operand.tmp 82), type := 4, pos := "law.go:363", after := #[{ on := 9, ground := Go.Ground.data }, { on := 18, ground := Go.Ground.data }], guard := none } : Oper)) (v := ?vp19) rfl (by kernel_rfl) (by kernel_rfl) (by kernel_rfl) (fun _ _ _ h => h) (Or.inl ⟨by rfl, ?hyp19⟩) (by assumption) ?restp19
    case hyp19 => (intro w hSw; (try dsimp only at hSw); go_simp; (try with_reducible rfl))
    (try simp only [Act.put, List.setIfInBounds_toArray, List.set_cons_zero, List.set_cons_succ])
    refine wpAnyH_take (i := 20) (oi := ({ dst := some 84, op := Go.Op.move (Go.Operand.tmp 83), type := 4, pos := "law.go:363", after := #[{ on := 19, ground := Go.Ground.data }, { on := 13, ground := Go.Ground.chain }], guard := none } : Oper)) (v := ?vp20) rfl (by kernel_rfl) (by kernel_rfl) (by kernel_rfl) (fun _ _ _ h => h) (Or.inl ⟨by rfl, ?hyp20⟩) (by assumption) ?restp20
    case hyp20 => (intro w hSw; (try dsimp only at hSw); go_simp; (try with_reducible rfl))
    (try simp only [Act.put, List.setIfInBounds_toArray, List.set_cons_zero, List.set_cons_succ])
    refine wpAnyH_take (i := 21) (oi := ({ dst := some 85, op := Go.Op.load 41 (Go.Operand.tmp 8), type := 41, pos := "law.go:363", after := #[{ on := 20, ground := Go.Ground.guard }], guard := some (20, false) } : Oper)) (v := Value.agg #[.int .i64 (-1), .int .i64 0, .bool false]) rfl (by kernel_rfl) (by kernel_rfl) (by kernel_rfl) (fun _ _ _ h => h) (Or.inl ⟨by rfl, ?hyp21⟩) (by assumption) ?restp21
    case hyp21 => (intro w hSw; (try dsimp only at hSw); have hl := load_bound hSw.b8; simp [execOp, Act.eval, Instr.loadAt, Instr.sureAddr, hl]; (try rfl))
    (try simp only [Act.put, List.setIfInBounds_toArray, List.set_cons_zero, List.set_cons_succ])
    refine wpAnyH_take (i := 22) (oi := ({ dst := some 86, op := Go.Op.load 41 (Go.Operand.tmp 4), type := 41, pos := "law.go:363", after := #[{ on := 20, ground := Go.Ground.guard }], guard := some (20, false) } : Oper)) (v := Value.agg #[.int .i64 0, .int .i64 I, .bool false]) rfl (by kernel_rfl) (by kernel_rfl) (by kernel_rfl) (fun _ _ _ h => h) (Or.inl ⟨by rfl, ?hyp22⟩) (by assumption) ?restp22
    case hyp22 => (intro w hSw; (try dsimp only at hSw); have hl := load_bound hSw.b4; simp [execOp, Act.eval, Instr.loadAt, Instr.sureAddr, hl]; (try rfl))
    (try simp only [Act.put, List.setIfInBounds_toArray, List.set_cons_zero, List.set_cons_succ])
    refine wpAnyH_take (i := 23) (oi := ({ dst := some 87, op := Go.Op.move (Go.Operand.tmp 12), type := 2, pos := "law.go:363", after := #[{ on := 20, ground := Go.Ground.guard }], guard := some (20, false) } : Oper)) (v := ?vp23) rfl (by kernel_rfl) (by kernel_rfl) (by kernel_rfl) (fun _ _ _ h => h) (Or.inl ⟨by rfl, ?hyp23⟩) (by assumption) ?restp23
    case hyp23 => (intro w hSw; (try dsimp only at hSw); go_simp; (try with_reducible rfl))
    (try simp only [Act.put, List.setIfInBounds_toArray, List.set_cons_zero, List.set_cons_succ])
    refine wpAnyH_take (i := 25) (oi := ({ dst := some 89, op := Go.Op.move (Go.Operand.tmp 12), type := 2, pos := "law.go:363", after := #[{ on := 20, ground := Go.Ground.guard }], guard := some (20, false) } : Oper)) (v := ?vp25) rfl (by kernel_rfl) (by kernel_rfl) (by kernel_rfl) (fun _ _ _ h => h) (Or.inl ⟨by rfl, ?hyp25⟩) (by assumption) ?restp25
    case hyp25 => (intro w hSw; (try dsimp only at hSw); go_simp; (try with_reducible rfl))
    (try simp only [Act.put, List.setIfInBounds_toArray, List.set_cons_zero, List.set_cons_succ])
    refine wpAnyH_take (i := 26) (oi := ({ dst := some 90, op := Go.Op.fieldAddr 45 (Go.Operand.tmp 1) 3, type := 0, pos := "law.go:363", after := #[{ on := 20, ground := Go.Ground.guard }], guard := some (20, false) } : Oper)) (v := ?vp26) rfl (by kernel_rfl) (by kernel_rfl) (by kernel_rfl) (fun _ _ _ h => h) (Or.inl ⟨by rfl, ?hyp26⟩) (by assumption) ?restp26
    case hyp26 => (intro w hSw; (try dsimp only at hSw); go_simp; (try with_reducible rfl))
    (try simp only [Act.put, List.setIfInBounds_toArray, List.set_cons_zero, List.set_cons_succ])
    refine wpAnyH_take (i := 27) (oi := ({ dst := some 91, op := Go.Op.load 2 (Go.Operand.tmp 90), type := 2, pos := "law.go:363", after := #[{ on := 26, ground := Go.Ground.data }, { on := 20, ground := Go.Ground.guard }], guard := some (20, false) } : Oper)) (v := ?vp27) rfl (by kernel_rfl) (by kernel_rfl) (by kernel_rfl) (fun _ _ _ h => h) (Or.inl ⟨by rfl, ?hyp27⟩) (by assumption) ?restp27
    case hyp27 => (intro w hSw; (try dsimp only at hSw); have z := hSw.sa.z3; go_simp; (try with_reducible rfl))
    (try simp only [Act.put, List.setIfInBounds_toArray, List.set_cons_zero, List.set_cons_succ])
    refine wpAnyH_take (i := 28) (oi := ({ dst := some 92, op := Go.Op.binOp Go.BinOp.leq 2 (Go.Operand.tmp 89) (Go.Operand.tmp 91) 2, type := 4, pos := "law.go:363", after := #[{ on := 25, ground := Go.Ground.data }, { on := 27, ground := Go.Ground.data }, { on := 20, ground := Go.Ground.guard }], guard := some (20, false) } : Oper)) (v := ?vp28) rfl (by kernel_rfl) (by kernel_rfl) (by kernel_rfl) (fun _ _ _ h => h) (Or.inl ⟨by rfl, ?hyp28⟩) (by assumption) ?restp28
    case hyp28 => (intro w hSw; (try dsimp only at hSw); go_simp; (try with_reducible rfl))
    (try simp only [Act.put, List.setIfInBounds_toArray, List.set_cons_zero, List.set_cons_succ])
    refine wpAnyH_ready (rs := [24]) (by kernel_rfl) (by simp) ?_
    refine AllReadyH.cons (o := ({ dst := some 88, op := Go.Op.call { callee := Go.Callee.value (Go.Operand.func 22), args := #[Go.Operand.tmp 85, Go.Operand.tmp 86, Go.Operand.tmp 87], argTypes := #[41, 41, 2] }, type := 4, pos := "law.go:363", after := #[{ on := 21, ground := Go.Ground.data }, { on := 22, ground := Go.Ground.data }, { on := 23, ground := Go.Ground.data }, { on := 20, ground := Go.Ground.chain }, { on := 20, ground := Go.Ground.guard }], guard := some (20, false) } : Oper)) rfl (fun K hK => ?_) AllReadyH.nil
    go_simp
    refine (inScore.calls (-1) 0 false 0 I false J ble Q3.out _).mono ?_
    rintro e wx ⟨rfl, hb⟩
    have hS1 := En.next hHeld hb
    clear hb
    (try go_wp2_with fail)
    refine hK.out _ _ (by exact hS1) (fun hHeld => ?_)
    clear hK K
    (try simp only [Act.put, List.setIfInBounds_toArray, List.set_cons_zero, List.set_cons_succ])
    refine wpAnyH_take (i := 29) (oi := ({ dst := some 93, op := Go.Op.binOp Go.BinOp.neq 4 (Go.Operand.tmp 88) (Go.Operand.tmp 92) 4, type := 4, pos := "law.go:363", after := #[{ on := 24, ground := Go.Ground.data }, { on := 28, ground := Go.Ground.data }, { on := 20, ground := Go.Ground.guard }], guard := some (20, false) } : Oper)) (v := ?vp29) rfl (by kernel_rfl) (by kernel_rfl) (by kernel_rfl) (fun _ _ _ h => h) (Or.inl ⟨by rfl, ?hyp29⟩) (by assumption) ?restp29
    case hyp29 => (intro w hSw; (try dsimp only at hSw); go_simp; (try with_reducible rfl))
    (try simp only [Act.put, List.setIfInBounds_toArray, List.set_cons_zero, List.set_cons_succ])
    refine wpAnyH_take (i := 30) (oi := ({ dst := some 94, op := Go.Op.pick (Go.Operand.tmp 84) (Go.Operand.const (Go.Value.bool true)) (Go.Operand.tmp 93), type := 4, pos := "law.go:363", after := #[{ on := 20, ground := Go.Ground.data }, { on := 29, ground := Go.Ground.data }], guard := none } : Oper)) (v := ?vp30) rfl (by kernel_rfl) (by kernel_rfl) (by kernel_rfl) (fun _ _ _ h => h) (Or.inl ⟨by rfl, ?hyp30⟩) (by assumption) ?restp30
    case hyp30 => (intro w hSw; (try dsimp only at hSw); go_simp; (try with_reducible rfl))
    (try simp only [Act.put, List.setIfInBounds_toArray, List.set_cons_zero, List.set_cons_succ])
    refine wpAnyH_take (i := 31) (oi := ({ dst := some 95, op := Go.Op.move (Go.Operand.tmp 94), type := 4, pos := "law.go:363", after := #[{ on := 30, ground := Go.Ground.data }, { on := 24, ground := Go.Ground.chain }], guard := none } : Oper)) (v := ?vp31) rfl (by kernel_rfl) (by kernel_rfl) (by kernel_rfl) (fun _ _ _ h => h) (Or.inl ⟨by rfl, ?hyp31⟩) (by assumption) ?restp31
    case hyp31 => (intro w hSw; (try dsimp only at hSw); go_simp; (try with_reducible rfl))
    (try simp only [Act.put, List.setIfInBounds_toArray, List.set_cons_zero, List.set_cons_succ])
    refine wpAnyH_take (i := 32) (oi := ({ dst := some 96, op := Go.Op.load 41 (Go.Operand.tmp 8), type := 41, pos := "law.go:363", after := #[{ on := 31, ground := Go.Ground.guard }], guard := some (31, false) } : Oper)) (v := Value.agg #[.int .i64 (-1), .int .i64 0, .bool false]) rfl (by kernel_rfl) (by kernel_rfl) (by kernel_rfl) (fun _ _ _ h => h) (Or.inl ⟨by rfl, ?hyp32⟩) (by assumption) ?restp32
    case hyp32 => (intro w hSw; (try dsimp only at hSw); have hl := load_bound hSw.b8; simp [execOp, Act.eval, Instr.loadAt, Instr.sureAddr, hl]; (try rfl))
    (try simp only [Act.put, List.setIfInBounds_toArray, List.set_cons_zero, List.set_cons_succ])
    refine wpAnyH_take (i := 33) (oi := ({ dst := some 97, op := Go.Op.load 41 (Go.Operand.tmp 6), type := 41, pos := "law.go:363", after := #[{ on := 31, ground := Go.Ground.guard }], guard := some (31, false) } : Oper)) (v := Value.agg #[.int .i64 0, .int .i64 I, .bool true]) rfl (by kernel_rfl) (by kernel_rfl) (by kernel_rfl) (fun _ _ _ h => h) (Or.inl ⟨by rfl, ?hyp33⟩) (by assumption) ?restp33
    case hyp33 => (intro w hSw; (try dsimp only at hSw); have hl := load_bound hSw.b6; simp [execOp, Act.eval, Instr.loadAt, Instr.sureAddr, hl]; (try rfl))
    (try simp only [Act.put, List.setIfInBounds_toArray, List.set_cons_zero, List.set_cons_succ])
    refine wpAnyH_take (i := 34) (oi := ({ dst := some 98, op := Go.Op.move (Go.Operand.tmp 12), type := 2, pos := "law.go:363", after := #[{ on := 31, ground := Go.Ground.guard }], guard := some (31, false) } : Oper)) (v := ?vp34) rfl (by kernel_rfl) (by kernel_rfl) (by kernel_rfl) (fun _ _ _ h => h) (Or.inl ⟨by rfl, ?hyp34⟩) (by assumption) ?restp34
    case hyp34 => (intro w hSw; (try dsimp only at hSw); go_simp; (try with_reducible rfl))
    (try simp only [Act.put, List.setIfInBounds_toArray, List.set_cons_zero, List.set_cons_succ])
    refine wpAnyH_take (i := 36) (oi := ({ dst := some 100, op := Go.Op.move (Go.Operand.tmp 12), type := 2, pos := "law.go:363", after := #[{ on := 31, ground := Go.Ground.guard }], guard := some (31, false) } : Oper)) (v := ?vp36) rfl (by kernel_rfl) (by kernel_rfl) (by kernel_rfl) (fun _ _ _ h => h) (Or.inl ⟨by rfl, ?hyp36⟩) (by assumption) ?restp36
    case hyp36 => (intro w hSw; (try dsimp only at hSw); go_simp; (try with_reducible rfl))
    (try simp only [Act.put, List.setIfInBounds_toArray, List.set_cons_zero, List.set_cons_succ])
    refine wpAnyH_take (i := 37) (oi := ({ dst := some 101, op := Go.Op.fieldAddr 45 (Go.Operand.tmp 1) 3, type := 0, pos := "law.go:363", after := #[{ on := 31, ground := Go.Ground.guard }], guard := some (31, false) } : Oper)) (v := ?vp37) rfl (by kernel_rfl) (by kernel_rfl) (by kernel_rfl) (fun _ _ _ h => h) (Or.inl ⟨by rfl, ?hyp37⟩) (by assumption) ?restp37
    case hyp37 => (intro w hSw; (try dsimp only at hSw); go_simp; (try with_reducible rfl))
    (try simp only [Act.put, List.setIfInBounds_toArray, List.set_cons_zero, List.set_cons_succ])
    refine wpAnyH_take (i := 38) (oi := ({ dst := some 102, op := Go.Op.load 2 (Go.Operand.tmp 101), type := 2, pos := "law.go:363", after := #[{ on := 37, ground := Go.Ground.data }, { on := 31, ground := Go.Ground.guard }], guard := some (31, false) } : Oper)) (v := ?vp38) rfl (by kernel_rfl) (by kernel_rfl) (by kernel_rfl) (fun _ _ _ h => h) (Or.inl ⟨by rfl, ?hyp38⟩) (by assumption) ?restp38
    case hyp38 => (intro w hSw; (try dsimp only at hSw); have z := hSw.sa.z3; go_simp; (try with_reducible rfl))
    (try simp only [Act.put, List.setIfInBounds_toArray, List.set_cons_zero, List.set_cons_succ])
    refine wpAnyH_take (i := 39) (oi := ({ dst := some 103, op := Go.Op.binOp Go.BinOp.lss 2 (Go.Operand.tmp 100) (Go.Operand.tmp 102) 2, type := 4, pos := "law.go:363", after := #[{ on := 36, ground := Go.Ground.data }, { on := 38, ground := Go.Ground.data }, { on := 31, ground := Go.Ground.guard }], guard := some (31, false) } : Oper)) (v := ?vp39) rfl (by kernel_rfl) (by kernel_rfl) (by kernel_rfl) (fun _ _ _ h => h) (Or.inl ⟨by rfl, ?hyp39⟩) (by assumption) ?restp39
    case hyp39 => (intro w hSw; (try dsimp only at hSw); go_simp; (try with_reducible rfl))
    (try simp only [Act.put, List.setIfInBounds_toArray, List.set_cons_zero, List.set_cons_succ])
    refine wpAnyH_ready (rs := [35]) (by kernel_rfl) (by simp) ?_
    refine AllReadyH.cons (o := ({ dst := some 99, op := Go.Op.call { callee := Go.Callee.value (Go.Operand.func 22), args := #[Go.Operand.tmp 96, Go.Operand.tmp 97, Go.Operand.tmp 98], argTypes := #[41, 41, 2] }, type := 4, pos := "law.go:363", after := #[{ on := 32, ground := Go.Ground.data }, { on := 33, ground := Go.Ground.data }, { on := 34, ground := Go.Ground.data }, { on := 31, ground := Go.Ground.chain }, { on := 31, ground := Go.Ground.guard }], guard := some (31, false) } : Oper)) rfl (fun K hK => ?_) AllReadyH.nil
    go_simp
    refine (inScore.calls (-1) 0 false 0 I true J blt Q4.out _).mono ?_
    rintro e wx ⟨rfl, hb⟩
    have hS1 := En.next hHeld hb
    clear hb
    (try go_wp2_with fail)
    refine hK.out _ _ (by exact hS1) (fun hHeld => ?_)
    clear hK K
    (try simp only [Act.put, List.setIfInBounds_toArray, List.set_cons_zero, List.set_cons_succ])
    refine wpAnyH_take (i := 40) (oi := ({ dst := some 104, op := Go.Op.binOp Go.BinOp.neq 4 (Go.Operand.tmp 99) (Go.Operand.tmp 103) 4, type := 4, pos := "law.go:363", after := #[{ on := 35, ground := Go.Ground.data }, { on := 39, ground := Go.Ground.data }, { on := 31, ground := Go.Ground.guard }], guard := some (31, false) } : Oper)) (v := ?vp40) rfl (by kernel_rfl) (by kernel_rfl) (by kernel_rfl) (fun _ _ _ h => h) (Or.inl ⟨by rfl, ?hyp40⟩) (by assumption) ?restp40
    case hyp40 => (intro w hSw; (try dsimp only at hSw); go_simp; (try with_reducible rfl))
    (try simp only [Act.put, List.setIfInBounds_toArray, List.set_cons_zero, List.set_cons_succ])
    refine wpAnyH_take (i := 41) (oi := ({ dst := some 105, op := Go.Op.pick (Go.Operand.tmp 95) (Go.Operand.const (Go.Value.bool true)) (Go.Operand.tmp 104), type := 4, pos := "law.go:363", after := #[{ on := 31, ground := Go.Ground.data }, { on := 40, ground := Go.Ground.data }], guard := none } : Oper)) (v := ?vp41) rfl (by kernel_rfl) (by kernel_rfl) (by kernel_rfl) (fun _ _ _ h => h) (Or.inl ⟨by rfl, ?hyp41⟩) (by assumption) ?restp41
    case hyp41 => (intro w hSw; (try dsimp only at hSw); go_simp; (try with_reducible rfl))
    (try simp only [Act.put, List.setIfInBounds_toArray, List.set_cons_zero, List.set_cons_succ])
    refine wpAnyH_done (by kernel_rfl) ?_ _
    (try go_wp2_with fail)
    go_meet
    exact ⟨rfl, ⟨hHeld⟩⟩
  case rest =>
    obtain ⟨rfl, HE2⟩ := hcut
    clear hS0 HE
    rename World => w17
    go_upto_region 13 with fail
    have hS0 : En w w17.drew gb Ap At cp ct P T I J g4 g6 g8 g10 := HE2.out.next (Below.refl _ _).drew
    go_cut [139] (fun v139 wc => v139 = .bool false ∧ Aside0 (En w wc gb Ap At cp ct P T I J g4 g6 g8 g10))
    case first =>
      refine wp_region_held_drew (S := (fun W => En w W gb Ap At cp ct P T I J g4 g6 g8 g10)) (by kernel_rfl) (by exact hS0) (fun hHeld => ?_)
      refine wpAnyH_take (i := 0) (oi := ({ dst := some 106, op := Go.Op.load 41 (Go.Operand.tmp 8), type := 41, pos := "law.go:366", after := #[], guard := none } : Oper)) (v := Value.agg #[.int .i64 (-1), .int .i64 0, .bool false]) rfl (by kernel_rfl) (by kernel_rfl) (by kernel_rfl) (fun _ _ _ h => h) (Or.inl ⟨by rfl, ?hyq0⟩) (by assumption) ?restq0
      case hyq0 => (intro w hSw; (try dsimp only at hSw); have hl := load_bound hSw.b8; simp [execOp, Act.eval, Instr.loadAt, Instr.sureAddr, hl]; (try rfl))
      (try simp only [Act.put, List.setIfInBounds_toArray, List.set_cons_zero, List.set_cons_succ])
      refine wpAnyH_take (i := 1) (oi := ({ dst := some 107, op := Go.Op.load 41 (Go.Operand.tmp 10), type := 41, pos := "law.go:366", after := #[], guard := none } : Oper)) (v := Value.agg #[.int .i64 1, .int .i64 0, .bool false]) rfl (by kernel_rfl) (by kernel_rfl) (by kernel_rfl) (fun _ _ _ h => h) (Or.inl ⟨by rfl, ?hyq1⟩) (by assumption) ?restq1
      case hyq1 => (intro w hSw; (try dsimp only at hSw); have hl := load_bound hSw.b10; simp [execOp, Act.eval, Instr.loadAt, Instr.sureAddr, hl]; (try rfl))
      (try simp only [Act.put, List.setIfInBounds_toArray, List.set_cons_zero, List.set_cons_succ])
      refine wpAnyH_take (i := 2) (oi := ({ dst := some 108, op := Go.Op.move (Go.Operand.tmp 12), type := 2, pos := "law.go:366", after := #[], guard := none } : Oper)) (v := ?vq2) rfl (by kernel_rfl) (by kernel_rfl) (by kernel_rfl) (fun _ _ _ h => h) (Or.inl ⟨by rfl, ?hyq2⟩) (by assumption) ?restq2
      case hyq2 => (intro w hSw; (try dsimp only at hSw); go_simp; (try with_reducible rfl))
      (try simp only [Act.put, List.setIfInBounds_toArray, List.set_cons_zero, List.set_cons_succ])
      refine wpAnyH_ready (rs := [3]) (by kernel_rfl) (by simp) ?_
      refine AllReadyH.cons (o := ({ dst := some 109, op := Go.Op.call { callee := Go.Callee.value (Go.Operand.func 22), args := #[Go.Operand.tmp 106, Go.Operand.tmp 107, Go.Operand.tmp 108], argTypes := #[41, 41, 2] }, type := 4, pos := "law.go:366", after := #[{ on := 0, ground := Go.Ground.data }, { on := 1, ground := Go.Ground.data }, { on := 2, ground := Go.Ground.data }], guard := none } : Oper)) rfl (fun K hK => ?_) AllReadyH.nil
      go_simp
      refine (inScore.calls (-1) 0 false 1 0 false J true Q5.out _).mono ?_
      rintro e wx ⟨rfl, hb⟩
      have hS1 := En.next hHeld hb
      clear hb
      (try go_wp2_with fail)
      refine hK.out _ _ (by exact hS1) (fun hHeld => ?_)
      clear hK K
      (try simp only [Act.put, List.setIfInBounds_toArray, List.set_cons_zero, List.set_cons_succ])
      refine wpAnyH_take (i := 4) (oi := ({ dst := some 110, op := Go.Op.unOp Go.UnOp.not 4 (Go.Operand.tmp 109), type := 4, pos := "law.go:366", after := #[{ on := 3, ground := Go.Ground.data }], guard := none } : Oper)) (v := ?vq4) rfl (by kernel_rfl) (by kernel_rfl) (by kernel_rfl) (fun _ _ _ h => h) (Or.inl ⟨by rfl, ?hyq4⟩) (by assumption) ?restq4
      case hyq4 => (intro w hSw; (try dsimp only at hSw); go_simp; (try with_reducible rfl))
      (try simp only [Act.put, List.setIfInBounds_toArray, List.set_cons_zero, List.set_cons_succ])
      refine wpAnyH_take (i := 5) (oi := ({ dst := some 111, op := Go.Op.move (Go.Operand.tmp 110), type := 4, pos := "law.go:366", after := #[{ on := 4, ground := Go.Ground.data }, { on := 3, ground := Go.Ground.chain }], guard := none } : Oper)) (v := ?vq5) rfl (by kernel_rfl) (by kernel_rfl) (by kernel_rfl) (fun _ _ _ h => h) (Or.inl ⟨by rfl, ?hyq5⟩) (by assumption) ?restq5
      case hyq5 => (intro w hSw; (try dsimp only at hSw); go_simp; (try with_reducible rfl))
      (try simp only [Act.put, List.setIfInBounds_toArray, List.set_cons_zero, List.set_cons_succ])
      refine wpAnyH_take (i := 6) (oi := ({ dst := some 112, op := Go.Op.load 41 (Go.Operand.tmp 10), type := 41, pos := "law.go:366", after := #[{ on := 5, ground := Go.Ground.guard }], guard := some (5, false) } : Oper)) (v := Value.agg #[.int .i64 1, .int .i64 0, .bool false]) rfl (by kernel_rfl) (by kernel_rfl) (by kernel_rfl) (fun _ _ _ h => h) (Or.inl ⟨by rfl, ?hyq6⟩) (by assumption) ?restq6
      case hyq6 => (intro w hSw; (try dsimp only at hSw); have hl := load_bound hSw.b10; simp [execOp, Act.eval, Instr.loadAt, Instr.sureAddr, hl]; (try rfl))
      (try simp only [Act.put, List.setIfInBounds_toArray, List.set_cons_zero, List.set_cons_succ])
      refine wpAnyH_take (i := 7) (oi := ({ dst := some 113, op := Go.Op.load 41 (Go.Operand.tmp 10), type := 41, pos := "law.go:366", after := #[{ on := 5, ground := Go.Ground.guard }], guard := some (5, false) } : Oper)) (v := Value.agg #[.int .i64 1, .int .i64 0, .bool false]) rfl (by kernel_rfl) (by kernel_rfl) (by kernel_rfl) (fun _ _ _ h => h) (Or.inl ⟨by rfl, ?hyq7⟩) (by assumption) ?restq7
      case hyq7 => (intro w hSw; (try dsimp only at hSw); have hl := load_bound hSw.b10; simp [execOp, Act.eval, Instr.loadAt, Instr.sureAddr, hl]; (try rfl))
      (try simp only [Act.put, List.setIfInBounds_toArray, List.set_cons_zero, List.set_cons_succ])
      refine wpAnyH_take (i := 8) (oi := ({ dst := some 114, op := Go.Op.move (Go.Operand.tmp 12), type := 2, pos := "law.go:366", after := #[{ on := 5, ground := Go.Ground.guard }], guard := some (5, false) } : Oper)) (v := ?vq8) rfl (by kernel_rfl) (by kernel_rfl) (by kernel_rfl) (fun _ _ _ h => h) (Or.inl ⟨by rfl, ?hyq8⟩) (by assumption) ?restq8
      case hyq8 => (intro w hSw; (try dsimp only at hSw); go_simp; (try with_reducible rfl))
      (try simp only [Act.put, List.setIfInBounds_toArray, List.set_cons_zero, List.set_cons_succ])
      refine wpAnyH_ready (rs := [9]) (by kernel_rfl) (by simp) ?_
      refine AllReadyH.cons (o := ({ dst := some 115, op := Go.Op.call { callee := Go.Callee.value (Go.Operand.func 22), args := #[Go.Operand.tmp 112, Go.Operand.tmp 113, Go.Operand.tmp 114], argTypes := #[41, 41, 2] }, type := 4, pos := "law.go:366", after := #[{ on := 6, ground := Go.Ground.data }, { on := 7, ground := Go.Ground.data }, { on := 8, ground := Go.Ground.data }, { on := 5, ground := Go.Ground.chain }, { on := 5, ground := Go.Ground.guard }], guard := some (5, false) } : Oper)) rfl (fun K hK => ?_) AllReadyH.nil
      go_simp
      refine (inScore.calls 1 0 false 1 0 false J false Q6.out _).mono ?_
      rintro e wx ⟨rfl, hb⟩
      have hS1 := En.next hHeld hb
      clear hb
      (try go_wp2_with fail)
      refine hK.out _ _ (by exact hS1) (fun hHeld => ?_)
      clear hK K
      (try simp only [Act.put, List.setIfInBounds_toArray, List.set_cons_zero, List.set_cons_succ])
      refine wpAnyH_take (i := 10) (oi := ({ dst := some 116, op := Go.Op.pick (Go.Operand.tmp 111) (Go.Operand.const (Go.Value.bool true)) (Go.Operand.tmp 115), type := 4, pos := "law.go:366", after := #[{ on := 5, ground := Go.Ground.data }, { on := 9, ground := Go.Ground.data }], guard := none } : Oper)) (v := ?vq10) rfl (by kernel_rfl) (by kernel_rfl) (by kernel_rfl) (fun _ _ _ h => h) (Or.inl ⟨by rfl, ?hyq10⟩) (by assumption) ?restq10
      case hyq10 => (intro w hSw; (try dsimp only at hSw); go_simp; (try with_reducible rfl))
      (try simp only [Act.put, List.setIfInBounds_toArray, List.set_cons_zero, List.set_cons_succ])
      refine wpAnyH_take (i := 11) (oi := ({ dst := some 117, op := Go.Op.move (Go.Operand.tmp 116), type := 4, pos := "law.go:366", after := #[{ on := 10, ground := Go.Ground.data }, { on := 9, ground := Go.Ground.chain }], guard := none } : Oper)) (v := ?vq11) rfl (by kernel_rfl) (by kernel_rfl) (by kernel_rfl) (fun _ _ _ h => h) (Or.inl ⟨by rfl, ?hyq11⟩) (by assumption) ?restq11
      case hyq11 => (intro w hSw; (try dsimp only at hSw); go_simp; (try with_reducible rfl))
      (try simp only [Act.put, List.setIfInBounds_toArray, List.set_cons_zero, List.set_cons_succ])
      refine wpAnyH_take (i := 12) (oi := ({ dst := some 118, op := Go.Op.load 41 (Go.Operand.tmp 8), type := 41, pos := "law.go:366", after := #[{ on := 11, ground := Go.Ground.guard }], guard := some (11, false) } : Oper)) (v := Value.agg #[.int .i64 (-1), .int .i64 0, .bool false]) rfl (by kernel_rfl) (by kernel_rfl) (by kernel_rfl) (fun _ _ _ h => h) (Or.inl ⟨by rfl, ?hyq12⟩) (by assumption) ?restq12
      case hyq12 => (intro w hSw; (try dsimp only at hSw); have hl := load_bound hSw.b8; simp [execOp, Act.eval, Instr.loadAt, Instr.sureAddr, hl]; (try rfl))
      (try simp only [Act.put, List.setIfInBounds_toArray, List.set_cons_zero, List.set_cons_succ])
      refine wpAnyH_take (i := 13) (oi := ({ dst := some 119, op := Go.Op.load 41 (Go.Operand.tmp 8), type := 41, pos := "law.go:366", after := #[{ on := 11, ground := Go.Ground.guard }], guard := some (11, false) } : Oper)) (v := Value.agg #[.int .i64 (-1), .int .i64 0, .bool false]) rfl (by kernel_rfl) (by kernel_rfl) (by kernel_rfl) (fun _ _ _ h => h) (Or.inl ⟨by rfl, ?hyq13⟩) (by assumption) ?restq13
      case hyq13 => (intro w hSw; (try dsimp only at hSw); have hl := load_bound hSw.b8; simp [execOp, Act.eval, Instr.loadAt, Instr.sureAddr, hl]; (try rfl))
      (try simp only [Act.put, List.setIfInBounds_toArray, List.set_cons_zero, List.set_cons_succ])
      refine wpAnyH_take (i := 14) (oi := ({ dst := some 120, op := Go.Op.move (Go.Operand.tmp 12), type := 2, pos := "law.go:366", after := #[{ on := 11, ground := Go.Ground.guard }], guard := some (11, false) } : Oper)) (v := ?vq14) rfl (by kernel_rfl) (by kernel_rfl) (by kernel_rfl) (fun _ _ _ h => h) (Or.inl ⟨by rfl, ?hyq14⟩) (by assumption) ?restq14
      case hyq14 => (intro w hSw; (try dsimp only at hSw); go_simp; (try with_reducible rfl))
      (try simp only [Act.put, List.setIfInBounds_toArray, List.set_cons_zero, List.set_cons_succ])
      refine wpAnyH_ready (rs := [15]) (by kernel_rfl) (by simp) ?_
      refine AllReadyH.cons (o := ({ dst := some 121, op := Go.Op.call { callee := Go.Callee.value (Go.Operand.func 22), args := #[Go.Operand.tmp 118, Go.Operand.tmp 119, Go.Operand.tmp 120], argTypes := #[41, 41, 2] }, type := 4, pos := "law.go:366", after := #[{ on := 12, ground := Go.Ground.data }, { on := 13, ground := Go.Ground.data }, { on := 14, ground := Go.Ground.data }, { on := 11, ground := Go.Ground.chain }, { on := 11, ground := Go.Ground.guard }], guard := some (11, false) } : Oper)) rfl (fun K hK => ?_) AllReadyH.nil
      go_simp
      refine (inScore.calls (-1) 0 false (-1) 0 false J false Q7.out _).mono ?_
      rintro e wx ⟨rfl, hb⟩
      have hS1 := En.next hHeld hb
      clear hb
      (try go_wp2_with fail)
      refine hK.out _ _ (by exact hS1) (fun hHeld => ?_)
      clear hK K
      (try simp only [Act.put, List.setIfInBounds_toArray, List.set_cons_zero, List.set_cons_succ])
      refine wpAnyH_take (i := 16) (oi := ({ dst := some 122, op := Go.Op.pick (Go.Operand.tmp 117) (Go.Operand.const (Go.Value.bool true)) (Go.Operand.tmp 121), type := 4, pos := "law.go:366", after := #[{ on := 11, ground := Go.Ground.data }, { on := 15, ground := Go.Ground.data }], guard := none } : Oper)) (v := ?vq16) rfl (by kernel_rfl) (by kernel_rfl) (by kernel_rfl) (fun _ _ _ h => h) (Or.inl ⟨by rfl, ?hyq16⟩) (by assumption) ?restq16
      case hyq16 => (intro w hSw; (try dsimp only at hSw); go_simp; (try with_reducible rfl))
      (try simp only [Act.put, List.setIfInBounds_toArray, List.set_cons_zero, List.set_cons_succ])
      refine wpAnyH_take (i := 17) (oi := ({ dst := some 123, op := Go.Op.move (Go.Operand.tmp 122), type := 4, pos := "law.go:366", after := #[{ on := 16, ground := Go.Ground.data }, { on := 15, ground := Go.Ground.chain }], guard := none } : Oper)) (v := ?vq17) rfl (by kernel_rfl) (by kernel_rfl) (by kernel_rfl) (fun _ _ _ h => h) (Or.inl ⟨by rfl, ?hyq17⟩) (by assumption) ?restq17
      case hyq17 => (intro w hSw; (try dsimp only at hSw); go_simp; (try with_reducible rfl))
      (try simp only [Act.put, List.setIfInBounds_toArray, List.set_cons_zero, List.set_cons_succ])
      refine wpAnyH_take (i := 18) (oi := ({ dst := some 124, op := Go.Op.load 41 (Go.Operand.tmp 4), type := 41, pos := "law.go:366", after := #[{ on := 17, ground := Go.Ground.guard }], guard := some (17, false) } : Oper)) (v := Value.agg #[.int .i64 0, .int .i64 I, .bool false]) rfl (by kernel_rfl) (by kernel_rfl) (by kernel_rfl) (fun _ _ _ h => h) (Or.inl ⟨by rfl, ?hyq18⟩) (by assumption) ?restq18
      case hyq18 => (intro w hSw; (try dsimp only at hSw); have hl := load_bound hSw.b4; simp [execOp, Act.eval, Instr.loadAt, Instr.sureAddr, hl]; (try rfl))
      (try simp only [Act.put, List.setIfInBounds_toArray, List.set_cons_zero, List.set_cons_succ])
      refine wpAnyH_take (i := 19) (oi := ({ dst := some 125, op := Go.Op.load 41 (Go.Operand.tmp 4), type := 41, pos := "law.go:366", after := #[{ on := 17, ground := Go.Ground.guard }], guard := some (17, false) } : Oper)) (v := Value.agg #[.int .i64 0, .int .i64 I, .bool false]) rfl (by kernel_rfl) (by kernel_rfl) (by kernel_rfl) (fun _ _ _ h => h) (Or.inl ⟨by rfl, ?hyq19⟩) (by assumption) ?restq19
      case hyq19 => (intro w hSw; (try dsimp only at hSw); have hl := load_bound hSw.b4; simp [execOp, Act.eval, Instr.loadAt, Instr.sureAddr, hl]; (try rfl))
      (try simp only [Act.put, List.setIfInBounds_toArray, List.set_cons_zero, List.set_cons_succ])
      refine wpAnyH_take (i := 20) (oi := ({ dst := some 126, op := Go.Op.move (Go.Operand.tmp 12), type := 2, pos := "law.go:366", after := #[{ on := 17, ground := Go.Ground.guard }], guard := some (17, false) } : Oper)) (v := ?vq20) rfl (by kernel_rfl) (by kernel_rfl) (by kernel_rfl) (fun _ _ _ h => h) (Or.inl ⟨by rfl, ?hyq20⟩) (by assumption) ?restq20
      case hyq20 => (intro w hSw; (try dsimp only at hSw); go_simp; (try with_reducible rfl))
      (try simp only [Act.put, List.setIfInBounds_toArray, List.set_cons_zero, List.set_cons_succ])
      refine wpAnyH_take (i := 22) (oi := ({ dst := some 128, op := Go.Op.move (Go.Operand.tmp 12), type := 2, pos := "law.go:366", after := #[{ on := 17, ground := Go.Ground.guard }], guard := some (17, false) } : Oper)) (v := ?vq22) rfl (by kernel_rfl) (by kernel_rfl) (by kernel_rfl) (fun _ _ _ h => h) (Or.inl ⟨by rfl, ?hyq22⟩) (by assumption) ?restq22
      case hyq22 => (intro w hSw; (try dsimp only at hSw); go_simp; (try with_reducible rfl))
      (try simp only [Act.put, List.setIfInBounds_toArray, List.set_cons_zero, List.set_cons_succ])
      refine wpAnyH_take (i := 23) (oi := ({ dst := some 129, op := Go.Op.fieldAddr 45 (Go.Operand.tmp 1) 3, type := 0, pos := "law.go:366", after := #[{ on := 17, ground := Go.Ground.guard }], guard := some (17, false) } : Oper)) (v := ?vq23) rfl (by kernel_rfl) (by kernel_rfl) (by kernel_rfl) (fun _ _ _ h => h) (Or.inl ⟨by rfl, ?hyq23⟩) (by assumption) ?restq23
      case hyq23 => (intro w hSw; (try dsimp only at hSw); go_simp; (try with_reducible rfl))
      (try simp only [Act.put, List.setIfInBounds_toArray, List.set_cons_zero, List.set_cons_succ])
      refine wpAnyH_take (i := 24) (oi := ({ dst := some 130, op := Go.Op.load 2 (Go.Operand.tmp 129), type := 2, pos := "law.go:366", after := #[{ on := 23, ground := Go.Ground.data }, { on := 17, ground := Go.Ground.guard }], guard := some (17, false) } : Oper)) (v := ?vq24) rfl (by kernel_rfl) (by kernel_rfl) (by kernel_rfl) (fun _ _ _ h => h) (Or.inl ⟨by rfl, ?hyq24⟩) (by assumption) ?restq24
      case hyq24 => (intro w hSw; (try dsimp only at hSw); have z := hSw.sa.z3; go_simp; (try with_reducible rfl))
      (try simp only [Act.put, List.setIfInBounds_toArray, List.set_cons_zero, List.set_cons_succ])
      refine wpAnyH_take (i := 25) (oi := ({ dst := some 131, op := Go.Op.binOp Go.BinOp.eql 2 (Go.Operand.tmp 128) (Go.Operand.tmp 130) 2, type := 4, pos := "law.go:366", after := #[{ on := 22, ground := Go.Ground.data }, { on := 24, ground := Go.Ground.data }, { on := 17, ground := Go.Ground.guard }], guard := some (17, false) } : Oper)) (v := ?vq25) rfl (by kernel_rfl) (by kernel_rfl) (by kernel_rfl) (fun _ _ _ h => h) (Or.inl ⟨by rfl, ?hyq25⟩) (by assumption) ?restq25
      case hyq25 => (intro w hSw; (try dsimp only at hSw); go_simp; (try with_reducible rfl))
      (try simp only [Act.put, List.setIfInBounds_toArray, List.set_cons_zero, List.set_cons_succ])
      refine wpAnyH_ready (rs := [21]) (by kernel_rfl) (by simp) ?_
      refine AllReadyH.cons (o := ({ dst := some 127, op := Go.Op.call { callee := Go.Callee.value (Go.Operand.func 22), args := #[Go.Operand.tmp 124, Go.Operand.tmp 125, Go.Operand.tmp 126], argTypes := #[41, 41, 2] }, type := 4, pos := "law.go:366", after := #[{ on := 18, ground := Go.Ground.data }, { on := 19, ground := Go.Ground.data }, { on := 20, ground := Go.Ground.data }, { on := 17, ground := Go.Ground.chain }, { on := 17, ground := Go.Ground.guard }], guard := some (17, false) } : Oper)) rfl (fun K hK => ?_) AllReadyH.nil
      go_simp
      refine (inScore.calls 0 I false 0 I false J beq Q8.out _).mono ?_
      rintro e wx ⟨rfl, hb⟩
      have hS1 := En.next hHeld hb
      clear hb
      (try go_wp2_with fail)
      refine hK.out _ _ (by exact hS1) (fun hHeld => ?_)
      clear hK K
      (try simp only [Act.put, List.setIfInBounds_toArray, List.set_cons_zero, List.set_cons_succ])
      refine wpAnyH_take (i := 26) (oi := ({ dst := some 132, op := Go.Op.binOp Go.BinOp.neq 4 (Go.Operand.tmp 127) (Go.Operand.tmp 131) 4, type := 4, pos := "law.go:366", after := #[{ on := 21, ground := Go.Ground.data }, { on := 25, ground := Go.Ground.data }, { on := 17, ground := Go.Ground.guard }], guard := some (17, false) } : Oper)) (v := ?vq26) rfl (by kernel_rfl) (by kernel_rfl) (by kernel_rfl) (fun _ _ _ h => h) (Or.inl ⟨by rfl, ?hyq26⟩) (by assumption) ?restq26
      case hyq26 => (intro w hSw; (try dsimp only at hSw); go_simp; (try with_reducible rfl))
      (try simp only [Act.put, List.setIfInBounds_toArray, List.set_cons_zero, List.set_cons_succ])
      refine wpAnyH_take (i := 27) (oi := ({ dst := some 133, op := Go.Op.pick (Go.Operand.tmp 123) (Go.Operand.const (Go.Value.bool true)) (Go.Operand.tmp 132), type := 4, pos := "law.go:366", after := #[{ on := 17, ground := Go.Ground.data }, { on := 26, ground := Go.Ground.data }], guard := none } : Oper)) (v := ?vq27) rfl (by kernel_rfl) (by kernel_rfl) (by kernel_rfl) (fun _ _ _ h => h) (Or.inl ⟨by rfl, ?hyq27⟩) (by assumption) ?restq27
      case hyq27 => (intro w hSw; (try dsimp only at hSw); go_simp; (try with_reducible rfl))
      (try simp only [Act.put, List.setIfInBounds_toArray, List.set_cons_zero, List.set_cons_succ])
      refine wpAnyH_take (i := 28) (oi := ({ dst := some 134, op := Go.Op.move (Go.Operand.tmp 133), type := 4, pos := "law.go:366", after := #[{ on := 27, ground := Go.Ground.data }, { on := 21, ground := Go.Ground.chain }], guard := none } : Oper)) (v := ?vq28) rfl (by kernel_rfl) (by kernel_rfl) (by kernel_rfl) (fun _ _ _ h => h) (Or.inl ⟨by rfl, ?hyq28⟩) (by assumption) ?restq28
      case hyq28 => (intro w hSw; (try dsimp only at hSw); go_simp; (try with_reducible rfl))
      (try simp only [Act.put, List.setIfInBounds_toArray, List.set_cons_zero, List.set_cons_succ])
      refine wpAnyH_take (i := 29) (oi := ({ dst := some 135, op := Go.Op.load 41 (Go.Operand.tmp 6), type := 41, pos := "law.go:366", after := #[{ on := 28, ground := Go.Ground.guard }], guard := some (28, false) } : Oper)) (v := Value.agg #[.int .i64 0, .int .i64 I, .bool true]) rfl (by kernel_rfl) (by kernel_rfl) (by kernel_rfl) (fun _ _ _ h => h) (Or.inl ⟨by rfl, ?hyq29⟩) (by assumption) ?restq29
      case hyq29 => (intro w hSw; (try dsimp only at hSw); have hl := load_bound hSw.b6; simp [execOp, Act.eval, Instr.loadAt, Instr.sureAddr, hl]; (try rfl))
      (try simp only [Act.put, List.setIfInBounds_toArray, List.set_cons_zero, List.set_cons_succ])
      refine wpAnyH_take (i := 30) (oi := ({ dst := some 136, op := Go.Op.load 41 (Go.Operand.tmp 4), type := 41, pos := "law.go:366", after := #[{ on := 28, ground := Go.Ground.guard }], guard := some (28, false) } : Oper)) (v := Value.agg #[.int .i64 0, .int .i64 I, .bool false]) rfl (by kernel_rfl) (by kernel_rfl) (by kernel_rfl) (fun _ _ _ h => h) (Or.inl ⟨by rfl, ?hyq30⟩) (by assumption) ?restq30
      case hyq30 => (intro w hSw; (try dsimp only at hSw); have hl := load_bound hSw.b4; simp [execOp, Act.eval, Instr.loadAt, Instr.sureAddr, hl]; (try rfl))
      (try simp only [Act.put, List.setIfInBounds_toArray, List.set_cons_zero, List.set_cons_succ])
      refine wpAnyH_take (i := 31) (oi := ({ dst := some 137, op := Go.Op.move (Go.Operand.tmp 12), type := 2, pos := "law.go:366", after := #[{ on := 28, ground := Go.Ground.guard }], guard := some (28, false) } : Oper)) (v := ?vq31) rfl (by kernel_rfl) (by kernel_rfl) (by kernel_rfl) (fun _ _ _ h => h) (Or.inl ⟨by rfl, ?hyq31⟩) (by assumption) ?restq31
      case hyq31 => (intro w hSw; (try dsimp only at hSw); go_simp; (try with_reducible rfl))
      (try simp only [Act.put, List.setIfInBounds_toArray, List.set_cons_zero, List.set_cons_succ])
      refine wpAnyH_ready (rs := [32]) (by kernel_rfl) (by simp) ?_
      refine AllReadyH.cons (o := ({ dst := some 138, op := Go.Op.call { callee := Go.Callee.value (Go.Operand.func 22), args := #[Go.Operand.tmp 135, Go.Operand.tmp 136, Go.Operand.tmp 137], argTypes := #[41, 41, 2] }, type := 4, pos := "law.go:366", after := #[{ on := 29, ground := Go.Ground.data }, { on := 30, ground := Go.Ground.data }, { on := 31, ground := Go.Ground.data }, { on := 28, ground := Go.Ground.chain }, { on := 28, ground := Go.Ground.guard }], guard := some (28, false) } : Oper)) rfl (fun K hK => ?_) AllReadyH.nil
      go_simp
      refine (inScore.calls 0 I true 0 I false J false Q9.out _).mono ?_
      rintro e wx ⟨rfl, hb⟩
      have hS1 := En.next hHeld hb
      clear hb
      (try go_wp2_with fail)
      refine hK.out _ _ (by exact hS1) (fun hHeld => ?_)
      clear hK K
      (try simp only [Act.put, List.setIfInBounds_toArray, List.set_cons_zero, List.set_cons_succ])
      refine wpAnyH_take (i := 33) (oi := ({ dst := some 139, op := Go.Op.pick (Go.Operand.tmp 134) (Go.Operand.const (Go.Value.bool true)) (Go.Operand.tmp 138), type := 4, pos := "law.go:366", after := #[{ on := 28, ground := Go.Ground.data }, { on := 32, ground := Go.Ground.data }], guard := none } : Oper)) (v := ?vq33) rfl (by kernel_rfl) (by kernel_rfl) (by kernel_rfl) (fun _ _ _ h => h) (Or.inl ⟨by rfl, ?hyq33⟩) (by assumption) ?restq33
      case hyq33 => (intro w hSw; (try dsimp only at hSw); go_simp; (try with_reducible rfl))
      (try simp only [Act.put, List.setIfInBounds_toArray, List.set_cons_zero, List.set_cons_succ])
      refine wpAnyH_done (by kernel_rfl) ?_ _
      (try go_wp2_with fail)
      go_meet
      exact ⟨rfl, ⟨hHeld⟩⟩
    case rest =>
      obtain ⟨rfl, HE3⟩ := hcut
      clear hS0 HE2 Q1 Q2 Q3 Q4 Q5 Q6 Q7 Q8 Q9 n1 n2 n3 n4 n5 hge hgt hle hlt heq heq2
      rename World => w18
      clear bge bgt ble blt beq
      have z1 := HE3.out.sa.z1
      have z2 := HE3.out.sa.z2
      obtain ⟨k, hk⟩ := Ev.rounds (RefE.cmp T P (by omega))
      obtain ⟨c, hc⟩ : ∃ c, c = cmpL T P := ⟨_, rfl⟩
      rw [← hc] at hk
      have HK := Aside0.mk hk
      have HC := Aside0.mk hc
      clear hk hc
      go_wp2_with fail
      refine (PE.larderref0_Cmp.calls k At ct T Ap cp P c _ HE3.out.sa.t hct HE3.out.sa.p hcp HK.out).mono ?_
      rintro e w19 ⟨rfl, hb⟩
      have HS19 := Aside0.mk (HE3.out.sa.next hb.below)
      clear hb HK HE3 z1 z2
      obtain ⟨l5, hl5⟩ : ∃ l5, l5 = [91] ++ P := ⟨_, rfl⟩
      obtain ⟨l6, hl6⟩ : ∃ l6, l6 = [40] ++ P := ⟨_, rfl⟩
      have HN5 : Aside0 (l5.length = P.length + 1) := ⟨by rw [hl5, List.length_append, List.length_singleton]; omega⟩
      have HN6 : Aside0 (l6.length = P.length + 1) := ⟨by rw [hl6, List.length_append, List.length_singleton]; omega⟩
      have HL5 := Aside0.mk hl5
      have HL6 := Aside0.mk hl6
      have HI5 : Aside0 (inB l5 ∧ NumS_rd l5 91 ∧ P = l5.drop 1) := ⟨by rw [hl5]; exact ⟨fun x hx => (List.mem_append.1 hx).elim (fun h => by rw [List.mem_singleton.1 h]; decide) (HPI.out x), rfl, rfl⟩⟩
      have HI6 : Aside0 (inB l6 ∧ NumS_rd l6 40 ∧ P = l6.drop 1) := ⟨by rw [hl6]; exact ⟨fun x hx => (List.mem_append.1 hx).elim (fun h => by rw [List.mem_singleton.1 h]; decide) (HPI.out x), rfl, rfl⟩⟩
      clear hl5 hl6
      have z1 := Lib.cell?_alloc_some (.cells #[.int .u8 91] 5 (1, 2)) HS19.out.z1
      have hc1 := conv_at (w := w19) w19.heap.size rfl #[.int .u8 91] 1 1
      go_upto_region 17 with (first
        | ((with_reducible refine gate_builtin (b := .append) (xs := #[.tmp 147, .tmp 149]) rfl ?_); at_builtin; refine wpList_append_fullW rfl (.tmp 147) (.tmp 149) rfl ⟨w19.heap.size, 0, none⟩ [91] rfl (got_const _ _ rfl [91] _ (by decide)) Ap cp P rfl (Kd.C_alloc HS19.out.p _) (by simp only [List.length_singleton]; omega) l5 HL5.out ?_; intro Ax cx w20 hCx hcx hb hA; have HS20 := Aside0.mk ((HS19.out.next (below_alloc (Below.refl _ _) _)).next hb); have HX := Aside0.mk hCx; clear hCx hb hA hc1 HS19 z1)
        | (go_at_call 24; refine (lexInShut.calls Ax cx l5 P _ HX.out HI5.out.1 (by have := HN5.out; omega) hcx HI5.out.2.1 HI5.out.2.2 (by have := HN5.out; omega)).mono ?_; rintro e w21 ⟨A5, c5, rfl, hc5, hC5, hb⟩; have HS21 := Aside0.mk (HS20.out.next hb); have HC5 := Aside0.mk hC5; clear hb hC5 HS20 HX))
      have hb9 := below_alloc (Below.refl w21.heap.size w21) (.cells #[.int .i64 0, .slice A5 P.length c5, .bool false] 43)
      have HB14 := Aside0.mk (blk_new w21 (.cells #[.int .i64 0, .slice A5 P.length c5, .bool false] 43))
      have HS22 := Aside0.mk (HS21.out.next hb9)
      have HC5b := Aside0.mk (Kd.C_below HC5.out hb9)
      clear hb9 HS21 HC5
      generalize w21.alloc (.cells #[.int .i64 0, .slice A5 P.length c5, .bool false] 43) = w22 at *
      generalize w21.heap.size = g14 at *
      have z1 := Lib.cell?_alloc_some (.cells #[.int .u8 40] 5 (1, 2)) HS22.out.z1
      have hc1 := conv_at (w := w22) w22.heap.size rfl #[.int .u8 40] 1 1
      go_upto_region 18 with (first
        | ((with_reducible refine gate_builtin (b := .append) (xs := #[.tmp 156, .tmp 158]) rfl ?_); at_builtin; refine wpList_append_fullW rfl (.tmp 156) (.tmp 158) rfl ⟨w22.heap.size, 0, none⟩ [40] rfl (got_const _ _ rfl [40] _ (by decide)) Ap cp P rfl (Kd.C_alloc HS22.out.p _) (by simp only [List.length_singleton]; omega) l6 HL6.out ?_; intro Ax cx w23 hCx hcx hb hA; have HS23 := Aside0.mk ((HS22.out.next (below_alloc (Below.refl _ _) _)).next hb); have HX := Aside0.mk hCx; have HC5c := Aside0.mk (Kd.C_below (Kd.C_alloc HC5b.out _) hb); have HB14b := Aside0.mk (blk_below (blk_alloc HB14.out _) hb); clear hCx hb hA hc1 HS22 z1 HC5b HB14)
        | (go_at_call 24; refine (lexInOpen.calls Ax cx l6 P _ HX.out HI6.out.1 (by have := HN6.out; omega) hcx HI6.out.2.1 HI6.out.2.2 (by have := HN6.out; omega)).mono ?_; rintro e w24 ⟨A6, c6, rfl, hc6, hC6, hb⟩; have HS24 := Aside0.mk (HS23.out.next hb); have HC6 := Aside0.mk hC6; have HC5d := Aside0.mk (Kd.C_below HC5c.out hb); have HB14c := Aside0.mk (blk_below HB14b.out hb); clear hb hC6 HS23 HX HC5c HB14b))
      have hb9 := below_alloc (Below.refl w24.heap.size w24) (.cells #[.int .i64 0, .slice A6 P.length c6, .bool true] 43)
      have HB15 := Aside0.mk (blk_new w24 (.cells #[.int .i64 0, .slice A6 P.length c6, .bool true] 43))
      have HB14 := Aside0.mk (blk_below HB14c.out hb9)
      have HS25 := Aside0.mk (HS24.out.next hb9)
      have HC6b := Aside0.mk (Kd.C_below HC6.out hb9)
      have HC5e := Aside0.mk (Kd.C_below HC5d.out hb9)
      clear hb9 HS24 HC6 HC5d HB14c HL5 HL6 HI5 HI6
      generalize w24.alloc (.cells #[.int .i64 0, .slice A6 P.length c6, .bool true] 43) = w25 at *
      generalize w24.heap.size = g15 at *
      have hc1 := conv_at (w := w25) w25.heap.size rfl #[.int .u8 45] 1 1
      go_upto_region 19 with (first
        | (go_at_call 24; refine (lexFarMinus.calls _ 1 _ (got_const w25 _ rfl [45] _ (by decide))).mono ?_; rintro e w26 ⟨rfl, hb⟩; have hb := PB.below_next (below_alloc (Below.refl w25.heap.size w25) _) hb; have HS26 := Aside0.mk (HS25.out.next hb); have HB14b := Aside0.mk (blk_below HB14.out hb); have HB15b := Aside0.mk (blk_below HB15.out hb); have HC5f := Aside0.mk (Kd.C_below HC5e.out hb); have HC6c := Aside0.mk (Kd.C_below HC6b.out hb); clear hb hc1 HS25 HB14 HB15 HC5e HC6b))
      have hb9 := below_alloc (Below.refl w26.heap.size w26) (.cells #[.int .i64 (-1), .slice none 0 0, .bool false] 43)
      have HB16 := Aside0.mk (blk_new w26 (.cells #[.int .i64 (-1), .slice none 0 0, .bool false] 43))
      have HB14 := Aside0.mk (blk_below HB14b.out hb9)
      have HB15 := Aside0.mk (blk_below HB15b.out hb9)
      have HS27 := Aside0.mk (HS26.out.next hb9)
      have HC6d := Aside0.mk (Kd.C_below HC6c.out hb9)
      have HC5g := Aside0.mk (Kd.C_below HC5f.out hb9)
      clear hb9 HS26 HB14b HB15b HC6c HC5f
      generalize w26.alloc (.cells #[.int .i64 (-1), .slice none 0 0, .bool false] 43) = w27 at *
      generalize w26.heap.size = g16 at *
      have hc1 := conv_at (w := w27) w27.heap.size rfl #[.int .u8 43] 1 1
      go_upto_region 20 with (first
        | (go_at_call 24; refine (lexFarPlus.calls _ 1 _ (got_const w27 _ rfl [43] _ (by decide))).mono ?_; rintro e w28 ⟨rfl, hb⟩; have hb := PB.below_next (below_alloc (Below.refl w27.heap.size w27) _) hb; have HS28 := Aside0.mk (HS27.out.next hb); have HB14b := Aside0.mk (blk_below HB14.out hb); have HB15b := Aside0.mk (blk_below HB15.out hb); have HB16b := Aside0.mk (blk_below HB16.out hb); have HC5h := Aside0.mk (Kd.C_below HC5g.out hb); have HC6e := Aside0.mk (Kd.C_below HC6d.out hb); clear hb hc1 HS27 HB14 HB15 HB16 HC5g HC6d))
      have hb9 := below_alloc (Below.refl w28.heap.size w28) (.cells #[.int .i64 1, .slice none 0 0, .bool false] 43)
      have HL := Aside0.mk (Le.mk (HS28.out.next hb9) (blk_below HB14b.out hb9) (blk_below HB15b.out hb9) (blk_below HB16b.out hb9) (blk_new w28 (.cells #[.int .i64 1, .slice none 0 0, .bool false] 43)) (Kd.C_below HC5h.out hb9) (Kd.C_below HC6e.out hb9))
      clear hb9 HS28 HB14b HB15b HB16b HC5h HC6e
      generalize w28.alloc (.cells #[.int .i64 1, .slice none 0 0, .bool false] 43) = w29 at *
      generalize w28.heap.size = g17 at *
      obtain ⟨bge, hge⟩ : ∃ b, decide (0 ≤ c) = b := ⟨_, rfl⟩
      obtain ⟨bgt, hgt⟩ : ∃ b, decide (0 < c) = b := ⟨_, rfl⟩
      obtain ⟨ble, hle⟩ : ∃ b, decide (c ≤ 0) = b := ⟨_, rfl⟩
      obtain ⟨blt, hlt⟩ : ∃ b, decide (c < 0) = b := ⟨_, rfl⟩
      obtain ⟨beq, heq⟩ : ∃ b, decide (c = 0) = b := ⟨_, rfl⟩
      have heq2 : (c == 0) = beq := by rw [← heq]; rfl
      have n1 : (bge != bge) = false := by simp
      have n2 : (bgt != bgt) = false := by simp
      have n3 : (ble != ble) = false := by simp
      have n4 : (blt != blt) = false := by simp
      have n5 : (beq == beq) = true := by simp
      obtain ⟨y0, y1, y2⟩ := lex_cells HL.out.b14
      obtain ⟨x0, x1, x2⟩ := lex_cells HL.out.b17
      have z2 := HL.out.sa.z2
      go_wp2_with fail
      refine (inLexC.calls 0 A5 c5 P false 1 none 0 [] false At ct T bge (by unfold inLexB; rw [← HC.out, from_shut]; exact hge) _ HL.out.p5 (Kd.C_nil _ _) HL.out.sa.t HPI.out (fun x hx => by cases hx) HTI.out).mono ?_
      rintro e wx ⟨rfl, hb⟩
      clear x0 x1 x2 y0 y1 y2 z2
      replace HL := Aside0.mk (HL.out.next hb)
      clear hb
      obtain ⟨y0, y1, y2⟩ := lex_cells HL.out.b15
      obtain ⟨x0, x1, x2⟩ := lex_cells HL.out.b17
      have z2 := HL.out.sa.z2
      go_wp2_with fail
      refine (inLexC.calls 0 A6 c6 P true 1 none 0 [] false At ct T bgt (by unfold inLexB; rw [← HC.out, from_open]; exact hgt) _ HL.out.p6 (Kd.C_nil _ _) HL.out.sa.t HPI.out (fun x hx => by cases hx) HTI.out).mono ?_
      rintro e wx ⟨rfl, hb⟩
      clear x0 x1 x2 y0 y1 y2 z2
      replace HL := Aside0.mk (HL.out.next hb)
      clear hb
      obtain ⟨y0, y1, y2⟩ := lex_cells HL.out.b16
      obtain ⟨x0, x1, x2⟩ := lex_cells HL.out.b14
      have z2 := HL.out.sa.z2
      go_wp2_with fail
      refine (inLexC.calls (-1) none 0 [] false 0 A5 c5 P false At ct T ble (by unfold inLexB; rw [← HC.out, upto_shut]; exact hle) _ (Kd.C_nil _ _) HL.out.p5 HL.out.sa.t (fun x hx => by cases hx) HPI.out HTI.out).mono ?_
      rintro e wx ⟨rfl, hb⟩
      clear x0 x1 x2 y0 y1 y2 z2
      replace HL := Aside0.mk (HL.out.next hb)
      clear hb
      obtain ⟨y0, y1, y2⟩ := lex_cells HL.out.b16
      obtain ⟨x0, x1, x2⟩ := lex_cells HL.out.b15
      have z2 := HL.out.sa.z2
      go_wp2_with fail
      refine (inLexC.calls (-1) none 0 [] false 0 A6 c6 P true At ct T blt (by unfold inLexB; rw [← HC.out, upto_open]; exact hlt) _ (Kd.C_nil _ _) HL.out.p6 HL.out.sa.t (fun x hx => by cases hx) HPI.out HTI.out).mono ?_
      rintro e wx ⟨rfl, hb⟩
      clear x0 x1 x2 y0 y1 y2 z2
      replace HL := Aside0.mk (HL.out.next hb)
      clear hb
      obtain ⟨y0, y1, y2⟩ := lex_cells HL.out.b16
      obtain ⟨x0, x1, x2⟩ := lex_cells HL.out.b17
      have z2 := HL.out.sa.z2
      go_wp2_with fail
      refine (inLexC.calls (-1) none 0 [] false 1 none 0 [] false At ct T true (by unfold inLexB; exact all_in _ _) _ (Kd.C_nil _ _) (Kd.C_nil _ _) HL.out.sa.t (fun x hx => by cases hx) (fun x hx => by cases hx) HTI.out).mono ?_
      rintro e wx ⟨rfl, hb⟩
      clear x0 x1 x2 y0 y1 y2 z2
      replace HL := Aside0.mk (HL.out.next hb)
      clear hb
      obtain ⟨y0, y1, y2⟩ := lex_cells HL.out.b17
      obtain ⟨x0, x1, x2⟩ := lex_cells HL.out.b17
      have z2 := HL.out.sa.z2
      go_wp2_with fail
      refine (inLexC.calls 1 none 0 [] false 1 none 0 [] false At ct T false (by unfold inLexB; exact high_none _ _) _ (Kd.C_nil _ _) (Kd.C_nil _ _) HL.out.sa.t (fun x hx => by cases hx) (fun x hx => by cases hx) HTI.out).mono ?_
      rintro e wx ⟨rfl, hb⟩
      clear x0 x1 x2 y0 y1 y2 z2
      replace HL := Aside0.mk (HL.out.next hb)
      clear hb
      obtain ⟨y0, y1, y2⟩ := lex_cells HL.out.b16
      obtain ⟨x0, x1, x2⟩ := lex_cells HL.out.b16
      have z2 := HL.out.sa.z2
      go_wp2_with fail
      refine (inLexC.calls (-1) none 0 [] false (-1) none 0 [] false At ct T false (by unfold inLexB; exact low_none _ _) _ (Kd.C_nil _ _) (Kd.C_nil _ _) HL.out.sa.t (fun x hx => by cases hx) (fun x hx => by cases hx) HTI.out).mono ?_
      rintro e wx ⟨rfl, hb⟩
      clear x0 x1 x2 y0 y1 y2 z2
      replace HL := Aside0.mk (HL.out.next hb)
      clear hb
      obtain ⟨y0, y1, y2⟩ := lex_cells HL.out.b14
      obtain ⟨x0, x1, x2⟩ := lex_cells HL.out.b14
      have z2 := HL.out.sa.z2
      go_wp2_with fail
      refine (inLexC.calls 0 A5 c5 P false 0 A5 c5 P false At ct T beq (by unfold inLexB; rw [← HC.out, same_shut]; exact heq) _ HL.out.p5 HL.out.p5 HL.out.sa.t HPI.out HPI.out HTI.out).mono ?_
      rintro e wx ⟨rfl, hb⟩
      clear x0 x1 x2 y0 y1 y2 z2
      replace HL := Aside0.mk (HL.out.next hb)
      clear hb
      go_wp2_with fail
      go_ret
      exact ⟨rfl, HL.out.sa.bel⟩
end
theorem walk (y : AskT) (ca : Array Value) (W : World) (hK : kAsk.K W y ca.toList) (hg : gAsk y) (hG : GL W) :
    Calls Tryd.prog 7 #[.agg ca] W fun e w' => e = .returned (.bool true) ∧ Below W.heap.size W w' := by
  obtain ⟨Ap, cp, At, ct, A3, c3, A4, c4, he, hp, hP, ht, hT, _⟩ := ask_cells hK
  have e : ∀ j : Nat, ca[j]? = ca.toList[j]? := fun j => by simp
  exact ends y.2.1 y.2.2.1 y.2.2.2.1 y.2.2.2.2.1 Ap At cp ct W ca (by rw [e, he]; rfl) (by rw [e, he]; rfl) (by rw [e, he]; rfl) (by rw [e, he]; rfl) hP hT hp ht (gBytes_len hg.2.1) (gBytes_len hg.2.2.1) (gBytes_in hg.2.1) (gBytes_in hg.2.2.1) (wf_i64 hg.2.2.2.1) (wf_i64 hg.2.2.2.2.1) hG
end Go.Proofs.YtdflblegdfpdpaaDoor.EndsW
end

section
/- The law MatchEnds as its given card says it: for every argument that can be read as data the call returns true, and what the argument leads to reads as before; the two listed variables are tied to the program's text. No condition. -/
namespace Go.Proofs.YtdflblegdfpdpaaDoor.LawMatchEnds
open Go.ChangeShapes Go.WideShapes Go.ChangeAt Go.RowKit
theorem own : ownKnob Tryd.prog.godebug = none := by kernel_rfl
theorem laidOut : laidOutB Tryd.prog = true := by kernel_rfl
set_option maxRecDepth 100000 in
theorem contract (H : Type) (enc : TypeId × Value → H) (W : World) (base : Nat) (args : Array Value) (ds gs : List (DataW H)) (before : List MemPlace)
    (hval0 : ∀ (j : Nat) t v, Tryd.f7.params[j]? = some t → args[j]? = some v → Value.okWide Tryd.prog W .any base t v)
    (hW : DataW.Whole enc Tryd.prog Tryd.f7.params.toList Rows.matchEndsSpec.vars false W args.toList ds gs before)
    (hsz0 : (DataW.weightsEach Tryd.prog (Tryd.f7.params.toList ++ (OpenSpec.ofChange Rows.matchEndsSpec).bare.plain.varTypes Tryd.prog) (ds ++ gs)).all (· ≤ reachBytes) = true) (hL : laidMetH Tryd.prog Rows.matchEndsRow.laid W) :
    Calls Tryd.prog 7 args W fun e W' => ∃ v, e = .returned v ∧ Rows.matchEndsSpec.post enc Tryd.prog Tryd.f7 false true false false W args v W' := by
  have hsz : (DataW.weightsEach Tryd.prog (Tryd.f7.params.toList ++ Rows.matchEndsSpec.plain.varTypes Tryd.prog) (ds ++ gs)).all (· ≤ reachBytes) = true := hsz0
  have hG : GlobW.GL W := AskW.gl hL
  have hval : ∀ (j : Nat) t v, Tryd.f7.params[j]? = some t → args[j]? = some v → Value.okWide Tryd.prog W .any base t v := hval0
  have hW' := hW
  obtain ⟨p, q, hA0, hV, rfl, _, _⟩ := hW
  have hA : DataW.TrodAll enc Tryd.prog W 0 (fun _ => true) true Tryd.f7.params.toList args.toList ds p := hA0
  rw [Tryd.params7] at hA hval hsz
  obtain ⟨v0, vs0, d0, ds0, p0, q0, hargs, rfl, rfl, h0, r0⟩ := trodAll_cons hA
  obtain ⟨rfl, rfl, rfl⟩ := trodAll_nil r0
  obtain rfl : args = #[v0] := by cases args; simp_all
  obtain ⟨rfl, rfl⟩ := trodVars_none hV
  have k0 := h0
  have lt0 : ∀ x ∈ p0, x.block < W.heap.size := by obtain ⟨m, hm⟩ := k0; exact DataW.trod_lt m _ _ _ hm
  obtain ⟨y, hK, hg⟩ := Open.open_arg AskW.o_ask hsz (j := 0) rfl rfl h0
  obtain ⟨ca, rfl, _⟩ := okWide_struct Tryd.underlying45 (hval 0 _ v0 rfl rfl)
  clear hA0 hval0 hsz0 hsz
  refine (EndsW.walk y ca W hK hg hG).mono fun e W' ⟨he, bel⟩ => ?_
  subst he
  exact ⟨_, rfl, _, _, _, [], _, [], hW', trodAll_mk1 (shut_bool Tryd.underlying4 _), (trodAll_cons_mk (Below.trod laidOut (by kernel_rfl) (of_decide_eq_true (by kernel_rfl)) k0 bel lt0) trodAll_mk0), rfl, bel.frame _, fun h => by cases h⟩
/-- A world for the witness: the settled one, the variables holding what their initialisers lay. -/
noncomputable def laidWorld (os : Os) : World :=
  { World.holding Tryd.prog os ⟨#[], #[], []⟩ with heap := (World.holding Tryd.prog os ⟨#[], #[], []⟩).heap.modify 1 fun
      | .cells _ t frozen => .cells #[.int .u64 18446744073709551615, .int .u64 18446744073709551615, .int .u64 18446744073709551615, .int .u64 18446744073709551615] t frozen
      | o => o }
theorem laid_met (os : Os) : laidMet Tryd.prog Rows.matchEndsRow.laid ((laidWorld os).forCall (fun _ _ => 0) ⟨#[], #[.agg #[.int .i64 0, .slice none 0 0, .slice none 0 0, .int .i64 0, .int .i64 0, .int .i64 0, .int .i64 0, .int .i64 0, .bool false, .int .i64 0, .int .i64 0, .bool false, .int .i64 0, .slice none 0 0, .bool false, .int .i64 0, .slice none 0 0, .bool false]], []⟩).memory :=
  laidMet_of_run' 8 (by kernel_rfl) (by kernel_rfl)
theorem reads (os : Os) {H : Type} (enc : TypeId × Value → H) : ∃ places, DataW.whole enc Tryd.prog ((laidWorld os).forCall (fun _ _ => 0) ⟨#[], #[.agg #[.int .i64 0, .slice none 0 0, .slice none 0 0, .int .i64 0, .int .i64 0, .int .i64 0, .int .i64 0, .int .i64 0, .bool false, .int .i64 0, .int .i64 0, .bool false, .int .i64 0, .slice none 0 0, .bool false, .int .i64 0, .slice none 0 0, .bool false]], []⟩).memory Tryd.f7.params.toList Rows.matchEndsSpec.vars false (#[.agg #[.int .i64 0, .slice none 0 0, .slice none 0 0, .int .i64 0, .int .i64 0, .int .i64 0, .int .i64 0, .int .i64 0, .bool false, .int .i64 0, .int .i64 0, .bool false, .int .i64 0, .slice none 0 0, .bool false, .int .i64 0, .slice none 0 0, .bool false]] : Array Value).toList 8 = some ([.agg [.lit (.int .i64 0), .nil, .nil, .lit (.int .i64 0), .lit (.int .i64 0), .lit (.int .i64 0), .agg [.lit (.int .i64 0), .lit (.int .i64 0), .lit (.bool false)], .agg [.lit (.int .i64 0), .lit (.int .i64 0), .lit (.bool false)], .agg [.lit (.int .i64 0), .nil, .lit (.bool false)], .agg [.lit (.int .i64 0), .nil, .lit (.bool false)]]], [], places) :=
  ⟨[], by kernel_rfl⟩
set_option maxRecDepth 100000 in
theorem lifted (os : Os) (started : os.Started) (H : Type) (enc : TypeId × Value → H) (F : Stop.Interp) :
    ReturnsInHanded {} Tryd.checked os 7 .any ((OpenSpec.ofChange Rows.matchEndsSpec).preRow enc Tryd.prog Tryd.f7 Rows.matchEndsRow.domain false Rows.matchEndsRow.laid) (((OpenSpec.ofChange Rows.matchEndsSpec).at F).post enc Tryd.prog Tryd.f7 false true false false) := by
  obtain ⟨places, hx⟩ := reads os enc
  refine returnsInHanded_of_row (C := Tryd.checked) (s := OpenSpec.ofChange Rows.matchEndsSpec) own started (by kernel_rfl) Tryd.func7
    (witness_row_at (enc := enc) (C := Tryd.checked) false (laidWorld os) #[.agg #[.int .i64 0, .slice none 0 0, .slice none 0 0, .int .i64 0, .int .i64 0, .int .i64 0, .int .i64 0, .int .i64 0, .bool false, .int .i64 0, .int .i64 0, .bool false, .int .i64 0, .slice none 0 0, .bool false, .int .i64 0, .slice none 0 0, .bool false]] rfl (by kernel_rfl) (by kernel_rfl) (by kernel_rfl)
      (OpenSpec.preRow_of_cond 8 hx (by kernel_rfl) (fun k hk => by cases hk) (by kernel_rfl) (laid_met os))) ?_
  intro W base args ds gs before hval hW _ _ hsz hL _ _
  exact contract H enc W base args ds gs before hval hW hsz hL
theorem said : Rows.MatchEndsSaid :=
  OpenClaim.holds_of_cond 7 Tryd.f7 rfl rfl rfl rfl rfl rfl rfl ⟨rfl, rfl, rfl, rfl, rfl⟩ rfl rfl rfl rfl rfl (by kernel_rfl) Tryd.func7 (by kernel_rfl)
    (of_decide_eq_true (by kernel_rfl)) (by unfold Func.isWrapper; first | (rw [if_pos (by decide +kernel)]; kernel_rfl) | (rw [if_neg (by decide +kernel)]; exact ⟨rfl, rfl⟩))
    (fun os started H enc _ F => by rw [OpenClaim.pre_eq_preRow]; exact lifted os started H enc F)
theorem plain (f : FuncId) (fn : Func) (hf : Tryd.pinned.checked.prog.funcNamed "larder/larderlaw9.MatchEnds" = some f) (hfn : Tryd.pinned.checked.prog.funcs[f]? = some fn) :
    false = Tryd.pinned.checked.prog.looks [] ∧ ∀ (j : Nat) t, fn.params[j]? = some t → Tryd.pinned.checked.prog.wantsStandIn t = false := by
  obtain rfl : f = 7 := Option.some.inj ((show Tryd.prog.funcNamed "larder/larderlaw9.MatchEnds" = some 7 by kernel_rfl).symm.trans hf) |>.symm
  obtain rfl : fn = Tryd.f7 := (Option.some.inj (Tryd.func7.symm.trans hfn)).symm
  refine ⟨by kernel_rfl, fun j t ht => ?_⟩
  rw [Tryd.params7] at ht
  obtain rfl : t = 45 := by simpa using Array.mem_of_getElem? ht
  exact (show Tryd.prog.wantsStandIn 45 = false by kernel_rfl)
theorem card : Rows.MatchEndsCardSaid :=
  Claim7.holds_tied_plain_at .later [] _ _ _ _ said (fun _ h => by cases h) (by kernel_rfl) (fun _ h => by cases h) matchEnds_row_tie rfl ⟨rfl, rfl⟩ (by kernel_rfl) rfl plain (by kernel_rfl)
#print axioms card
end Go.Proofs.YtdflblegdfpdpaaDoor.LawMatchEnds
namespace Go.Proofs.YtdflblegdfpdpaaDoor
/-- The card, under a short name, for the claim. -/
theorem matchEnds_holds : Rows.MatchEndsCardSaid := LawMatchEnds.card
end Go.Proofs.YtdflblegdfpdpaaDoor
end
