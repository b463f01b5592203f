/- bytes.Clone, bytes.Compare: the machine's calls. -/
import Derived.Test.YtdflblegdfpdpaaDoorAppF
import Derived.Test.YtdflblegdfpdpaaDoorRefE
import Derived.Test.YtdflblegdfpdpaaDoorHeldW
import Derived.Lib.Bytealg
import Derived.Lib.SliceRun
namespace Go.Proofs.YtdflblegdfpdpaaDoor.CloneW
open Go Go.RowKit Go.Proofs.YtdflblegdfpdpaaDoorW.PrintWords Go.Proofs.YtdflblegdfpdpaaDoorW.PrintLast Go.Proofs.YtdflblegdfpdpaaDoorW.PrintMore Go.Proofs.YtdflblegdfpdpaaDoor.ScoreW Go.Proofs.YtdflblegdfpdpaaDoor.AppF Go.Proofs.YtdflblegdfpdpaaDoor.RefE
set_option linter.unusedVariables false
set_option maxRecDepth 100000

/-- append onto a list without room, of whatever can be handed in. -/
theorem wpList_append_fullW {ops : Array Oper} {rest : List Oper} {o : Oper} {a : Act} {w : World} {Q : Exit → Act → World → Prop}
    (hg : o.guard = none) (s x : Operand) (hop : o.op = Op.call { callee := Callee.builtin Builtin.append, args := #[s, x], argTypes := #[22, 22] })
    (As : Addr) (l1 : List Int) (hs : a.eval s = .slice (some As) l1.length l1.length) (hC1 : Kd.C (Kd.int .u8) w (some As) l1.length l1)
    (Ax : Option Addr) (c : Nat) (l2 : List Int) (hx : a.eval x = .slice Ax l2.length c) (hC2 : Kd.C (Kd.int .u8) w Ax l2.length l2) (hb : l1.length + l2.length ≤ 140737488355328) (l3 : List Int) (h3 : l3 = l1 ++ l2)
    (hK : ∀ A' c' w', Kd.C (Kd.int .u8) w' A' l3.length l3 → l3.length ≤ c' → Below w.heap.size w w' → (∀ ad, A' = some ad → ad.block = As.block ∨ w.heap.size ≤ ad.block) → wpList Tryd.prog ops Q rest (a.put o.dst (.slice A' l3.length c')) w') :
    wpList Tryd.prog ops Q (o :: rest) a w := by
  subst h3
  by_cases h0 : l2.length = 0
  · obtain rfl : l2 = [] := List.eq_nil_of_length_eq_zero h0
    refine wpList_plain hg fun K hK' => ?_
    have hrun := run_empty w o.type As l1.length c Ax
    unfold Oper.wp
    simp only [List.length_nil] at hx
    simp [execOp, hop, resolve, invoke, builtin, hs, hx, hrun, Result.andThen]
    refine hK' _ _ ?_
    have := hK (some As) l1.length w (by rw [List.append_nil]; exact hC1) (by rw [List.append_nil]; exact Nat.le_refl _) (Below.refl _ _) (fun ad h => .inl (by obtain rfl := Option.some.inj h; rfl))
    rw [List.append_nil] at this
    exact this
  · obtain ⟨ad, hAx, _⟩ := Kd.at_int hC2 (0 : Int) (by omega) (by omega)
    subst hAx
    obtain ⟨i, hi, z0, z1, z2⟩ := infoB
    refine wpList_append_grows w hg s x 22 hop 5 i (.int .u8 0) 1 1 Tryd.underlying22 hi z0 z1 z2 rfl (by decide) (some As) l1.length l1.length (l1.map (Value.int .u8)) hs (fun h => by cases h) (by simp) (fun b hb' => by obtain rfl := Option.some.inj hb'; exact cells_of hC1)
      ad l2.length c (l2.map (Value.int .u8)) hx (by simp) (cells_of hC2) (fun u hu => by obtain ⟨y, _, rfl⟩ := List.mem_map.1 hu; rfl) (by omega) (by unfold maxLen; omega) (by omega) ?_
    intro v' w' ho hgr
    have hB : Below w.heap.size w w' := (Below.refl _ w).grown hgr (Nat.le_refl _) (by intro k hk; simp at hk)
    have ho' : w'.ownsRow w.heap.size 5 1 v' (l1 ++ l2).length (encs (Value.int .u8) (l1 ++ l2)) := by
      rw [List.length_append, show encs (Value.int .u8) (l1 ++ l2) = l1.map (Value.int .u8) ++ l2.map (Value.int .u8) by simp [encs]]
      exact ho
    obtain ⟨A', c', rfl, hl, hC⟩ := Kd.R_reads (Kd.R_of_own (h1 := fun _ => rfl) ho' (ok := fun _ => True) (fun _ _ => trivial))
    refine hK A' c' w' hC hl hB (fun ad had => .inr ?_)
    rcases ho'.2 with ⟨h, _⟩ | ⟨g, cap, cur, h, hb, _⟩
    · injection h with h1 _ _
      rw [had] at h1
      cases h1
    · injection h with h1 _ _
      rw [had] at h1
      obtain rfl := Option.some.inj h1
      exact hb

theorem eql_nil (w : World) (a : Option Addr) (n c n' c' : Nat) : (binOp .eql 22 (.slice a n c) (.slice none n' c')).run Tryd.prog w = .ok (.bool a.isNone) w := Lib.run_eql_slice_nil w _ _ a n c n' c' Tryd.underlying22
set_option maxHeartbeats 1600000 in
theorem clone.calls (A : Option Addr) (c : Nat) (l : List Int) (w : World) (hr : Kd.C (Kd.int .u8) w A l.length l) (hl : l.length ≤ 140737488355328) :
    Calls Tryd.prog 35 #[.slice A l.length c] w fun e w' => ∃ A' c', e = .returned (.slice A' l.length c') ∧ l.length ≤ c' ∧ Kd.C (Kd.int .u8) w' A' l.length l ∧ Below w.heap.size w w' ∧ ∀ ad, A' = some ad → w.heap.size ≤ ad.block := by
  cases A with
  | none =>
    have h0 : l.length = 0 := by
      rcases Nat.eq_zero_or_pos l.length with h | h
      · exact h
      · obtain ⟨ad, hh, _⟩ := Kd.at_int hr (0 : Int) (by omega) (by omega)
        cases hh
    obtain rfl : l = [] := List.eq_nil_of_length_eq_zero h0
    have q22 := eql_nil
    go_enter Tryd.func35, Tryd.ntmps35
    go_wp2
    go_ret
    exact ⟨none, 0, rfl, by simp, Kd.C_nil _ _, Below.refl _ _, fun ad h => by cases h⟩
  | some ad =>
    have HR := Aside0.mk hr
    clear hr
    have q22 := eql_nil
    go_enter Tryd.func35, Tryd.ntmps35
    go_wp2_with (first
      | ((with_reducible refine gate_builtin (b := .append) (xs := #[.tmp 5, .tmp 6]) rfl ?_); at_builtin; refine wpList_append_fullW rfl (.tmp 5) (.tmp 6) rfl ⟨w.heap.size, 0, none⟩ [] rfl (got_const _ _ rfl [] _ (by decide)) (some ad) c l rfl (Kd.C_alloc HR.out _) (by simp only [List.length_nil]; omega) l rfl ?_; intro A' c' w' hC hc hb hA; have HA := Aside0.mk hA; have HC := Aside0.mk hC; have HB := Aside0.mk (PB.below_next (below_alloc (Below.refl w.heap.size w) _) hb); clear hC hb hA))
    go_ret
    exact ⟨A', c', rfl, hc, HC.out, HB.out, fun ad h => (HA.out ad h).elim (fun h => by rw [h]; exact Nat.le_refl _) (fun h => by rw [size_alloc] at h; omega)⟩

theorem add_block (a : Addr) (j : Nat) : (a.add j).block = a.block := by
  unfold Addr.add
  split <;> rfl
theorem C_setRow {W : World} {ad : Addr} {n : Nat} {l : List Int} (h : Kd.C (Kd.int .u8) W (some ad) n l) (g : Nat) (cs : Array Value) (hg : ad.block ≠ g) : Kd.C (Kd.int .u8) (W.setRow g cs) (some ad) n l := by
  obtain ⟨h1, h2, h3⟩ := h
  refine ⟨h1, h2, fun h0 => ?_⟩
  obtain ⟨a, ha, hc⟩ := h3 h0
  obtain rfl := Option.some.inj ha
  refine ⟨ad, rfl, fun j p hp => ?_⟩
  obtain ⟨c, hc1, hc2, hc3⟩ := hc j p hp
  refine ⟨c, hc1, hc2, fun k u hk => ?_⟩
  rw [cell_setRow_other _ _ _ _ (by rw [add_block]; exact hg)]
  exact hc3 k u hk
/-- Bytes read out of a slice. -/
def pushAll (acc : ByteArray) : List Int → ByteArray
  | [] => acc
  | x :: r => pushAll (acc.push x.toNat.toUInt8) r
theorem pushAll_list (l : List Int) : ∀ acc : ByteArray, (pushAll acc l).data.toList = acc.data.toList ++ l.map fun x => x.toNat.toUInt8 := by
  induction l with
  | nil => intro acc; simp [pushAll]
  | cons x r ih =>
    intro acc
    rw [pushAll, ih]
    simp [ByteArray.push]
theorem run_loadBytes {P : Program} (w : World) (l : List Int) : ∀ (a : Addr) (acc : ByteArray), (∀ j u, (l.map (Value.int .u8))[j]? = some u → w.cell? (a.add j) = some u) → (Extern.Bytes.loadBytes a l.length acc).run P w = .ok (pushAll acc l) w := by
  induction l with
  | nil => intro a acc _; rfl
  | cons x r ih =>
    intro a acc h
    have h0 := h 0 (.int .u8 x) rfl
    rw [show a.add 0 = a by simp [Addr.add]] at h0
    show (Extern.Bytes.loadBytes a (r.length + 1) acc).run P w = _
    unfold Extern.Bytes.loadBytes
    rw [Sem.run_bind, run_load, h0]
    simp only [Result.andThen]
    refine ih (a.add 1) _ (fun j u hj => ?_)
    rw [HeldW.add_add, Nat.add_comm]
    exact h (j + 1) u (by simpa using hj)
theorem run_bytesOf {P : Program} (w : World) (A : Option Addr) (c : Nat) (l : List Int) (h : Kd.C (Kd.int .u8) w A l.length l) : (Extern.Bytes.bytesOf (.slice A l.length c)).run P w = .ok (pushAll .empty l) w := by
  cases A with
  | none =>
    have h0 : l.length = 0 := by
      rcases Nat.eq_zero_or_pos l.length with h' | h'
      · exact h'
      · obtain ⟨ad, hh, _⟩ := Kd.at_int h (0 : Int) (by omega) (by omega)
        cases hh
    obtain rfl : l = [] := List.eq_nil_of_length_eq_zero h0
    rfl
  | some ad => exact run_loadBytes w l ad _ (cells_of h)
theorem u8_lt {x y : Int} (hx : 0 ≤ x ∧ x < 256) (hy : 0 ≤ y ∧ y < 256) : x.toNat.toUInt8 < y.toNat.toUInt8 ↔ x < y := by
  rw [UInt8.lt_iff_toNat_lt]
  simp only [Nat.toUInt8, UInt8.toNat_ofNat']
  rw [Nat.mod_eq_of_lt (show x.toNat < 2 ^ 8 by omega), Nat.mod_eq_of_lt (show y.toNat < 2 ^ 8 by omega)]
  omega
theorem compare_cmp : ∀ a b : List Int, (∀ x ∈ a, 0 ≤ x ∧ x < 256) → (∀ x ∈ b, 0 ≤ x ∧ x < 256) → Lib.compareBytes (a.map fun x => x.toNat.toUInt8) (b.map fun x => x.toNat.toUInt8) = cmpL a b
  | [], [], _, _ => rfl
  | [], _ :: _, _, _ => rfl
  | _ :: _, [], _, _ => rfl
  | x :: a, y :: b, ha, hb => by
    have ih := compare_cmp a b (fun z hz => ha z (List.mem_cons_of_mem _ hz)) (fun z hz => hb z (List.mem_cons_of_mem _ hz))
    have hx := ha x (List.mem_cons_self ..)
    have hy := hb y (List.mem_cons_self ..)
    show (if x.toNat.toUInt8 < y.toNat.toUInt8 then -1 else if y.toNat.toUInt8 < x.toNat.toUInt8 then 1 else Lib.compareBytes _ _) = (if x < y then -1 else if x > y then 1 else cmpL a b)
    rw [ih]
    simp only [u8_lt hx hy, u8_lt hy hx]
set_option maxHeartbeats 1600000 in
theorem compare.calls (A : Option Addr) (c : Nat) (a : List Int) (A1 : Option Addr) (c1 : Nat) (b : List Int) (w : World) (hr : Kd.C (Kd.int .u8) w A a.length a) (hr1 : Kd.C (Kd.int .u8) w A1 b.length b) (ha : ∀ x ∈ a, 0 ≤ x ∧ x < 256) (hb : ∀ x ∈ b, 0 ≤ x ∧ x < 256) :
    Calls Tryd.prog 36 #[.slice A a.length c, .slice A1 b.length c1] w fun e w' => e = .returned (.int .i64 (cmpL a b)) ∧ w' = w := by
  have hrun : (Extern.BytealgCompare.compare #[.slice A a.length c, .slice A1 b.length c1]).run Tryd.prog w = .ok (.int .i64 (cmpL a b)) w := by
    change Sem.run Tryd.prog (do pure (goInt (Extern.BytealgCompare.cmp (← Extern.Bytes.bytesOf (.slice A a.length c)) (← Extern.Bytes.bytesOf (.slice A1 b.length c1))))) w = _
    simp only [Sem.run_bind, Sem.run_pure, run_bytesOf w A c a hr, run_bytesOf w A1 c1 b hr1, Result.andThen]
    rw [Lib.cmp_eq, pushAll_list, pushAll_list, ← compare_cmp a b ha hb]
    rfl
  have HRUN := Aside0.mk hrun
  clear hrun hr hr1
  go_enter Tryd.func36, Tryd.ntmps36
  go_wp2
  rw [run_callFunc_extern Tryd.func42 (by kernel_rfl) (by kernel_rfl) (by kernel_rfl) (e := Extern.BytealgCompare.compare) (by kernel_rfl), HRUN.out]
  simp only [Result.andThen]
  rw [Oper.upon_value]
  go_wp2
  go_ret
  exact ⟨rfl, rfl⟩
end Go.Proofs.YtdflblegdfpdpaaDoor.CloneW
