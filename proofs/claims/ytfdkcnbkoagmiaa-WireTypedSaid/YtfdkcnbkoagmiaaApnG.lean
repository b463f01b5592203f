/- append onto what []byte("..") makes: its row bears a mark behind its room. No function of the program. -/
import Derived.Test.YtfdkcnbkoagmiaaApnF
import Derived.Test.YtfdkcnbkoagmiaaStrR
import Derived.Test.YtfdkcnbkoagmiaaRowU
import Derived.Laws.IdiomCopy
namespace Go.Proofs.Ytfdkcnbkoagmiaa.ApnG
open Go Go.RowKit Go.Proofs.YtfdkcnbkoagmiaaW.PrintWords Go.Proofs.YtfdkcnbkoagmiaaW.PrintLast Go.Proofs.YtfdkcnbkoagmiaaW.PrintMore Go.Proofs.Ytfdkcnbkoagmiaa.CopL Go.Proofs.Ytfdkcnbkoagmiaa.RowU
set_option linter.unusedVariables false
set_option maxRecDepth 100000

/-- A row of bytes with a mark behind its room. -/
def RowF (w : World) (g cap : Nat) (l : List Int) : Prop :=
  ∃ cur : List Value, w.heap[g]? = some (.cells cur.toArray 5 (cap, cap + 1)) ∧ cur.length = cap ∧ l.length ≤ cap ∧ cap ≤ maxLen ∧ cur.take l.length = l.map (Value.int .u8)
variable {w w' : World} {g cap : Nat} {l : List Int}
theorem RowF.lt (h : RowF w g cap l) : g < w.heap.size := by
  obtain ⟨cur, h1, _⟩ := h
  exact (Array.getElem?_eq_some_iff.1 h1).1
theorem RowF.below (h : RowF w g cap l) (hb : Below w.heap.size w w') : RowF w' g cap l := by
  have hl := h.lt
  obtain ⟨cur, h1, h2⟩ := h
  exact ⟨cur, by rw [hb.block g hl]; exact h1, h2⟩
theorem RowF.get (h : RowF w g cap l) (j : Nat) (x : Int) (hx : l[j]? = some x) : w.cell? ⟨g, j, none⟩ = some (.int .u8 x) := by
  obtain ⟨cur, h1, h2, h3, _, h4⟩ := h
  have hj : j < l.length := (List.getElem?_eq_some_iff.1 hx).1
  have h5 := congrArg (fun r => r[j]?) h4
  simp only [List.getElem?_take, if_pos hj, List.getElem?_map, hx, Option.map_some] at h5
  rw [cell_of_row w g j _ _ _ h1]
  simpa using h5
theorem C_of (w : World) (g : Nat) (l : List Int) (hl : l.length ≤ 9223372036854775807) (h : ∀ (j : Nat) (x : Int), l[j]? = some x → w.cell? ⟨g, j, none⟩ = some (.int .u8 x)) : (Kd.int .u8).C w (some ⟨g, 0, none⟩) l.length l := by
  refine ⟨rfl, hl, fun _ => ⟨_, rfl, fun j p hp => ⟨[.int .u8 p], rfl, rfl, fun i u hu => ?_⟩⟩⟩
  cases i with
  | zero =>
    obtain rfl : Value.int .u8 p = u := by simpa using hu
    rw [show (Kd.int .u8).sz = 1 from rfl, Nat.mul_one, Nat.add_zero, Addr.add_lit, Nat.zero_add]
    exact h j p hp
  | succ i => simp at hu
theorem RowF.C (h : RowF w g cap l) : (Kd.int .u8).C w (some ⟨g, 0, none⟩) l.length l := by
  have h' := h
  obtain ⟨cur, h1, h2, h3, h4, _⟩ := h
  exact C_of w g l (by unfold maxLen at h4; omega) (fun j x hx => h'.get j x hx)
theorem RowF.le (h : RowF w g cap l) : l.length ≤ cap := by
  obtain ⟨cur, h1, h2, h3, _⟩ := h
  exact h3
theorem RowF.const (w : World) (g : Nat) (hg : w.heap.size = g) (l : List Int) (hl : l.length ≤ 1000000) : RowF (w.alloc (.cells (l.map (Value.int .u8)).toArray 5 (l.length, l.length + 1))) g l.length l := by
  subst hg
  exact ⟨l.map (Value.int .u8), heap_alloc_new w _, by simp, Nat.le_refl _, by unfold maxLen; omega, by rw [List.take_of_length_le (by simp)]⟩
theorem strCells_of {l : List Int} (hl : ∀ c ∈ l, 0 ≤ c ∧ c < 256) : (strOfNums l).data.toList.map (fun b => Value.int .u8 b.toNat) = l.map (Value.int .u8) := by
  rw [strOfNums_data, List.map_map]
  refine List.map_congr_left fun c hc => ?_
  have := hl c hc
  simp only [Function.comp, UInt8.toNat_ofNat']
  congr 1
  omega
theorem RowF.bytes (w : World) (l : List Int) (hl : ∀ c ∈ l, 0 ≤ c ∧ c < 256) (hn : l.length ≤ 1000000000) : RowF (Lib.bytesWorld w 5 (strOfNums l)) w.heap.size (grownCap w (strOfNums l).size 0 5) l := by
  have hsz := strOfNums_size l
  have hge := grownCap_ge w (strOfNums l).size 0 5
  have hcs : (Lib.bytesCells w 5 (strOfNums l)).size = grownCap w (strOfNums l).size 0 5 := by
    unfold Lib.bytesCells
    rw [Array.size_append, Array.size_map, Array.size_replicate]
    have : (strOfNums l).data.size = (strOfNums l).size := rfl
    omega
  have h1 := Lib.bytesWorld_at_new w 5 (strOfNums l)
  rw [hcs] at h1
  refine ⟨(Lib.bytesCells w 5 (strOfNums l)).toList, by simpa using h1, by simpa using hcs, by omega, grownCap_le_maxLen w _ 0 5 (by unfold maxLen; omega), ?_⟩
  unfold Lib.bytesCells
  rw [Array.toList_append, Array.toList_map, strCells_of hl, List.take_left' (by simp)]
/-- What append leaves: a row to be read, in a new block or in the one there was. -/
def Apd (base : Nat) (w w' : World) (v : Value) (l : List Int) : Prop := ∃ A c, v = .slice A l.length c ∧ l.length ≤ c ∧ (Kd.int .u8).C w' A l.length l ∧ (∀ ad, A = some ad → base ≤ ad.block ∧ ad.block < w'.heap.size ∧ ad.off = 0 ∧ ad.spot = none) ∧ Below base w w'
theorem C_block {A : Option Addr} (h : (Kd.int .u8).C w A l.length l) (h0 : 0 < l.length) : ∀ ad, A = some ad → ad.block < w.heap.size := by
  intro ad e
  obtain ⟨ad', e', hc⟩ := h.2.2 h0
  rw [e] at e'
  obtain rfl := Option.some.inj e'
  obtain ⟨cs, c1, c2, c3⟩ := hc 0 l[0] (by simp [h0])
  have c4 : cs = [Value.int .u8 l[0]] := c2
  subst c4
  have := c3 0 _ rfl
  have hb := World.block_lt_of_cell? _ _ this
  have eb : (ad.add (0 * (Kd.int .u8).sz + 0)).block = ad.block := by unfold Addr.add; split <;> rfl
  rw [eb] at hb
  exact hb
theorem below_setCells {base g : Nat} (hb : Below base w w') (hg : base ≤ g) (o : Nat) (vs : List Value) : Below base w (w'.setCells g o vs) := by
  induction vs generalizing w' o with
  | nil => exact hb
  | cons v r ih => exact ih (below_put hb hg o v) (o + 1)
theorem wpList_append_rowF {ops : Array Oper} {rest : List Oper} {o : Oper} {a : Act} {w : World} {Q : Exit → Act → World → Prop}
    (hg : o.guard = none) (s x : Operand) (hop : o.op = Op.call { callee := Callee.builtin Builtin.append, args := #[s, x], argTypes := #[26, 26] })
    (base g cap : Nat) (hbg : base ≤ g) (l1 : List Int) (hs : a.eval s = .slice (some ⟨g, 0, none⟩) l1.length cap) (hR : RowF w g cap l1)
    (Ax : Option Addr) (c : Nat) (l2 : List Int) (hx : a.eval x = .slice Ax l2.length c) (hC2 : Kd.C (Kd.int .u8) w Ax l2.length l2) (hb : l1.length + l2.length ≤ 1000000000)
    (hK : ∀ v w', Apd base w w' v (l1 ++ l2) → wpList Try.prog ops Q rest (a.put o.dst v) w') :
    wpList Try.prog ops Q (o :: rest) a w := by
  refine wpList_plain hg fun K hK' => ?_
  have hlt := hR.lt
  have hbs : base ≤ w.heap.size := by omega
  have hRC := hR.C
  have hle := hR.le
  by_cases h0 : l2.length = 0
  · obtain rfl : l2 = [] := List.eq_nil_of_length_eq_zero h0
    have hrun : (Builtin.append_ #[26, 26] o.type #[.slice (some ⟨g, 0, none⟩) l1.length cap, .slice Ax 0 c]).run Try.prog w = .ok (.slice (some ⟨g, 0, none⟩) l1.length cap) w := by
      obtain ⟨i, hi, h0, h1, h2⟩ := infoB
      have hu := Try.underlying26
      cases Ax <;> simp [Builtin.append_, run_underlying hu, sizeOf, typeInfo, hi, Builtin.lenOf, Builtin.firstCells, storeCells, loadCells, loadCellsFrom, hle]
    unfold Oper.wp
    simp only [List.length_nil] at hx
    simp [execOp, hop, resolve, invoke, builtin, hs, hx, hrun, Result.andThen]
    refine hK' _ _ (hK _ _ ⟨_, _, by rw [List.append_nil], by rw [List.append_nil]; exact hle, by rw [List.append_nil]; exact hRC, fun ad e => by obtain rfl := Option.some.inj e; exact ⟨hbg, hlt, rfl, rfl⟩, Below.refl _ _⟩)
  · obtain ⟨ad, hAx, _⟩ := Kd.at_int hC2 (0 : Int) (by omega) (by omega)
    subst hAx
    obtain ⟨i, hi, z0, z1, z2⟩ := infoB
    have hnews : ∀ j u, (l2.map (Value.int .u8))[j]? = some u → w.cell? (ad.add j) = some u := ApnF.cells_of hC2
    have hone : ∀ u ∈ l2.map (Value.int .u8), u.oneCell' = true := fun u hu => by obtain ⟨y, _, rfl⟩ := List.mem_map.1 hu; rfl
    by_cases hroom : l1.length + l2.length ≤ cap
    · obtain ⟨cur, r1, r2, r3, r4, r5⟩ := hR
      have hthere : ∀ j, j < (l2.map (Value.int .u8)).length → (w.cell? ⟨g, 0 + l1.length * i.size + j, none⟩).isSome = true := fun j hj => by
        rw [z1, cell_of_row w g _ _ _ _ r1]
        rw [List.length_map] at hj
        have : 0 + l1.length * 1 + j < cur.toArray.size := by simp; omega
        rw [Array.getElem?_eq_getElem this]
        rfl
      have hfz : ∀ j, j < (l2.map (Value.int .u8)).length → w.frozen? ⟨g, 0 + l1.length * i.size + j, none⟩ = false := fun j hj => by
        rw [List.length_map] at hj
        rw [z1]
        simp [World.frozen?, r1]
        omega
      have hrun := run_append_room_cells (P := Try.prog) w 26 o.type 5 i Try.underlying26 hi g 0 l1.length cap ad l2.length c (l2.map (Value.int .u8)) (by rw [z1]; simp) hnews hone hroom hthere hfz
      unfold Oper.wp
      simp [execOp, hop, resolve, invoke, builtin, hs, hx, hrun, Result.andThen]
      refine hK' _ _ (hK _ _ ⟨_, _, by rw [List.length_append], by rw [List.length_append]; exact hroom, ?_, fun ad e => by obtain rfl := Option.some.inj e; exact ⟨hbg, Nat.lt_of_lt_of_le hlt (below_setCells (base := 0) (g := g) (Below.refl 0 w) (Nat.zero_le _) _ _).size, rfl, rfl⟩, ?_⟩)
      · refine C_of _ g _ (by rw [List.length_append]; omega) (fun j x hx => ?_)
        rw [z1] at hthere ⊢
        rw [Nat.mul_one, Nat.zero_add] at hthere
        rw [Nat.mul_one]
        by_cases hj : j < l1.length
        · rw [World.cell?_setCells_out g _ _ w _ (fun _ _ => .inl (by simpa using hj))]
          rw [List.getElem?_append_left hj] at hx
          exact RowF.get ⟨cur, r1, r2, r3, r4, r5⟩ j x hx
        · rw [List.getElem?_append_right (by omega)] at hx
          have hj2 : j - l1.length < l2.length := (List.getElem?_eq_some_iff.1 hx).1
          have := World.cell?_setCells_in g (l2.map (Value.int .u8)) l1.length w hthere (j - l1.length) (by rw [List.length_map]; exact hj2)
          rw [show l1.length + (j - l1.length) = j by omega] at this
          rw [this]
          obtain ⟨_, e⟩ := List.getElem?_eq_some_iff.1 hx
          simp [e]
      · exact below_setCells (Below.refl _ _) hbg _ _
    · obtain ⟨v', w', hrun, ho, hgr⟩ := run_append_arg_grows (P := Try.prog) w 26 o.type 5 i (.int .u8 0) 1 1 Try.underlying26 hi z0 z1 z2 rfl (by decide) ⟨g, 0, none⟩ l1.length cap (l1.map (Value.int .u8)) (by simp) (fun j u hu => by
        rw [Addr.add_lit, Nat.zero_add]
        rw [List.getElem?_map] at hu
        obtain ⟨q, hq, rfl⟩ := Option.map_eq_some_iff.1 hu
        exact hR.get j q hq) ad l2.length c (l2.map (Value.int .u8)) (by simp) hnews (by omega) (by unfold maxLen; omega) (by omega)
      have hB : Below w.heap.size w w' := (Below.refl _ w).grown hgr (Nat.le_refl _) (by intro k hk; simp at hk)
      have ho' : w'.ownsRow w.heap.size 5 1 v' (l1 ++ l2).length (encs (Value.int .u8) (l1 ++ l2)) := by
        rw [List.length_append, show encs (Value.int .u8) (l1 ++ l2) = l1.map (Value.int .u8) ++ l2.map (Value.int .u8) by simp [encs]]
        exact ho
      have hblk : ∀ k, v'.ownBlock = some k → w.heap.size ≤ k := by
        intro k hk
        rcases ho.2 with ⟨rfl, _⟩ | ⟨g', cap', cur', rfl, hb', _⟩
        · cases hk
        · obtain rfl := Option.some.inj hk; exact hb'
      obtain ⟨A', c', rfl, hl, hC⟩ := Kd.R_reads (Kd.R_of_own (h1 := fun _ => rfl) ho' (ok := fun _ => True) (fun _ _ => trivial))
      unfold Oper.wp
      simp [execOp, hop, resolve, invoke, builtin, hs, hx, hrun, Result.andThen]
      refine hK' _ _ (hK _ _ ⟨A', c', by rw [List.length_append], hl, hC, fun ad e => ?_, Joins.below_le hB hbs⟩)
      have hb2 := C_block hC (by rw [List.length_append]; omega) ad e
      subst e
      rcases ho.2 with ⟨h1, _⟩ | ⟨g', cap', cur', h1, hb', _⟩
      · cases h1
      · simp only [Value.slice.injEq, Option.some.injEq] at h1
        rw [h1.1] at hb2 ⊢
        exact ⟨by show base ≤ g'; omega, hb2, rfl, rfl⟩
end Go.Proofs.Ytfdkcnbkoagmiaa.ApnG
