/- Blocks of words that grow; an arena's blocks in memory. No function of the program. -/
import Derived.Test.YtfdkcnbkoagmiaaRowU
import Derived.Test.YtfdkcnbkoagmiaaArS
import Derived.ArgAppend
import Derived.Laws.Tables
namespace Go.Proofs.Ytfdkcnbkoagmiaa.ArM
open Go Go.RowKit Go.Proofs.YtfdkcnbkoagmiaaW.PrintWords Go.Proofs.YtfdkcnbkoagmiaaW.PrintLast Go.Proofs.YtfdkcnbkoagmiaaW.PrintMore Go.Proofs.Ytfdkcnbkoagmiaa.RowU Go.Proofs.Ytfdkcnbkoagmiaa.ArS
set_option linter.unusedVariables false
set_option maxRecDepth 100000

/-- The blocks of S may have changed, and new ones may have come; nothing else. -/
structure Upd (S : Nat → Prop) (w w' : World) : Prop where
  os : w'.os = w.os
  tape : w'.tape = w.tape
  output : w'.output = w.output
  size : w.heap.size ≤ w'.heap.size
  block : ∀ k, k < w.heap.size → ¬ S k → w'.heap[k]? = w.heap[k]?
def none_ : Nat → Prop := fun _ => False
theorem Upd.refl (S : Nat → Prop) (w : World) : Upd S w w := ⟨rfl, rfl, rfl, Nat.le_refl _, fun _ _ _ => rfl⟩
theorem Upd.trans {S : Nat → Prop} {a b c : World} (h : Upd S a b) (k : Upd S b c) : Upd S a c :=
  ⟨k.os.trans h.os, k.tape.trans h.tape, k.output.trans h.output, Nat.le_trans h.size k.size, fun i hi hs => (k.block i (Nat.lt_of_lt_of_le hi h.size) hs).trans (h.block i hi hs)⟩
/-- What the second step may change beyond S is new since a. -/
theorem Upd.trans2 {S S' : Nat → Prop} {a b c : World} (h : Upd S a b) (k : Upd S' b c) (hs : ∀ i, S' i → S i ∨ a.heap.size ≤ i) : Upd S a c :=
  ⟨k.os.trans h.os, k.tape.trans h.tape, k.output.trans h.output, Nat.le_trans h.size k.size, fun i hi hn => (k.block i (Nat.lt_of_lt_of_le hi h.size) (fun h' => by rcases hs i h' with h2 | h2; exact hn h2; omega)).trans (h.block i hi hn)⟩
theorem Upd.mono {S S' : Nat → Prop} {a b : World} (h : Upd S a b) (hs : ∀ i, S i → S' i) : Upd S' a b :=
  ⟨h.os, h.tape, h.output, h.size, fun i hi hn => h.block i hi (fun h' => hn (hs i h'))⟩
theorem Upd.of_below {S : Nat → Prop} {a b : World} (h : Below a.heap.size a b) : Upd S a b := ⟨h.os, h.tape, h.output, h.size, fun i hi _ => h.block i hi⟩
theorem Upd.below {S : Nat → Prop} {a b : World} (h : Upd S a b) (B : Nat) (hB : B ≤ a.heap.size) (hs : ∀ i, S i → B ≤ i) : Below B a b :=
  ⟨h.os, h.tape, h.output, h.size, fun i hi => h.block i (Nat.lt_of_lt_of_le hi hB) (fun h' => by have := hs i h'; omega)⟩
theorem Upd.to_below {S : Nat → Prop} {w a b : World} {B : Nat} (h0 : Below B w a) (h : Upd S a b) (hB : B ≤ a.heap.size) (hs : ∀ i, S i → B ≤ i) : Below B w b := h0.trans (h.below B hB hs)
theorem Upd.put {S : Nat → Prop} {a b : World} (h : Upd S a b) {g : Nat} (hg : S g ∨ a.heap.size ≤ g) (j : Nat) (v : Value) : Upd S a (b.setCell ⟨g, j, none⟩ v) :=
  ⟨h.os, h.tape, h.output, by have := h.size; simpa [World.setCell] using this, fun k hk hn => (Below.heap_setCell b _ _ k (by show k ≠ g; rintro rfl; rcases hg with h1 | h1; exact hn h1; omega)).trans (h.block k hk hn)⟩
theorem Upd.alloc {S : Nat → Prop} {a b : World} (h : Upd S a b) (o : Obj) : Upd S a (b.alloc o) :=
  h.trans (Upd.of_below ((Below.refl b.heap.size b).alloc (Nat.le_refl _) o))
theorem Upd.drew {S : Nat → Prop} {a b : World} (h : Upd S a b) : Upd S a b.drew := ⟨h.os, h.tape, h.output, h.size, h.block⟩
theorem Upd.of_grown {S : Nat → Prop} {a b : World} {row : Option Nat} (h : a.grownBy b row) (hr : ∀ k, row = some k → S k) : Upd S a b :=
  ⟨h.os, h.tape, h.output, h.size, fun k hk hn => h.block k hk (fun he => hn (hr k he.symm))⟩
theorem blk_upd {S : Nat → Prop} {w w' : World} {g : Nat} {o : Obj} (h : w.heap[g]? = some o) (hu : Upd S w w') (hg : ¬ S g) : w'.heap[g]? = some o :=
  (hu.block g (cell_lt h) hg).trans h

theorem _root_.Go.Proofs.Ytfdkcnbkoagmiaa.RowU.WordsAt.upd {S : Nat → Prop} {W W' : World} {g cap : Nat} {l : List Nat} (h : WordsAt W g cap l) (hu : Upd S W W') (hg : ¬ S g) : WordsAt W' g cap l := by
  obtain ⟨cur, h1, h2⟩ := h
  exact ⟨cur, blk_upd h1 hu hg, h2⟩
theorem _root_.Go.Proofs.Ytfdkcnbkoagmiaa.RowU.WordsAt.lt {W : World} {g cap : Nat} {l : List Nat} (h : WordsAt W g cap l) : g < W.heap.size := by
  obtain ⟨cur, h1, h2⟩ := h
  exact cell_lt h1
theorem _root_.Go.Proofs.Ytfdkcnbkoagmiaa.RowU.WordsAt.own {W : World} {g cap : Nat} {l : List Nat} (h : WordsAt W g cap l) : W.ownsRow g 118 1 (.slice (some ⟨g, 0, none⟩) l.length cap) l.length (l.map u64) := by
  obtain ⟨cur, h1, h2, h3, h4, h5⟩ := h
  exact ⟨by simp, .inr ⟨g, cap, cur.toArray, rfl, Nat.le_refl _, h1, h3, h4, by simpa using h2, by simpa using h5⟩⟩
theorem _root_.Go.Proofs.Ytfdkcnbkoagmiaa.RowU.WordsAt.of_own {W : World} {base : Nat} {v : Value} {l : List Nat} {n : Nat} (h : W.ownsRow base 118 1 v n (l.map u64)) (hn : n = l.length) (h0 : 0 < l.length) : ∃ g cap, v = .slice (some ⟨g, 0, none⟩) l.length cap ∧ base ≤ g ∧ WordsAt W g cap l := by
  subst hn
  obtain ⟨h1, ⟨rfl, h2⟩ | ⟨g, cap, cur, rfl, hb, hg, hn, hm, hc, ht⟩⟩ := h
  · omega
  · exact ⟨g, cap, rfl, hb, cur.toList, by simpa using hg, by simpa using hc, hn, hm, by simpa using ht⟩
theorem map_rep (n : Nat) : List.replicate n (Value.int .u64 0) = (List.replicate n 0).map u64 := by simp [u64]

theorem zeros_u64 (n : Nat) : Builtin.zeroCells #[Value.int .u64 0] n = (List.replicate n (.int .u64 0)).toArray := by
  apply Array.toList_inj.1
  apply List.ext_getElem?
  intro k
  by_cases hk : k < n
  · simp [Builtin.zeroCells, hk, Nat.mod_one]
  · simp [Builtin.zeroCells, hk]
/-- append of a made list of zeros, where there is room. -/
theorem run_zeros_room (w : World) (ty : TypeId) (g cap : Nat) (l : List Nat) (hw : WordsAt w g cap l) (n : Nat) (hn : 0 < n) (hb : n ≤ 100000000) (hr : l.length + n ≤ cap) :
    ∃ w', (Builtin.append_ #[117, 3] ty #[.slice (some ⟨g, 0, none⟩) l.length cap, .int .i64 (n : Int)]).run Try.prog w = .ok (.slice (some ⟨g, 0, none⟩) (l ++ List.replicate n 0).length cap) w' ∧ WordsAt w' g cap (l ++ List.replicate n 0) ∧ Upd (fun k => k = g) w w' := by
  obtain ⟨cur, h1, h2, h3, h4, h5⟩ := hw
  obtain ⟨i, hi, z0, z1, z2⟩ := infoU
  have hst := run_storeCells_at Try.prog g (l.length * 1) 118 (List.replicate n (.int .u64 0)) 0 cur.toArray w h1 (by simp; omega) (by intro v hv; rw [List.eq_of_mem_replicate hv]; rfl)
  simp only [Nat.add_zero, Nat.mul_one, List.length_replicate] at hst
  have hz := zeros_u64 n
  have hlt : ¬ (n : Int) < 0 := by omega
  have hwrap : IntKind.i64.wrap (n : Int) = n := by simp [IntKind.wrap, IntKind.bits, IntKind.signed]; omega
  have hnb : ¬ (281474976710656 < (n : Int) * 8) := by omega
  have hn0 : n ≠ 0 := by omega
  refine ⟨w.setRow g (List.take l.length cur ++ List.replicate n (Value.int IntKind.u64 0) ++ List.drop (l.length + n) cur).toArray, ?run, ?wa, ?up⟩
  case run =>
    simp [Builtin.append_, run_underlying Try.underlying117, run_underlying Try.underlying3, sizeOf, typeInfo, zeroValue, hi, z0, z1, z2, asInt, asIntOf, hwrap, hlt, hnb, hn0, hr, Value.cells, hz, Addr.add_lit, hst]
  case wa =>
    refine ⟨(cur.take l.length ++ List.replicate n (.int .u64 0) ++ cur.drop (l.length + n)), ?_, ?_, ?_, h4, ?_⟩
    · have := setRow_heap w g cur.toArray (List.take (l.length) cur ++ List.replicate n (Value.int IntKind.u64 0) ++ List.drop (l.length + n) cur).toArray _ _ h1
      simpa using this
    · simp; omega
    · simp; omega
    · rw [h5, List.map_append, ← map_rep]
      exact List.take_left' (by simp)
  case up => exact ⟨rfl, rfl, rfl, by simp [World.setRow], fun k hk hn => setRow_other w g k _ hn⟩
theorem run_zeros_grow (w : World) (ty : TypeId) (g cap : Nat) (l : List Nat) (hw : WordsAt w g cap l) (n : Nat) (hn : 0 < n) (hb : l.length + n ≤ 100000000) (hr : cap < l.length + n) :
    ∃ cap' w', (Builtin.append_ #[117, 3] ty #[.slice (some ⟨g, 0, none⟩) l.length cap, .int .i64 (n : Int)]).run Try.prog w = .ok (.slice (some ⟨w.heap.size, 0, none⟩) (l ++ List.replicate n 0).length cap') w' ∧ WordsAt w' w.heap.size cap' (l ++ List.replicate n 0) ∧ Below w.heap.size w w' := by
  have hget := fun j x hx => hw.get j x hx
  obtain ⟨cur, h1, h2, h3, h4, h5⟩ := hw
  obtain ⟨i, hi, z0, z1, z2⟩ := infoU
  have hfo := run_firstCells_some (P := Try.prog) w.drew 1 l.length ⟨g, 0, none⟩ l.length cap (l.map u64) (by simp) (by
    intro j v hv
    rw [List.getElem?_map, Option.map_eq_some_iff] at hv
    obtain ⟨x, hx, rfl⟩ := hv
    have := hget j x hx
    simpa [Addr.add_lit, u64] using this)
  have hz := zeros_u64
  have hlt : ¬ (n : Int) < 0 := by omega
  have hwrap : IntKind.i64.wrap (n : Int) = n := by simp [IntKind.wrap, IntKind.bits, IntKind.signed]; omega
  have hnb : ¬ (281474976710656 < (n : Int) * 8) := by omega
  have hn0 : n ≠ 0 := by omega
  have hnr : ¬ (l.length + n ≤ cap) := by omega
  have h63' : ¬ (9223372036854775807 < ((l.length : Int) + (n : Int))) := by omega
  have h48' : ¬ (281474976710656 < Builtin.nextslicecap (l.length + n) cap * 8) := by
    have := growslice_fits (bytes := 8) hr (by omega)
    omega
  have hge := grownCap_ge w (l.length + n) cap 118
  have hcm : grownCap w (l.length + n) cap 118 ≤ maxLen := grownCap_le_maxLen w (l.length + n) cap _ (by unfold maxLen; omega)
  refine ⟨grownCap w (l.length + n) cap 118, w.drew.alloc (.cells ((l.map u64).toArray ++ (List.replicate n (Value.int .u64 0)).toArray ++ (List.replicate (grownCap w (l.length + n) cap 118 - (l.length + n)) (Value.int .u64 0)).toArray) 118), ?run, ?wa, ?up⟩
  case run =>
    simp [Builtin.append_, run_underlying Try.underlying117, run_underlying Try.underlying3, sizeOf, typeInfo, zeroValue, hi, z0, z1, z2, asInt, asIntOf, hwrap, hlt, hnb, hn0, hnr, h63', h48', Value.cells, hz, Question.forced, hfo, newRow, grownCap]
  case wa =>
    refine ⟨l.map u64 ++ List.replicate n (Value.int .u64 0) ++ List.replicate (grownCap w (l.length + n) cap 118 - (l.length + n)) (Value.int .u64 0), ?_, ?_, ?_, hcm, ?_⟩
    · have := blk_new w.drew (.cells ((l.map u64).toArray ++ (List.replicate n (Value.int .u64 0)).toArray ++ (List.replicate (grownCap w (l.length + n) cap 118 - (l.length + n)) (Value.int .u64 0)).toArray) 118)
      refine this.trans ?_
      congr 2
      exact Array.toList_inj.1 (by simp)
    · simp; omega
    · simp; omega
    · rw [List.map_append, ← map_rep]
      exact List.take_left' (by simp)
  case up => exact (below_alloc (Below.refl _ _).drew _)
/-- append of a made list of zeros onto a block of words. -/
theorem wpList_zeros {ops : Array Oper} {rest : List Oper} {o : Oper} {a : Act} {Q : Exit → Act → World → Prop} (w : World) (hg : o.guard = none) (s x : Operand)
    (hop : o.op = Op.call { callee := Callee.builtin Builtin.append, args := #[s, x], argTypes := #[117, 3] })
    (g cap : Nat) (l : List Nat) (k : Nat) (hs : a.eval s = .slice (some ⟨g, 0, none⟩) k cap) (hk : k = l.length) (hw : WordsAt w g cap l) (n : Nat) (hx : a.eval x = .int .i64 (n : Int)) (hn : 0 < n) (hb : l.length + n ≤ 100000000) (m : Nat) (hm : m = l.length + n)
    (hK : ∀ g' cap' w', (g' = g ∨ w.heap.size ≤ g') → WordsAt w' g' cap' (l ++ List.replicate n 0) → Upd (fun k => k = g) w w' → wpList Try.prog ops Q rest (a.put o.dst (.slice (some ⟨g', 0, none⟩) m cap')) w') :
    wpList Try.prog ops Q (o :: rest) a w := by
  subst hk
  obtain rfl : m = (l ++ List.replicate n 0).length := by simp [hm]
  refine wpList_plain hg fun K hK' => ?_
  by_cases hr : l.length + n ≤ cap
  · obtain ⟨w', hrun, hwa, hup⟩ := run_zeros_room w o.type g cap l hw n hn (by omega) hr
    unfold Oper.wp
    simp [execOp, hop, resolve, invoke, builtin, hs, hx, hrun, Result.andThen]
    have := hK g cap w' (.inl rfl) hwa hup
    simp only [List.length_append, List.length_replicate] at this
    exact hK' _ _ this
  · obtain ⟨cap', w', hrun, hwa, hup⟩ := run_zeros_grow w o.type g cap l hw n hn hb (by omega)
    unfold Oper.wp
    simp [execOp, hop, resolve, invoke, builtin, hs, hx, hrun, Result.andThen]
    have := hK w.heap.size cap' w' (.inr (Nat.le_refl _)) hwa (Upd.of_below hup)
    simp only [List.length_append, List.length_replicate] at this
    exact hK' _ _ this
/-- append of words onto a block of words. -/
theorem wpList_words {ops : Array Oper} {rest : List Oper} {o : Oper} {a : Act} {Q : Exit → Act → World → Prop} (w : World) (hg : o.guard = none) (s x : Operand)
    (hop : o.op = Op.call { callee := Callee.builtin Builtin.append, args := #[s, x], argTypes := #[117, 117] })
    (g cap : Nat) (l : List Nat) (k : Nat) (hs : a.eval s = .slice (some ⟨g, 0, none⟩) k cap) (hk : k = l.length) (hw : WordsAt w g cap l) (ad : Addr) (n c : Nat) (l2 : List Nat) (hx : a.eval x = .slice (some ad) n c) (hl2 : l2.length = n) (hc : ∀ j y, l2[j]? = some y → w.cell? (ad.add j) = some (u64 y))
    (h0 : 0 < n) (hb : l.length + n ≤ 100000000) (m : Nat) (hm : m = l.length + n)
    (hK : ∀ g' cap' w', (g' = g ∨ w.heap.size ≤ g') → WordsAt w' g' cap' (l ++ l2) → Upd (fun k => k = g) w w' → wpList Try.prog ops Q rest (a.put o.dst (.slice (some ⟨g', 0, none⟩) m cap')) w') :
    wpList Try.prog ops Q (o :: rest) a w := by
  subst hk
  obtain ⟨i, hi, z0, z1, z2⟩ := infoU
  have hnews : ∀ j u, (l2.map u64)[j]? = some u → w.cell? (ad.add j) = some u := by
    intro j u hu
    rw [List.getElem?_map, Option.map_eq_some_iff] at hu
    obtain ⟨y, hy, rfl⟩ := hu
    exact hc j y hy
  have h1 : ∀ u ∈ l2.map u64, u.oneCell' = true := fun u hu => by obtain ⟨y, _, rfl⟩ := List.mem_map.1 hu; rfl
  have hlm : m = (l ++ l2).length := by simp [hm, hl2]
  refine wpList_plain hg fun K hK' => ?_
  by_cases hr : l.length + n ≤ cap
  · obtain ⟨w', hrun, hown, hgr⟩ := run_append_fits (P := Try.prog) w g 117 o.type 118 i 1 Try.underlying117 hi z1 g l.length cap (l.map u64) hw.own ad n c (l2.map u64) (by simp [hl2]) hnews h1 hr
    rw [← List.map_append] at hown
    obtain ⟨g', cap', hv, hg', hwa⟩ := WordsAt.of_own hown (by simp [hl2]) (by simp; omega)
    simp only [Value.slice.injEq, Option.some.injEq, Addr.mk.injEq, and_true] at hv
    obtain ⟨hv1, hv2, hv3⟩ := hv
    subst hv1 hv3
    unfold Oper.wp
    simp [execOp, hop, resolve, invoke, builtin, hs, hx, hrun, Result.andThen]
    have := hK g cap w' (.inl rfl) hwa (Upd.of_grown hgr (fun k hk => by simpa using hk.symm))
    rw [hm] at this
    exact hK' _ _ this
  · obtain ⟨v', w', hrun, hown, hgr⟩ := run_append_arg_grows (P := Try.prog) w 117 o.type 118 i (.int .u64 0) 1 8 Try.underlying117 hi z0 z1 z2 rfl (by decide) ⟨g, 0, none⟩ l.length cap (l.map u64) (by simp) (by
      intro j u hu
      rw [List.getElem?_map, Option.map_eq_some_iff] at hu
      obtain ⟨y, hy, rfl⟩ := hu
      have := hw.get j y hy
      simpa [Addr.add_lit, u64] using this) ad n c (l2.map u64) (by simp [hl2]) hnews (by omega) (by unfold maxLen; omega) (by omega)
    rw [← List.map_append] at hown
    obtain ⟨g', cap', rfl, hg', hwa⟩ := WordsAt.of_own hown (by simp [hl2]) (by simp; omega)
    unfold Oper.wp
    simp [execOp, hop, resolve, invoke, builtin, hs, hx, hrun, Result.andThen]
    have := hK g' cap' w' (.inr hg') hwa (Upd.of_grown hgr (fun k hk => by cases hk))
    rw [hlm] at this
    simp only [List.length_append] at this
    exact hK' _ _ this

end Go.Proofs.Ytfdkcnbkoagmiaa.ArM
