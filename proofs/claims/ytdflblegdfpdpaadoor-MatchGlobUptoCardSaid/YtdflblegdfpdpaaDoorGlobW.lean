/- match.Glob: the machine's call tells whether the text fits the pattern. -/
import Derived.Test.YtdflblegdfpdpaaDoorPieceW
import Derived.WalkMore
import Derived.DeepKeys
import Derived.Laws.StructEq
import Derived.Deep.LoopGhost
namespace Go.Proofs.YtdflblegdfpdpaaDoor.GlobW
open Go Go.RowKit Go.Proofs.YtdflblegdfpdpaaDoorW.PrintWords Go.Proofs.YtdflblegdfpdpaaDoorW.PrintLast Go.Proofs.YtdflblegdfpdpaaDoorW.PrintMore Go.Proofs.YtdflblegdfpdpaaDoor.GlobS Go.Proofs.YtdflblegdfpdpaaDoor.GlobT
set_option linter.unusedVariables false
set_option maxRecDepth 100000

theorem pcK_K {w : World} {p : Pc} {c : List Value} (h : pcK.K w p c) : c = (cellsP p).toList := by
  obtain ⟨c0, c1, rfl, h0, d0, d1, rfl, h1, e0, e1, rfl, h2, f0, f1, rfl, h3, h4⟩ := h
  have h0 : c0 = [_] := h0
  have h1 : d0 = [_] := h1
  have h2 : e0 = [_] := h2
  have h3 : f0 = [_] := h3
  have h4 : f1 = [_] := h4
  subst h0 h1 h2 h3 h4
  rfl
/-- A piece's cells. -/
theorem pc_cells' {w : World} {ad : Addr} {n : Nat} {l : List Pc} (h : pcK.C w (some ad) n l) (i : Nat) (p : Pc) (hp : l[i]? = some p) (j : Nat) (u : Value) (hu : (cellsP p)[j]? = some u) : w.cell? (ad.add (i * 5 + j)) = some u := by
  obtain ⟨hi, hp'⟩ := List.getElem?_eq_some_iff.1 hp
  have hn : l.length = n := h.1
  obtain ⟨ad', c, hh, hc, hK, hcells⟩ := Kd.C_get h p (i : Int) (by omega) (by omega)
  obtain rfl : ad = ad' := Option.some.inj hh
  rw [Int.toNat_natCast] at hK hcells
  have he : l.getD i p = p := by rw [List.getD_eq_getElem?_getD, hp]; rfl
  rw [he] at hK
  have := pcK_K hK
  subst this
  exact hcells j u (by rw [← hu]; simp)
theorem pc_cells {w : World} {ad : Addr} {n : Nat} {l : List Pc} (h : pcK.C w (some ad) n l) (i : Nat) (p : Pc) (hp : l[i]? = some p) (j : Nat) (u : Value) (hj : 0 < j) (hu : (cellsP p)[j]? = some u) : w.cell? ⟨(ad.add (i * 5)).block, (ad.add (i * 5)).off + j, none⟩ = some u := by
  have := pc_cells' h i p hp j u hu
  have hj' : j ≠ 0 := by omega
  rw [show ad.add (i * 5 + j) = ⟨(ad.add (i * 5)).block, (ad.add (i * 5)).off + j, none⟩ from by
    by_cases h0 : i * 5 = 0
    · simp [Addr.add, hj', h0]
    · simp [Addr.add, hj', h0, Nat.add_assoc]] at this
  exact this
theorem pc_cell0 {w : World} {ad : Addr} {n : Nat} {l : List Pc} (h : pcK.C w (some ad) n l) (i : Nat) (p : Pc) (hp : l[i]? = some p) : w.cell? (ad.add (i * 5)) = some (.bool p.star) := pc_cells' h i p hp 0 _ rfl
theorem pc_some {w : World} {A : Option Addr} {n : Nat} {l : List Pc} (h : pcK.C w A n l) (hn : 0 < n) : ∃ ad, A = some ad := by
  obtain ⟨ad, c, hh, _⟩ := Kd.C_get h ⟨false, noneQ⟩ (0 : Int) (by omega) (by omega)
  exact ⟨ad, hh⟩

theorem items_cons {P : Program} {d : Nat} {e : TypeId} {n : Nat} {xs ys : Array Value} {i : Nat} {is : List Nat} {a b : Value} {r s : Bool} {w : World} (ha : (part e xs (i * n)).run P w = .ok a w) (hb : (part e ys (i * n)).run P w = .ok b w) (he : (Op.equalIn d e a b).run P w = .ok r w) (hr : (Op.eqItems d e n xs ys is).run P w = .ok s w) : (Op.eqItems d e n xs ys (i :: is)).run P w = .ok (r && s) w := by
  simp only [Op.eqItems, Sem.run_bind, ha, hb, he, Result.andThen_ok]
  cases r
  · simp
  · simpa using hr
theorem eq4 (w : World) (a b c d a' b' c' d' : Int) : (Op.equalIn 10000 67 (.agg #[.int .u64 a, .int .u64 b, .int .u64 c, .int .u64 d]) (.agg #[.int .u64 a', .int .u64 b', .int .u64 c', .int .u64 d'])).run Tryd.prog w = .ok (a == a' && (b == b' && (c == c' && (d == d' && true)))) w := by
  have hz : Tryd.prog.cellsOf 65 = 1 := by kernel_rfl
  have hp : Tryd.prog.plainKey 65 = true := by kernel_rfl
  have he : ∀ (x y : Int), (Op.equalIn 9999 65 (.int .u64 x) (.int .u64 y)).run Tryd.prog w = .ok (x == y) w := fun x y => run_equalIn_int (P := Tryd.prog) w 9998 65 .u64 .u64 x y Tryd.underlying65
  have h9 : (10000 : Nat) = 9999 + 1 := by decide
  obtain ⟨i, hi⟩ : ∃ i, Tryd.prog.info? 65 = some i := Option.isSome_iff_exists.1 (by kernel_rfl)
  rw [h9, run_equalIn_array w 9999 _ _ Tryd.underlying67 hi, hz, show List.range 4 = [0, 1, 2, 3] from rfl]
  clear h9 hi
  have p := fun (xs : Array Value) (off : Nat) (v : Value) (hx : xs[off]? = some v) => run_part_plain (w := w) (P := Tryd.prog) hp hx
  generalize (9999 : Nat) = D at *
  exact items_cons (p _ _ _ rfl) (p _ _ _ rfl) (he _ _) (items_cons (p _ _ _ rfl) (p _ _ _ rfl) (he _ _) (items_cons (p _ _ _ rfl) (p _ _ _ rfl) (he _ _) (items_cons (p _ _ _ rfl) (p _ _ _ rfl) (he _ _) (by simp [Op.eqItems]))))
theorem eqQ (w : World) (a b c d a' b' c' d' : Nat) (r : Bool) (hr : r = decide ((a, b, c, d) = (a', b', c', d'))) : (Op.equalIn 10000 67 (.agg #[.int .u64 (a : Nat), .int .u64 (b : Nat), .int .u64 (c : Nat), .int .u64 (d : Nat)]) (.agg #[.int .u64 (a' : Nat), .int .u64 (b' : Nat), .int .u64 (c' : Nat), .int .u64 (d' : Nat)])).run Tryd.prog w = .ok r w := by
  rw [eq4, hr]
  congr 1
  rw [Bool.eq_iff_iff]
  simp
  omega
theorem below_up {w w5 wr : World} (h : Below w.heap.size w w5) (h2 : Below w5.heap.size w5 wr) : Below w.heap.size w wr := h.trans ⟨h2.os, h2.tape, h2.output, h2.size, fun k hk => h2.block k (Nat.lt_of_lt_of_le hk h.size)⟩
theorem inv_lt {l : List Pc} {t : List Int} {i j f : Nat} {s : Int} (h : GlobT.Inv l t i j s f) : s < i := by
  have := h.hlo
  by_cases hs : s < 0
  · omega
  · obtain ⟨n, rfl⟩ := Int.eq_ofNat_of_zero_le (show 0 ≤ s by omega)
    have := (h.hs n rfl).1
    omega
theorem meas_star (L T i j f : Nat) (s : Int) (h : s < i) (hi : i < L) (hs : -1 ≤ s) : ((L : Int) - (i : Int)).toNat * (T + 2) + (T - ((j : Int)).toNat) < ((L : Int) - s).toNat * (T + 2) + (T - ((f : Int)).toNat) := by
  have h1 : ((L : Int) - (i : Int)).toNat + 1 ≤ ((L : Int) - s).toNat := by omega
  have h2 := Nat.mul_le_mul_right (T + 2) h1
  rw [Nat.add_mul, Nat.one_mul] at h2
  omega
theorem meas_back (X T f : Nat) (hf : f < T) : X + (T - ((f : Int) + 1).toNat) < X + (T - ((f : Int)).toNat) := by omega
theorem eqN (w : World) (a b c d : Nat) (r : Bool) (hr : r = decide ((a, b, c, d) = (0, 0, 0, 0))) : (Op.equalIn 10000 67 (.agg #[.int .u64 (a : Nat), .int .u64 (b : Nat), .int .u64 (c : Nat), .int .u64 (d : Nat)]) (.agg #[.int .u64 0, .int .u64 0, .int .u64 0, .int .u64 0])).run Tryd.prog w = .ok r w := eqQ w a b c d 0 0 0 0 r hr
theorem eqA (w : World) (a b c d : Nat) (r : Bool) (hr : r = decide ((a, b, c, d) = allQ)) : (Op.equalIn 10000 67 (.agg #[.int .u64 (a : Nat), .int .u64 (b : Nat), .int .u64 (c : Nat), .int .u64 (d : Nat)]) (.agg #[.int .u64 18446744073709551615, .int .u64 18446744073709551615, .int .u64 18446744073709551615, .int .u64 18446744073709551615])).run Tryd.prog w = .ok r w := eqQ w a b c d _ _ _ _ r hr
theorem t_below {w' w5 : World} (h : (fun w' => Aside0 (Below w5.heap.size w5 w')) w') : Below w5.heap.size w5 w' := h.out
theorem s_below {w' : World} {ad ad1 : Addr} {i j n1 qa qb qc qd : Nat} {w5 : World} (h : (fun w' => w'.cell? (ad.add (i * 5)) = some (.bool false) ∧ w'.cell? ⟨(ad.add (i * 5)).block, (ad.add (i * 5)).off + 1, none⟩ = some (.int .u64 (qa : Nat)) ∧ w'.cell? ⟨(ad.add (i * 5)).block, (ad.add (i * 5)).off + 2, none⟩ = some (.int .u64 (qb : Nat)) ∧ w'.cell? ⟨(ad.add (i * 5)).block, (ad.add (i * 5)).off + 3, none⟩ = some (.int .u64 (qc : Nat)) ∧ w'.cell? ⟨(ad.add (i * 5)).block, (ad.add (i * 5)).off + 4, none⟩ = some (.int .u64 (qd : Nat)) ∧ w'.cell? (ad1.add j) = some (.int .u8 (n1 : Nat)) ∧ w'.cell? ⟨1, 0, none⟩ = some (.int .u64 18446744073709551615) ∧ w'.cell? ⟨1, 1, none⟩ = some (.int .u64 18446744073709551615) ∧ w'.cell? ⟨1, 2, none⟩ = some (.int .u64 18446744073709551615) ∧ w'.cell? ⟨1, 3, none⟩ = some (.int .u64 18446744073709551615) ∧ Aside0 (Below w5.heap.size w5 w')) w') : Below w5.heap.size w5 w' := h.2.2.2.2.2.2.2.2.2.2.out
theorem has_cells {w' : World} {ad ad1 : Addr} {i j n1 qa qb qc qd : Nat} {w5 : World} (h : (fun w' => w'.cell? (ad.add (i * 5)) = some (.bool false) ∧ w'.cell? ⟨(ad.add (i * 5)).block, (ad.add (i * 5)).off + 1, none⟩ = some (.int .u64 (qa : Nat)) ∧ w'.cell? ⟨(ad.add (i * 5)).block, (ad.add (i * 5)).off + 2, none⟩ = some (.int .u64 (qb : Nat)) ∧ w'.cell? ⟨(ad.add (i * 5)).block, (ad.add (i * 5)).off + 3, none⟩ = some (.int .u64 (qc : Nat)) ∧ w'.cell? ⟨(ad.add (i * 5)).block, (ad.add (i * 5)).off + 4, none⟩ = some (.int .u64 (qd : Nat)) ∧ w'.cell? (ad1.add j) = some (.int .u8 (n1 : Nat)) ∧ w'.cell? ⟨1, 0, none⟩ = some (.int .u64 18446744073709551615) ∧ w'.cell? ⟨1, 1, none⟩ = some (.int .u64 18446744073709551615) ∧ w'.cell? ⟨1, 2, none⟩ = some (.int .u64 18446744073709551615) ∧ w'.cell? ⟨1, 3, none⟩ = some (.int .u64 18446744073709551615) ∧ Aside0 (Below w5.heap.size w5 w')) w') : ∀ k, k < 4 → w'.cell? ⟨(ad.add (i * 5)).block, (ad.add (i * 5)).off + 1 + k, none⟩ = some (.int .u64 (wordOf (qa, qb, qc, qd) k : Nat)) := by
  intro k hk
  obtain ⟨_, h1, h2, h3, h4, _⟩ := h
  have : k = 0 ∨ k = 1 ∨ k = 2 ∨ k = 3 := by omega
  rcases this with rfl | rfl | rfl | rfl
  · exact h1
  · rw [show (ad.add (i * 5)).off + 1 + 1 = (ad.add (i * 5)).off + 2 by omega]; exact h2
  · rw [show (ad.add (i * 5)).off + 1 + 2 = (ad.add (i * 5)).off + 3 by omega]; exact h3
  · rw [show (ad.add (i * 5)).off + 1 + 3 = (ad.add (i * 5)).off + 4 by omega]; exact h4

set_option maxHeartbeats 8000000 in
theorem glob.calls (A : Option Addr) (c : Nat) (p : List Int) (A1 : Option Addr) (c1 : Nat) (t : List Int) (w : World) (hr : Kd.C (Kd.int .u8) w A p.length p) (hc : p.length ≤ c) (hl : ∀ x ∈ p, 0 ≤ x ∧ x < 256) (hlen : p.length ≤ 1000000000000)
    (hr1 : Kd.C (Kd.int .u8) w A1 t.length t) (hc1 : t.length ≤ c1) (hl1 : ∀ x ∈ t, 0 ≤ x ∧ x < 256) (hlen1 : t.length ≤ 140737488355328) (hG : GL w) :
    Calls Tryd.prog 14 #[.slice A p.length c, .slice A1 t.length c1] w fun e w' => e = .returned (.bool (globL p t)) ∧ Below w.heap.size w w' := by
  have hpc := pieces.calls A c p w hr hc hl hlen hG
  have HR1 := Aside0.mk hr1
  have HL1 := Aside0.mk hl1
  have HG := Aside0.mk hG
  unfold globL
  generalize piecesL p = l at hpc
  clear hr1 hl1 hG hr hl
  go_enter Tryd.func14, Tryd.ntmps14
  go_wp2_with fail
  go_step3
  go_wp2_with fail
  refine hpc.mono ?_
  rintro e w5 ⟨v, rfl, hR, hq, hL, hb5⟩
  obtain ⟨A2, c2, rfl, hc2, hC2⟩ := Kd.R_reads hR
  have HC2 := Aside0.mk hC2
  have HQ := Aside0.mk hq
  have HB5 := Aside0.mk hb5
  clear hR hq hb5 hC2 hpc
  go_wp2_with fail
  go_loopw [16] (fun v16 wr => ∃ i : Nat, v16 = .int .i64 i ∧ i ≤ l.length ∧ Aside0 (Below w5.heap.size w5 wr)) (fun v16 wr => l.length - (intOf v16).toNat)
  case atStart => exact ⟨0, rfl, by omega, ⟨Below.refl _ _⟩⟩
  case round =>
    obtain ⟨i, rfl, hi, HB⟩ := hrel
    by_cases hlt : i < l.length
    · have c1 : decide ((i : Int) < l.length) = true := decide_eq_true (by omega)
      have c1' : decide (i < l.length) = true := decide_eq_true hlt
      obtain ⟨ad, had⟩ := pc_some HC2.out (by omega)
      subst had
      obtain ⟨x, hx⟩ : ∃ x, l[i]? = some x := ⟨_, List.getElem?_eq_getElem hlt⟩
      have hK := pc_cells (Kd.C_below HC2.out HB.out) i x hx
      have HQX := Aside0.mk (HQ.out x (List.mem_of_getElem? hx))
      have HX := Aside0.mk hx
      obtain ⟨st, qa, qb, qc, qd⟩ := x
      have k0 : wr.cell? (ad.add (i * 5)) = some (.bool st) := pc_cell0 (Kd.C_below HC2.out HB.out) i _ HX.out
      have k1 : wr.cell? ⟨(ad.add (i * 5)).block, (ad.add (i * 5)).off + 1, none⟩ = some (.int .u64 (qa : Nat)) := hK 1 (.int .u64 (qa : Nat)) (by decide) rfl
      have k2 : wr.cell? ⟨(ad.add (i * 5)).block, (ad.add (i * 5)).off + 2, none⟩ = some (.int .u64 (qb : Nat)) := hK 2 (.int .u64 (qb : Nat)) (by decide) rfl
      have k3 : wr.cell? ⟨(ad.add (i * 5)).block, (ad.add (i * 5)).off + 3, none⟩ = some (.int .u64 (qc : Nat)) := hK 3 (.int .u64 (qc : Nat)) (by decide) rfl
      have k4 : wr.cell? ⟨(ad.add (i * 5)).block, (ad.add (i * 5)).off + 4, none⟩ = some (.int .u64 (qd : Nat)) := hK 4 (.int .u64 (qd : Nat)) (by decide) rfl
      have HGr := Aside0.mk (HG.out.below (below_up HB5.out HB.out))
      clear hK hx
      obtain ⟨g0, g1, g2, g3⟩ := HGr.out.1
      have m0 := Lib.cell?_alloc_some (.cells #[.bool st, .int .u64 (qa : Nat), .int .u64 (qb : Nat), .int .u64 (qc : Nat), .int .u64 (qd : Nat)] 69) g0
      have m1 := Lib.cell?_alloc_some (.cells #[.bool st, .int .u64 (qa : Nat), .int .u64 (qb : Nat), .int .u64 (qc : Nat), .int .u64 (qd : Nat)] 69) g1
      have m2 := Lib.cell?_alloc_some (.cells #[.bool st, .int .u64 (qa : Nat), .int .u64 (qb : Nat), .int .u64 (qc : Nat), .int .u64 (qd : Nat)] 69) g2
      have m3 := Lib.cell?_alloc_some (.cells #[.bool st, .int .u64 (qa : Nat), .int .u64 (qb : Nat), .int .u64 (qc : Nat), .int .u64 (qd : Nat)] 69) g3
      clear g0 g1 g2 g3
      cases st
      · by_cases hn : (qa, qb, qc, qd) = (0, 0, 0, 0)
        · have heq := fun W => eqN W qa qb qc qd true (by rw [decide_eq_true hn])
          go_wp2_with fail
          go_ret
          refine ⟨congrArg (fun b => Ending.returned (.bool b)) (fits_none l t _ (List.mem_of_getElem? HX.out) rfl hn).symm, below_alloc (below_up HB5.out HB.out) _⟩
        · have heq := fun W => eqN W qa qb qc qd false (by rw [decide_eq_false hn])
          clear hn
          go_wp2_with fail
          go_roundw
          case rel => exact ⟨i + 1, by go_num, by omega, ⟨below_alloc HB.out _⟩⟩
          case measure => simp [intOf]; omega
      · go_wp2_with fail
        go_roundw
        case rel => exact ⟨i + 1, by go_num, by omega, ⟨below_alloc HB.out _⟩⟩
        case measure => simp [intOf]; omega
    · have c1 : decide ((i : Int) < l.length) = false := decide_eq_false (by omega)
      have c1' : decide (i < l.length) = false := decide_eq_false (by omega)
      clear hi hlt
      go_wp2_with fail
      go_step3
      go_wp2_with fail
      go_loopw [8, 9, 10, 11] (fun v8 v9 v10 v11 wo => ∃ (i j f : Nat) (s : Int), v8 = .int .i64 i ∧ v9 = .int .i64 j ∧ v10 = .int .i64 s ∧ v11 = .int .i64 f ∧ Inv l t i j s f ∧ Aside0 (Below w5.heap.size w5 wo)) (fun v8 v9 v10 v11 wo => (l.length - intOf v10).toNat * (t.length + 2) + (t.length - (intOf v11).toNat))
      case atStart => exact ⟨0, 0, 0, -1, rfl, rfl, rfl, rfl, Inv.start l t, HB⟩
      case round =>
        obtain ⟨i0, j0, f, s, rfl, rfl, rfl, rfl, HI0, HB0⟩ := hrel
        go_wp2_with fail
        go_loopw [8, 9, 11] (fun v8 v9 v11 wr => ∃ (i j : Nat), v8 = .int .i64 i ∧ v9 = .int .i64 j ∧ v11 = .int .i64 f ∧ Inv l t i j s f ∧ Aside0 (Below w5.heap.size w5 wr)) (fun v8 v9 v11 wr => l.length - (intOf v8).toNat)
        case atStart => exact ⟨i0, j0, rfl, rfl, rfl, HI0, HB0⟩
        case round =>
          obtain ⟨i, j, rfl, rfl, rfl, HI, HB⟩ := hrel
          have hil := HI.hi
          have hjl := HI.hj
          have hfl := HI.hf
          have hslo := HI.hlo
          have hshi := HI.hhi
          have hsi := inv_lt HI
          have HJ := Aside0.mk HI
          clear HI
          have HI := HJ
          clear HJ
          by_cases hlt : i < l.length
          · have c1 : decide ((i : Int) < l.length) = true := decide_eq_true (by omega)
            have c1' : decide (i < l.length) = true := decide_eq_true hlt
            obtain ⟨ad, had⟩ := pc_some HC2.out (by omega)
            subst had
            obtain ⟨x, hx⟩ : ∃ x, l[i]? = some x := ⟨_, List.getElem?_eq_getElem hlt⟩
            have hK := pc_cells (Kd.C_below HC2.out HB.out) i x hx
            have HQX := Aside0.mk (HQ.out x (List.mem_of_getElem? hx))
            have HX := Aside0.mk hx
            obtain ⟨st, qa, qb, qc, qd⟩ := x
            have k0 : wr.cell? (ad.add (i * 5)) = some (.bool st) := pc_cell0 (Kd.C_below HC2.out HB.out) i _ HX.out
            have k1 : wr.cell? ⟨(ad.add (i * 5)).block, (ad.add (i * 5)).off + 1, none⟩ = some (.int .u64 (qa : Nat)) := hK 1 (.int .u64 (qa : Nat)) (by decide) rfl
            have k2 : wr.cell? ⟨(ad.add (i * 5)).block, (ad.add (i * 5)).off + 2, none⟩ = some (.int .u64 (qb : Nat)) := hK 2 (.int .u64 (qb : Nat)) (by decide) rfl
            have k3 : wr.cell? ⟨(ad.add (i * 5)).block, (ad.add (i * 5)).off + 3, none⟩ = some (.int .u64 (qc : Nat)) := hK 3 (.int .u64 (qc : Nat)) (by decide) rfl
            have k4 : wr.cell? ⟨(ad.add (i * 5)).block, (ad.add (i * 5)).off + 4, none⟩ = some (.int .u64 (qd : Nat)) := hK 4 (.int .u64 (qd : Nat)) (by decide) rfl
            have HGr := Aside0.mk (HG.out.below (below_up HB5.out HB.out))
            clear hK hx
            cases st
            · by_cases hjt : j < t.length
              · have c2 : decide ((j : Int) < t.length) = true := decide_eq_true (by omega)
                have c2' : decide (j < t.length) = true := decide_eq_true hjt
                have HRt := Aside0.mk (Kd.C_below HR1.out (below_up HB5.out HB.out))
                obtain ⟨ad1, had, hcT⟩ := Kd.at_int HRt.out (j : Int) (by omega) (by omega)
                subst had
                have hr8 : 0 ≤ rd t (j : Int) ∧ rd t (j : Int) < 256 := by
                  unfold rd
                  rw [Int.toNat_natCast, List.getD_eq_getElem?_getD, List.getElem?_eq_getElem hjt]
                  exact HL1.out _ (List.getElem_mem hjt)
                obtain ⟨n1, hn1⟩ := Int.eq_ofNat_of_zero_le hr8.1
                have hn1' : n1 < 256 := by omega
                have HTJ := Aside0.mk (show t[j]? = some (n1 : Int) by rw [← hn1, List.getElem?_eq_getElem hjt]; unfold rd; rw [Int.toNat_natCast, List.getD_eq_getElem?_getD, List.getElem?_eq_getElem hjt]; rfl)
                rw [hn1] at hcT
                simp only [Int.toNat_natCast] at hcT
                clear hn1 hr8
                obtain ⟨_, g0, g1, g2, g3⟩ := HGr.out
                have hS0 : ((fun w' => w'.cell? (ad.add (i * 5)) = some (.bool false) ∧ w'.cell? ⟨(ad.add (i * 5)).block, (ad.add (i * 5)).off + 1, none⟩ = some (.int .u64 (qa : Nat)) ∧ w'.cell? ⟨(ad.add (i * 5)).block, (ad.add (i * 5)).off + 2, none⟩ = some (.int .u64 (qb : Nat)) ∧ w'.cell? ⟨(ad.add (i * 5)).block, (ad.add (i * 5)).off + 3, none⟩ = some (.int .u64 (qc : Nat)) ∧ w'.cell? ⟨(ad.add (i * 5)).block, (ad.add (i * 5)).off + 4, none⟩ = some (.int .u64 (qd : Nat)) ∧ w'.cell? (ad1.add j) = some (.int .u8 (n1 : Nat)) ∧ w'.cell? ⟨1, 0, none⟩ = some (.int .u64 18446744073709551615) ∧ w'.cell? ⟨1, 1, none⟩ = some (.int .u64 18446744073709551615) ∧ w'.cell? ⟨1, 2, none⟩ = some (.int .u64 18446744073709551615) ∧ w'.cell? ⟨1, 3, none⟩ = some (.int .u64 18446744073709551615) ∧ Aside0 (Below w5.heap.size w5 w'))) wr.drew := ⟨k0, k1, k2, k3, k4, hcT, g0, g1, g2, g3, ⟨HB.out.drew⟩⟩
                by_cases hq : (qa, qb, qc, qd) = allQ
                · have heq := fun W => eqA W qa qb qc qd true (by rw [decide_eq_true hq])
                  have HT := Aside0.mk (show has (qa, qb, qc, qd) n1 = true by rw [hq]; exact has_allQ n1 hn1')
                  clear hq
                  go_upto_region 10 with (fail)
                  refine wp_region_held_drew (S := (fun w' => w'.cell? (ad.add (i * 5)) = some (.bool false) ∧ w'.cell? ⟨(ad.add (i * 5)).block, (ad.add (i * 5)).off + 1, none⟩ = some (.int .u64 (qa : Nat)) ∧ w'.cell? ⟨(ad.add (i * 5)).block, (ad.add (i * 5)).off + 2, none⟩ = some (.int .u64 (qb : Nat)) ∧ w'.cell? ⟨(ad.add (i * 5)).block, (ad.add (i * 5)).off + 3, none⟩ = some (.int .u64 (qc : Nat)) ∧ w'.cell? ⟨(ad.add (i * 5)).block, (ad.add (i * 5)).off + 4, none⟩ = some (.int .u64 (qd : Nat)) ∧ w'.cell? (ad1.add j) = some (.int .u8 (n1 : Nat)) ∧ w'.cell? ⟨1, 0, none⟩ = some (.int .u64 18446744073709551615) ∧ w'.cell? ⟨1, 1, none⟩ = some (.int .u64 18446744073709551615) ∧ w'.cell? ⟨1, 2, none⟩ = some (.int .u64 18446744073709551615) ∧ w'.cell? ⟨1, 3, none⟩ = some (.int .u64 18446744073709551615) ∧ Aside0 (Below w5.heap.size w5 w'))) (by kernel_rfl) (by exact hS0) (fun hHeld => ?_)
                  refine wpAnyH_take (i := 0) (oi := ({ dst := some 54, op := Go.Op.move (Go.Operand.tmp 8), type := 3, pos := "match.go:111", after := #[], guard := none } : Oper)) (v := ?va10) rfl (by kernel_rfl) (by kernel_rfl) (by kernel_rfl) (fun _ _ _ h => h) (Or.inl ⟨by rfl, ?hya10⟩) (by assumption) ?resta10
                  case hya10 => (intro w hSw; (try dsimp only at hSw); go_simp; (try with_reducible rfl))
                  (try simp only [Act.put, List.setIfInBounds_toArray, List.set_cons_zero, List.set_cons_succ])
                  refine wpAnyH_take (i := 1) (oi := ({ dst := some 55, op := Go.Op.move (Go.Operand.tmp 5), type := 63, pos := "match.go:111", after := #[], guard := none } : Oper)) (v := ?va11) rfl (by kernel_rfl) (by kernel_rfl) (by kernel_rfl) (fun _ _ _ h => h) (Or.inl ⟨by rfl, ?hya11⟩) (by assumption) ?resta11
                  case hya11 => (intro w hSw; (try dsimp only at hSw); go_simp; (try with_reducible rfl))
                  (try simp only [Act.put, List.setIfInBounds_toArray, List.set_cons_zero, List.set_cons_succ])
                  refine wpAnyH_take (i := 2) (oi := ({ dst := some 56, op := Go.Op.call { callee := Go.Callee.builtin Go.Builtin.len, args := #[Go.Operand.tmp 55], argTypes := #[63] }, type := 3, pos := "match.go:111", after := #[{ on := 1, ground := Go.Ground.data }], guard := none } : Oper)) (v := ?va12) rfl (by kernel_rfl) (by kernel_rfl) (by kernel_rfl) (fun _ _ _ h => h) (Or.inl ⟨by rfl, ?hya12⟩) (by assumption) ?resta12
                  case hya12 => (intro w hSw; (try dsimp only at hSw); go_simp; (try with_reducible rfl))
                  (try simp only [Act.put, List.setIfInBounds_toArray, List.set_cons_zero, List.set_cons_succ])
                  refine wpAnyH_take (i := 3) (oi := ({ dst := some 57, op := Go.Op.binOp Go.BinOp.lss 3 (Go.Operand.tmp 54) (Go.Operand.tmp 56) 3, type := 4, pos := "match.go:111", after := #[{ on := 0, ground := Go.Ground.data }, { on := 2, ground := Go.Ground.data }], guard := none } : Oper)) (v := ?va13) rfl (by kernel_rfl) (by kernel_rfl) (by kernel_rfl) (fun _ _ _ h => h) (Or.inl ⟨by rfl, ?hya13⟩) (by assumption) ?resta13
                  case hya13 => (intro w hSw; (try dsimp only at hSw); go_simp; (try with_reducible rfl))
                  (try simp only [Act.put, List.setIfInBounds_toArray, List.set_cons_zero, List.set_cons_succ])
                  refine wpAnyH_take (i := 4) (oi := ({ dst := some 58, op := Go.Op.move (Go.Operand.tmp 57), type := 4, pos := "match.go:111", after := #[{ on := 3, ground := Go.Ground.data }], guard := none } : Oper)) (v := ?va14) rfl (by kernel_rfl) (by kernel_rfl) (by kernel_rfl) (fun _ _ _ h => h) (Or.inl ⟨by rfl, ?hya14⟩) (by assumption) ?resta14
                  case hya14 => (intro w hSw; (try dsimp only at hSw); go_simp; (try with_reducible rfl))
                  (try simp only [Act.put, List.setIfInBounds_toArray, List.set_cons_zero, List.set_cons_succ])
                  refine wpAnyH_take (i := 5) (oi := ({ dst := some 59, op := Go.Op.move (Go.Operand.tmp 9), type := 3, pos := "match.go:111", after := #[{ on := 4, ground := Go.Ground.guard }], guard := some (4, true) } : Oper)) (v := ?va15) rfl (by kernel_rfl) (by kernel_rfl) (by kernel_rfl) (fun _ _ _ h => h) (Or.inl ⟨by rfl, ?hya15⟩) (by assumption) ?resta15
                  case hya15 => (intro w hSw; (try dsimp only at hSw); go_simp; (try with_reducible rfl))
                  (try simp only [Act.put, List.setIfInBounds_toArray, List.set_cons_zero, List.set_cons_succ])
                  refine wpAnyH_take (i := 6) (oi := ({ dst := some 60, op := Go.Op.move (Go.Operand.tmp 1), type := 22, pos := "match.go:111", after := #[{ on := 4, ground := Go.Ground.guard }], guard := some (4, true) } : Oper)) (v := ?va16) rfl (by kernel_rfl) (by kernel_rfl) (by kernel_rfl) (fun _ _ _ h => h) (Or.inl ⟨by rfl, ?hya16⟩) (by assumption) ?resta16
                  case hya16 => (intro w hSw; (try dsimp only at hSw); go_simp; (try with_reducible rfl))
                  (try simp only [Act.put, List.setIfInBounds_toArray, List.set_cons_zero, List.set_cons_succ])
                  refine wpAnyH_take (i := 7) (oi := ({ dst := some 61, op := Go.Op.call { callee := Go.Callee.builtin Go.Builtin.len, args := #[Go.Operand.tmp 60], argTypes := #[22] }, type := 3, pos := "match.go:111", after := #[{ on := 6, ground := Go.Ground.data }, { on := 4, ground := Go.Ground.guard }], guard := some (4, true) } : Oper)) (v := ?va17) rfl (by kernel_rfl) (by kernel_rfl) (by kernel_rfl) (fun _ _ _ h => h) (Or.inl ⟨by rfl, ?hya17⟩) (by assumption) ?resta17
                  case hya17 => (intro w hSw; (try dsimp only at hSw); go_simp; (try with_reducible rfl))
                  (try simp only [Act.put, List.setIfInBounds_toArray, List.set_cons_zero, List.set_cons_succ])
                  refine wpAnyH_take (i := 8) (oi := ({ dst := some 62, op := Go.Op.binOp Go.BinOp.lss 3 (Go.Operand.tmp 59) (Go.Operand.tmp 61) 3, type := 4, pos := "match.go:111", after := #[{ on := 5, ground := Go.Ground.data }, { on := 7, ground := Go.Ground.data }, { on := 4, ground := Go.Ground.guard }], guard := some (4, true) } : Oper)) (v := ?va18) rfl (by kernel_rfl) (by kernel_rfl) (by kernel_rfl) (fun _ _ _ h => h) (Or.inl ⟨by rfl, ?hya18⟩) (by assumption) ?resta18
                  case hya18 => (intro w hSw; (try dsimp only at hSw); go_simp; (try with_reducible rfl))
                  (try simp only [Act.put, List.setIfInBounds_toArray, List.set_cons_zero, List.set_cons_succ])
                  refine wpAnyH_take (i := 9) (oi := ({ dst := some 63, op := Go.Op.pick (Go.Operand.tmp 58) (Go.Operand.tmp 62) (Go.Operand.const (Go.Value.bool false)), type := 4, pos := "match.go:111", after := #[{ on := 4, ground := Go.Ground.data }, { on := 8, ground := Go.Ground.data }], guard := none } : Oper)) (v := ?va19) rfl (by kernel_rfl) (by kernel_rfl) (by kernel_rfl) (fun _ _ _ h => h) (Or.inl ⟨by rfl, ?hya19⟩) (by assumption) ?resta19
                  case hya19 => (intro w hSw; (try dsimp only at hSw); go_simp; (try with_reducible rfl))
                  (try simp only [Act.put, List.setIfInBounds_toArray, List.set_cons_zero, List.set_cons_succ])
                  refine wpAnyH_take (i := 10) (oi := ({ dst := some 64, op := Go.Op.move (Go.Operand.tmp 63), type := 4, pos := "match.go:111", after := #[{ on := 9, ground := Go.Ground.data }, { on := 4, ground := Go.Ground.chain }], guard := none } : Oper)) (v := ?va110) rfl (by kernel_rfl) (by kernel_rfl) (by kernel_rfl) (fun _ _ _ h => h) (Or.inl ⟨by rfl, ?hya110⟩) (by assumption) ?resta110
                  case hya110 => (intro w hSw; (try dsimp only at hSw); go_simp; (try with_reducible rfl))
                  (try simp only [Act.put, List.setIfInBounds_toArray, List.set_cons_zero, List.set_cons_succ])
                  refine wpAnyH_take (i := 11) (oi := ({ dst := some 65, op := Go.Op.move (Go.Operand.tmp 5), type := 63, pos := "match.go:111", after := #[{ on := 10, ground := Go.Ground.guard }], guard := some (10, true) } : Oper)) (v := ?va111) rfl (by kernel_rfl) (by kernel_rfl) (by kernel_rfl) (fun _ _ _ h => h) (Or.inl ⟨by rfl, ?hya111⟩) (by assumption) ?resta111
                  case hya111 => (intro w hSw; (try dsimp only at hSw); go_simp; (try with_reducible rfl))
                  (try simp only [Act.put, List.setIfInBounds_toArray, List.set_cons_zero, List.set_cons_succ])
                  refine wpAnyH_take (i := 12) (oi := ({ dst := some 66, op := Go.Op.move (Go.Operand.tmp 8), type := 3, pos := "match.go:111", after := #[{ on := 10, ground := Go.Ground.guard }], guard := some (10, true) } : Oper)) (v := ?va112) rfl (by kernel_rfl) (by kernel_rfl) (by kernel_rfl) (fun _ _ _ h => h) (Or.inl ⟨by rfl, ?hya112⟩) (by assumption) ?resta112
                  case hya112 => (intro w hSw; (try dsimp only at hSw); go_simp; (try with_reducible rfl))
                  (try simp only [Act.put, List.setIfInBounds_toArray, List.set_cons_zero, List.set_cons_succ])
                  refine wpAnyH_take (i := 13) (oi := ({ dst := some 67, op := Go.Op.indexAddr 63 (Go.Operand.tmp 65) (Go.Operand.tmp 66), type := 0, pos := "match.go:111", after := #[{ on := 11, ground := Go.Ground.data }, { on := 12, ground := Go.Ground.data }, { on := 10, ground := Go.Ground.guard }], guard := some (10, true) } : Oper)) (v := ?va113) rfl (by kernel_rfl) (by kernel_rfl) (by kernel_rfl) (fun _ _ _ h => h) (Or.inl ⟨by rfl, ?hya113⟩) (by assumption) ?resta113
                  case hya113 => (intro w hSw; (try dsimp only at hSw); go_simp; (try with_reducible rfl))
                  (try simp only [Act.put, List.setIfInBounds_toArray, List.set_cons_zero, List.set_cons_succ])
                  refine wpAnyH_take (i := 14) (oi := ({ dst := some 68, op := Go.Op.fieldAddr 69 (Go.Operand.tmp 67) 1, type := 0, pos := "match.go:111", after := #[{ on := 13, ground := Go.Ground.data }, { on := 10, ground := Go.Ground.guard }], guard := some (10, true) } : Oper)) (v := ?va114) rfl (by kernel_rfl) (by kernel_rfl) (by kernel_rfl) (fun _ _ _ h => h) (Or.inl ⟨by rfl, ?hya114⟩) (by assumption) ?resta114
                  case hya114 => (intro w hSw; (try dsimp only at hSw); go_simp; (try with_reducible rfl))
                  (try simp only [Act.put, List.setIfInBounds_toArray, List.set_cons_zero, List.set_cons_succ])
                  refine wpAnyH_take (i := 15) (oi := ({ dst := some 69, op := Go.Op.load 67 (Go.Operand.tmp 68), type := 67, pos := "match.go:111", after := #[{ on := 14, ground := Go.Ground.data }, { on := 10, ground := Go.Ground.guard }], guard := some (10, true) } : Oper)) (v := ?va115) rfl (by kernel_rfl) (by kernel_rfl) (by kernel_rfl) (fun _ _ _ h => h) (Or.inl ⟨by rfl, ?hya115⟩) (by assumption) ?resta115
                  case hya115 => (intro w hSw; (try dsimp only at hSw); go_simp; (try with_reducible rfl))
                  (try simp only [Act.put, List.setIfInBounds_toArray, List.set_cons_zero, List.set_cons_succ])
                  refine wpAnyH_take (i := 16) (oi := ({ dst := some 70, op := Go.Op.load 67 (Go.Operand.global 1), type := 67, pos := "match.go:111", after := #[{ on := 10, ground := Go.Ground.guard }], guard := some (10, true) } : Oper)) (v := ?va116) rfl (by kernel_rfl) (by kernel_rfl) (by kernel_rfl) (fun _ _ _ h => h) (Or.inl ⟨by rfl, ?hya116⟩) (by assumption) ?resta116
                  case hya116 => (intro w hSw; (try dsimp only at hSw); go_simp; (try with_reducible rfl))
                  (try simp only [Act.put, List.setIfInBounds_toArray, List.set_cons_zero, List.set_cons_succ])
                  refine wpAnyH_take (i := 17) (oi := ({ dst := some 71, op := Go.Op.binOp Go.BinOp.eql 67 (Go.Operand.tmp 69) (Go.Operand.tmp 70) 67, type := 4, pos := "match.go:111", after := #[{ on := 15, ground := Go.Ground.data }, { on := 16, ground := Go.Ground.data }, { on := 10, ground := Go.Ground.guard }], guard := some (10, true) } : Oper)) (v := ?va117) rfl (by kernel_rfl) (by kernel_rfl) (by kernel_rfl) (fun _ _ _ h => h) (Or.inl ⟨by rfl, ?hya117⟩) (by assumption) ?resta117
                  case hya117 => (intro w hSw; (try dsimp only at hSw); go_simp; (try with_reducible rfl))
                  (try simp only [Act.put, List.setIfInBounds_toArray, List.set_cons_zero, List.set_cons_succ])
                  refine wpAnyH_take (i := 18) (oi := ({ dst := some 72, op := Go.Op.move (Go.Operand.tmp 71), type := 4, pos := "match.go:111", after := #[{ on := 17, ground := Go.Ground.data }, { on := 10, ground := Go.Ground.chain }, { on := 10, ground := Go.Ground.guard }], guard := some (10, true) } : Oper)) (v := ?va118) rfl (by kernel_rfl) (by kernel_rfl) (by kernel_rfl) (fun _ _ _ h => h) (Or.inl ⟨by rfl, ?hya118⟩) (by assumption) ?resta118
                  case hya118 => (intro w hSw; (try dsimp only at hSw); go_simp; (try with_reducible rfl))
                  (try simp only [Act.put, List.setIfInBounds_toArray, List.set_cons_zero, List.set_cons_succ])
                  refine wpAnyH_take (i := 19) (oi := ({ dst := some 73, op := Go.Op.move (Go.Operand.tmp 5), type := 63, pos := "match.go:111", after := #[{ on := 18, ground := Go.Ground.guard }], guard := some (18, false) } : Oper)) (v := undef) rfl (by kernel_rfl) (by kernel_rfl) (by kernel_rfl) (fun _ _ _ h => h) (Or.inr ⟨by rfl, rfl⟩) (by assumption) ?_
                  (try simp only [Act.put, List.setIfInBounds_toArray, List.set_cons_zero, List.set_cons_succ])
                  refine wpAnyH_take (i := 20) (oi := ({ dst := some 74, op := Go.Op.move (Go.Operand.tmp 8), type := 3, pos := "match.go:111", after := #[{ on := 18, ground := Go.Ground.guard }], guard := some (18, false) } : Oper)) (v := undef) rfl (by kernel_rfl) (by kernel_rfl) (by kernel_rfl) (fun _ _ _ h => h) (Or.inr ⟨by rfl, rfl⟩) (by assumption) ?_
                  (try simp only [Act.put, List.setIfInBounds_toArray, List.set_cons_zero, List.set_cons_succ])
                  refine wpAnyH_take (i := 21) (oi := ({ dst := some 75, op := Go.Op.indexAddr 63 (Go.Operand.tmp 73) (Go.Operand.tmp 74), type := 0, pos := "match.go:111", after := #[{ on := 19, ground := Go.Ground.data }, { on := 20, ground := Go.Ground.data }, { on := 18, ground := Go.Ground.guard }], guard := some (18, false) } : Oper)) (v := undef) rfl (by kernel_rfl) (by kernel_rfl) (by kernel_rfl) (fun _ _ _ h => h) (Or.inr ⟨by rfl, rfl⟩) (by assumption) ?_
                  (try simp only [Act.put, List.setIfInBounds_toArray, List.set_cons_zero, List.set_cons_succ])
                  refine wpAnyH_take (i := 22) (oi := ({ dst := some 76, op := Go.Op.fieldAddr 69 (Go.Operand.tmp 75) 1, type := 0, pos := "match.go:111", after := #[{ on := 21, ground := Go.Ground.data }, { on := 18, ground := Go.Ground.guard }], guard := some (18, false) } : Oper)) (v := undef) rfl (by kernel_rfl) (by kernel_rfl) (by kernel_rfl) (fun _ _ _ h => h) (Or.inr ⟨by rfl, rfl⟩) (by assumption) ?_
                  (try simp only [Act.put, List.setIfInBounds_toArray, List.set_cons_zero, List.set_cons_succ])
                  refine wpAnyH_take (i := 23) (oi := ({ dst := some 77, op := Go.Op.move (Go.Operand.tmp 1), type := 22, pos := "match.go:111", after := #[{ on := 18, ground := Go.Ground.guard }], guard := some (18, false) } : Oper)) (v := undef) rfl (by kernel_rfl) (by kernel_rfl) (by kernel_rfl) (fun _ _ _ h => h) (Or.inr ⟨by rfl, rfl⟩) (by assumption) ?_
                  (try simp only [Act.put, List.setIfInBounds_toArray, List.set_cons_zero, List.set_cons_succ])
                  refine wpAnyH_take (i := 24) (oi := ({ dst := some 78, op := Go.Op.move (Go.Operand.tmp 9), type := 3, pos := "match.go:111", after := #[{ on := 18, ground := Go.Ground.guard }], guard := some (18, false) } : Oper)) (v := undef) rfl (by kernel_rfl) (by kernel_rfl) (by kernel_rfl) (fun _ _ _ h => h) (Or.inr ⟨by rfl, rfl⟩) (by assumption) ?_
                  (try simp only [Act.put, List.setIfInBounds_toArray, List.set_cons_zero, List.set_cons_succ])
                  refine wpAnyH_take (i := 25) (oi := ({ dst := some 79, op := Go.Op.indexAddr 22 (Go.Operand.tmp 77) (Go.Operand.tmp 78), type := 0, pos := "match.go:111", after := #[{ on := 23, ground := Go.Ground.data }, { on := 24, ground := Go.Ground.data }, { on := 18, ground := Go.Ground.guard }], guard := some (18, false) } : Oper)) (v := undef) rfl (by kernel_rfl) (by kernel_rfl) (by kernel_rfl) (fun _ _ _ h => h) (Or.inr ⟨by rfl, rfl⟩) (by assumption) ?_
                  (try simp only [Act.put, List.setIfInBounds_toArray, List.set_cons_zero, List.set_cons_succ])
                  refine wpAnyH_take (i := 26) (oi := ({ dst := some 80, op := Go.Op.load 5 (Go.Operand.tmp 79), type := 5, pos := "match.go:111", after := #[{ on := 25, ground := Go.Ground.data }, { on := 18, ground := Go.Ground.guard }], guard := some (18, false) } : Oper)) (v := undef) rfl (by kernel_rfl) (by kernel_rfl) (by kernel_rfl) (fun _ _ _ h => h) (Or.inr ⟨by rfl, rfl⟩) (by assumption) ?_
                  (try simp only [Act.put, List.setIfInBounds_toArray, List.set_cons_zero, List.set_cons_succ])
                  refine wpAnyH_take (i := 27) (oi := ({ dst := some 81, op := Go.Op.call { callee := Go.Callee.value (Go.Operand.func 28), args := #[Go.Operand.tmp 76, Go.Operand.tmp 80], argTypes := #[67, 5] }, type := 4, pos := "match.go:111", after := #[{ on := 22, ground := Go.Ground.data }, { on := 26, ground := Go.Ground.data }, { on := 18, ground := Go.Ground.chain }, { on := 18, ground := Go.Ground.guard }], guard := some (18, false) } : Oper)) (v := undef) rfl (by kernel_rfl) (by kernel_rfl) (by kernel_rfl) (fun _ _ _ h => h) (Or.inr ⟨by rfl, rfl⟩) (by assumption) ?_
                  (try simp only [Act.put, List.setIfInBounds_toArray, List.set_cons_zero, List.set_cons_succ])
                  refine wpAnyH_take (i := 28) (oi := ({ dst := some 82, op := Go.Op.pick (Go.Operand.tmp 72) (Go.Operand.const (Go.Value.bool true)) (Go.Operand.tmp 81), type := 4, pos := "match.go:111", after := #[{ on := 18, ground := Go.Ground.data }, { on := 27, ground := Go.Ground.data }, { on := 10, ground := Go.Ground.guard }], guard := some (10, true) } : Oper)) (v := ?va128) rfl (by kernel_rfl) (by kernel_rfl) (by kernel_rfl) (fun _ _ _ h => h) (Or.inl ⟨by rfl, ?hya128⟩) (by assumption) ?resta128
                  case hya128 => (intro w hSw; (try dsimp only at hSw); go_simp; (try with_reducible rfl))
                  (try simp only [Act.put, List.setIfInBounds_toArray, List.set_cons_zero, List.set_cons_succ])
                  refine wpAnyH_take (i := 29) (oi := ({ dst := some 83, op := Go.Op.pick (Go.Operand.tmp 64) (Go.Operand.tmp 82) (Go.Operand.const (Go.Value.bool false)), type := 4, pos := "match.go:111", after := #[{ on := 10, ground := Go.Ground.data }, { on := 28, ground := Go.Ground.data }], guard := none } : Oper)) (v := ?va129) rfl (by kernel_rfl) (by kernel_rfl) (by kernel_rfl) (fun _ _ _ h => h) (Or.inl ⟨by rfl, ?hya129⟩) (by assumption) ?resta129
                  case hya129 => (intro w hSw; (try dsimp only at hSw); go_simp; (try with_reducible rfl))
                  (try simp only [Act.put, List.setIfInBounds_toArray, List.set_cons_zero, List.set_cons_succ])
                  refine wpAnyH_done (by kernel_rfl) ?_ _
                  go_wp2_with fail
                  go_roundw
                  case rel => exact ⟨i + 1, j + 1, by go_num, by go_num, rfl, HI.out.go HX.out rfl HTJ.out HT.out, ⟨s_below (by assumption)⟩⟩
                  case measure => simp [intOf]; omega
                · have heq := fun W => eqA W qa qb qc qd false (by rw [decide_eq_false hq])
                  clear hq
                  cases hh : has (qa, qb, qc, qd) n1
                  · have HT := Aside0.mk hh
                    go_upto_region 10 with (fail)
                    refine wp_region_held_drew (S := (fun w' => w'.cell? (ad.add (i * 5)) = some (.bool false) ∧ w'.cell? ⟨(ad.add (i * 5)).block, (ad.add (i * 5)).off + 1, none⟩ = some (.int .u64 (qa : Nat)) ∧ w'.cell? ⟨(ad.add (i * 5)).block, (ad.add (i * 5)).off + 2, none⟩ = some (.int .u64 (qb : Nat)) ∧ w'.cell? ⟨(ad.add (i * 5)).block, (ad.add (i * 5)).off + 3, none⟩ = some (.int .u64 (qc : Nat)) ∧ w'.cell? ⟨(ad.add (i * 5)).block, (ad.add (i * 5)).off + 4, none⟩ = some (.int .u64 (qd : Nat)) ∧ w'.cell? (ad1.add j) = some (.int .u8 (n1 : Nat)) ∧ w'.cell? ⟨1, 0, none⟩ = some (.int .u64 18446744073709551615) ∧ w'.cell? ⟨1, 1, none⟩ = some (.int .u64 18446744073709551615) ∧ w'.cell? ⟨1, 2, none⟩ = some (.int .u64 18446744073709551615) ∧ w'.cell? ⟨1, 3, none⟩ = some (.int .u64 18446744073709551615) ∧ Aside0 (Below w5.heap.size w5 w'))) (by kernel_rfl) (by exact hS0) (fun hHeld => ?_)
                    refine wpAnyH_take (i := 0) (oi := ({ dst := some 54, op := Go.Op.move (Go.Operand.tmp 8), type := 3, pos := "match.go:111", after := #[], guard := none } : Oper)) (v := ?va20) rfl (by kernel_rfl) (by kernel_rfl) (by kernel_rfl) (fun _ _ _ h => h) (Or.inl ⟨by rfl, ?hya20⟩) (by assumption) ?resta20
                    case hya20 => (intro w hSw; (try dsimp only at hSw); go_simp; (try with_reducible rfl))
                    (try simp only [Act.put, List.setIfInBounds_toArray, List.set_cons_zero, List.set_cons_succ])
                    refine wpAnyH_take (i := 1) (oi := ({ dst := some 55, op := Go.Op.move (Go.Operand.tmp 5), type := 63, pos := "match.go:111", after := #[], guard := none } : Oper)) (v := ?va21) rfl (by kernel_rfl) (by kernel_rfl) (by kernel_rfl) (fun _ _ _ h => h) (Or.inl ⟨by rfl, ?hya21⟩) (by assumption) ?resta21
                    case hya21 => (intro w hSw; (try dsimp only at hSw); go_simp; (try with_reducible rfl))
                    (try simp only [Act.put, List.setIfInBounds_toArray, List.set_cons_zero, List.set_cons_succ])
                    refine wpAnyH_take (i := 2) (oi := ({ dst := some 56, op := Go.Op.call { callee := Go.Callee.builtin Go.Builtin.len, args := #[Go.Operand.tmp 55], argTypes := #[63] }, type := 3, pos := "match.go:111", after := #[{ on := 1, ground := Go.Ground.data }], guard := none } : Oper)) (v := ?va22) rfl (by kernel_rfl) (by kernel_rfl) (by kernel_rfl) (fun _ _ _ h => h) (Or.inl ⟨by rfl, ?hya22⟩) (by assumption) ?resta22
                    case hya22 => (intro w hSw; (try dsimp only at hSw); go_simp; (try with_reducible rfl))
                    (try simp only [Act.put, List.setIfInBounds_toArray, List.set_cons_zero, List.set_cons_succ])
                    refine wpAnyH_take (i := 3) (oi := ({ dst := some 57, op := Go.Op.binOp Go.BinOp.lss 3 (Go.Operand.tmp 54) (Go.Operand.tmp 56) 3, type := 4, pos := "match.go:111", after := #[{ on := 0, ground := Go.Ground.data }, { on := 2, ground := Go.Ground.data }], guard := none } : Oper)) (v := ?va23) rfl (by kernel_rfl) (by kernel_rfl) (by kernel_rfl) (fun _ _ _ h => h) (Or.inl ⟨by rfl, ?hya23⟩) (by assumption) ?resta23
                    case hya23 => (intro w hSw; (try dsimp only at hSw); go_simp; (try with_reducible rfl))
                    (try simp only [Act.put, List.setIfInBounds_toArray, List.set_cons_zero, List.set_cons_succ])
                    refine wpAnyH_take (i := 4) (oi := ({ dst := some 58, op := Go.Op.move (Go.Operand.tmp 57), type := 4, pos := "match.go:111", after := #[{ on := 3, ground := Go.Ground.data }], guard := none } : Oper)) (v := ?va24) rfl (by kernel_rfl) (by kernel_rfl) (by kernel_rfl) (fun _ _ _ h => h) (Or.inl ⟨by rfl, ?hya24⟩) (by assumption) ?resta24
                    case hya24 => (intro w hSw; (try dsimp only at hSw); go_simp; (try with_reducible rfl))
                    (try simp only [Act.put, List.setIfInBounds_toArray, List.set_cons_zero, List.set_cons_succ])
                    refine wpAnyH_take (i := 5) (oi := ({ dst := some 59, op := Go.Op.move (Go.Operand.tmp 9), type := 3, pos := "match.go:111", after := #[{ on := 4, ground := Go.Ground.guard }], guard := some (4, true) } : Oper)) (v := ?va25) rfl (by kernel_rfl) (by kernel_rfl) (by kernel_rfl) (fun _ _ _ h => h) (Or.inl ⟨by rfl, ?hya25⟩) (by assumption) ?resta25
                    case hya25 => (intro w hSw; (try dsimp only at hSw); go_simp; (try with_reducible rfl))
                    (try simp only [Act.put, List.setIfInBounds_toArray, List.set_cons_zero, List.set_cons_succ])
                    refine wpAnyH_take (i := 6) (oi := ({ dst := some 60, op := Go.Op.move (Go.Operand.tmp 1), type := 22, pos := "match.go:111", after := #[{ on := 4, ground := Go.Ground.guard }], guard := some (4, true) } : Oper)) (v := ?va26) rfl (by kernel_rfl) (by kernel_rfl) (by kernel_rfl) (fun _ _ _ h => h) (Or.inl ⟨by rfl, ?hya26⟩) (by assumption) ?resta26
                    case hya26 => (intro w hSw; (try dsimp only at hSw); go_simp; (try with_reducible rfl))
                    (try simp only [Act.put, List.setIfInBounds_toArray, List.set_cons_zero, List.set_cons_succ])
                    refine wpAnyH_take (i := 7) (oi := ({ dst := some 61, op := Go.Op.call { callee := Go.Callee.builtin Go.Builtin.len, args := #[Go.Operand.tmp 60], argTypes := #[22] }, type := 3, pos := "match.go:111", after := #[{ on := 6, ground := Go.Ground.data }, { on := 4, ground := Go.Ground.guard }], guard := some (4, true) } : Oper)) (v := ?va27) rfl (by kernel_rfl) (by kernel_rfl) (by kernel_rfl) (fun _ _ _ h => h) (Or.inl ⟨by rfl, ?hya27⟩) (by assumption) ?resta27
                    case hya27 => (intro w hSw; (try dsimp only at hSw); go_simp; (try with_reducible rfl))
                    (try simp only [Act.put, List.setIfInBounds_toArray, List.set_cons_zero, List.set_cons_succ])
                    refine wpAnyH_take (i := 8) (oi := ({ dst := some 62, op := Go.Op.binOp Go.BinOp.lss 3 (Go.Operand.tmp 59) (Go.Operand.tmp 61) 3, type := 4, pos := "match.go:111", after := #[{ on := 5, ground := Go.Ground.data }, { on := 7, ground := Go.Ground.data }, { on := 4, ground := Go.Ground.guard }], guard := some (4, true) } : Oper)) (v := ?va28) rfl (by kernel_rfl) (by kernel_rfl) (by kernel_rfl) (fun _ _ _ h => h) (Or.inl ⟨by rfl, ?hya28⟩) (by assumption) ?resta28
                    case hya28 => (intro w hSw; (try dsimp only at hSw); go_simp; (try with_reducible rfl))
                    (try simp only [Act.put, List.setIfInBounds_toArray, List.set_cons_zero, List.set_cons_succ])
                    refine wpAnyH_take (i := 9) (oi := ({ dst := some 63, op := Go.Op.pick (Go.Operand.tmp 58) (Go.Operand.tmp 62) (Go.Operand.const (Go.Value.bool false)), type := 4, pos := "match.go:111", after := #[{ on := 4, ground := Go.Ground.data }, { on := 8, ground := Go.Ground.data }], guard := none } : Oper)) (v := ?va29) rfl (by kernel_rfl) (by kernel_rfl) (by kernel_rfl) (fun _ _ _ h => h) (Or.inl ⟨by rfl, ?hya29⟩) (by assumption) ?resta29
                    case hya29 => (intro w hSw; (try dsimp only at hSw); go_simp; (try with_reducible rfl))
                    (try simp only [Act.put, List.setIfInBounds_toArray, List.set_cons_zero, List.set_cons_succ])
                    refine wpAnyH_take (i := 10) (oi := ({ dst := some 64, op := Go.Op.move (Go.Operand.tmp 63), type := 4, pos := "match.go:111", after := #[{ on := 9, ground := Go.Ground.data }, { on := 4, ground := Go.Ground.chain }], guard := none } : Oper)) (v := ?va210) rfl (by kernel_rfl) (by kernel_rfl) (by kernel_rfl) (fun _ _ _ h => h) (Or.inl ⟨by rfl, ?hya210⟩) (by assumption) ?resta210
                    case hya210 => (intro w hSw; (try dsimp only at hSw); go_simp; (try with_reducible rfl))
                    (try simp only [Act.put, List.setIfInBounds_toArray, List.set_cons_zero, List.set_cons_succ])
                    refine wpAnyH_take (i := 11) (oi := ({ dst := some 65, op := Go.Op.move (Go.Operand.tmp 5), type := 63, pos := "match.go:111", after := #[{ on := 10, ground := Go.Ground.guard }], guard := some (10, true) } : Oper)) (v := ?va211) rfl (by kernel_rfl) (by kernel_rfl) (by kernel_rfl) (fun _ _ _ h => h) (Or.inl ⟨by rfl, ?hya211⟩) (by assumption) ?resta211
                    case hya211 => (intro w hSw; (try dsimp only at hSw); go_simp; (try with_reducible rfl))
                    (try simp only [Act.put, List.setIfInBounds_toArray, List.set_cons_zero, List.set_cons_succ])
                    refine wpAnyH_take (i := 12) (oi := ({ dst := some 66, op := Go.Op.move (Go.Operand.tmp 8), type := 3, pos := "match.go:111", after := #[{ on := 10, ground := Go.Ground.guard }], guard := some (10, true) } : Oper)) (v := ?va212) rfl (by kernel_rfl) (by kernel_rfl) (by kernel_rfl) (fun _ _ _ h => h) (Or.inl ⟨by rfl, ?hya212⟩) (by assumption) ?resta212
                    case hya212 => (intro w hSw; (try dsimp only at hSw); go_simp; (try with_reducible rfl))
                    (try simp only [Act.put, List.setIfInBounds_toArray, List.set_cons_zero, List.set_cons_succ])
                    refine wpAnyH_take (i := 13) (oi := ({ dst := some 67, op := Go.Op.indexAddr 63 (Go.Operand.tmp 65) (Go.Operand.tmp 66), type := 0, pos := "match.go:111", after := #[{ on := 11, ground := Go.Ground.data }, { on := 12, ground := Go.Ground.data }, { on := 10, ground := Go.Ground.guard }], guard := some (10, true) } : Oper)) (v := ?va213) rfl (by kernel_rfl) (by kernel_rfl) (by kernel_rfl) (fun _ _ _ h => h) (Or.inl ⟨by rfl, ?hya213⟩) (by assumption) ?resta213
                    case hya213 => (intro w hSw; (try dsimp only at hSw); go_simp; (try with_reducible rfl))
                    (try simp only [Act.put, List.setIfInBounds_toArray, List.set_cons_zero, List.set_cons_succ])
                    refine wpAnyH_take (i := 14) (oi := ({ dst := some 68, op := Go.Op.fieldAddr 69 (Go.Operand.tmp 67) 1, type := 0, pos := "match.go:111", after := #[{ on := 13, ground := Go.Ground.data }, { on := 10, ground := Go.Ground.guard }], guard := some (10, true) } : Oper)) (v := ?va214) rfl (by kernel_rfl) (by kernel_rfl) (by kernel_rfl) (fun _ _ _ h => h) (Or.inl ⟨by rfl, ?hya214⟩) (by assumption) ?resta214
                    case hya214 => (intro w hSw; (try dsimp only at hSw); go_simp; (try with_reducible rfl))
                    (try simp only [Act.put, List.setIfInBounds_toArray, List.set_cons_zero, List.set_cons_succ])
                    refine wpAnyH_take (i := 15) (oi := ({ dst := some 69, op := Go.Op.load 67 (Go.Operand.tmp 68), type := 67, pos := "match.go:111", after := #[{ on := 14, ground := Go.Ground.data }, { on := 10, ground := Go.Ground.guard }], guard := some (10, true) } : Oper)) (v := ?va215) rfl (by kernel_rfl) (by kernel_rfl) (by kernel_rfl) (fun _ _ _ h => h) (Or.inl ⟨by rfl, ?hya215⟩) (by assumption) ?resta215
                    case hya215 => (intro w hSw; (try dsimp only at hSw); go_simp; (try with_reducible rfl))
                    (try simp only [Act.put, List.setIfInBounds_toArray, List.set_cons_zero, List.set_cons_succ])
                    refine wpAnyH_take (i := 16) (oi := ({ dst := some 70, op := Go.Op.load 67 (Go.Operand.global 1), type := 67, pos := "match.go:111", after := #[{ on := 10, ground := Go.Ground.guard }], guard := some (10, true) } : Oper)) (v := ?va216) rfl (by kernel_rfl) (by kernel_rfl) (by kernel_rfl) (fun _ _ _ h => h) (Or.inl ⟨by rfl, ?hya216⟩) (by assumption) ?resta216
                    case hya216 => (intro w hSw; (try dsimp only at hSw); go_simp; (try with_reducible rfl))
                    (try simp only [Act.put, List.setIfInBounds_toArray, List.set_cons_zero, List.set_cons_succ])
                    refine wpAnyH_take (i := 17) (oi := ({ dst := some 71, op := Go.Op.binOp Go.BinOp.eql 67 (Go.Operand.tmp 69) (Go.Operand.tmp 70) 67, type := 4, pos := "match.go:111", after := #[{ on := 15, ground := Go.Ground.data }, { on := 16, ground := Go.Ground.data }, { on := 10, ground := Go.Ground.guard }], guard := some (10, true) } : Oper)) (v := ?va217) rfl (by kernel_rfl) (by kernel_rfl) (by kernel_rfl) (fun _ _ _ h => h) (Or.inl ⟨by rfl, ?hya217⟩) (by assumption) ?resta217
                    case hya217 => (intro w hSw; (try dsimp only at hSw); go_simp; (try with_reducible rfl))
                    (try simp only [Act.put, List.setIfInBounds_toArray, List.set_cons_zero, List.set_cons_succ])
                    refine wpAnyH_take (i := 18) (oi := ({ dst := some 72, op := Go.Op.move (Go.Operand.tmp 71), type := 4, pos := "match.go:111", after := #[{ on := 17, ground := Go.Ground.data }, { on := 10, ground := Go.Ground.chain }, { on := 10, ground := Go.Ground.guard }], guard := some (10, true) } : Oper)) (v := ?va218) rfl (by kernel_rfl) (by kernel_rfl) (by kernel_rfl) (fun _ _ _ h => h) (Or.inl ⟨by rfl, ?hya218⟩) (by assumption) ?resta218
                    case hya218 => (intro w hSw; (try dsimp only at hSw); go_simp; (try with_reducible rfl))
                    (try simp only [Act.put, List.setIfInBounds_toArray, List.set_cons_zero, List.set_cons_succ])
                    refine wpAnyH_take (i := 19) (oi := ({ dst := some 73, op := Go.Op.move (Go.Operand.tmp 5), type := 63, pos := "match.go:111", after := #[{ on := 18, ground := Go.Ground.guard }], guard := some (18, false) } : Oper)) (v := ?va219) rfl (by kernel_rfl) (by kernel_rfl) (by kernel_rfl) (fun _ _ _ h => h) (Or.inl ⟨by rfl, ?hya219⟩) (by assumption) ?resta219
                    case hya219 => (intro w hSw; (try dsimp only at hSw); go_simp; (try with_reducible rfl))
                    (try simp only [Act.put, List.setIfInBounds_toArray, List.set_cons_zero, List.set_cons_succ])
                    refine wpAnyH_take (i := 20) (oi := ({ dst := some 74, op := Go.Op.move (Go.Operand.tmp 8), type := 3, pos := "match.go:111", after := #[{ on := 18, ground := Go.Ground.guard }], guard := some (18, false) } : Oper)) (v := ?va220) rfl (by kernel_rfl) (by kernel_rfl) (by kernel_rfl) (fun _ _ _ h => h) (Or.inl ⟨by rfl, ?hya220⟩) (by assumption) ?resta220
                    case hya220 => (intro w hSw; (try dsimp only at hSw); go_simp; (try with_reducible rfl))
                    (try simp only [Act.put, List.setIfInBounds_toArray, List.set_cons_zero, List.set_cons_succ])
                    refine wpAnyH_take (i := 21) (oi := ({ dst := some 75, op := Go.Op.indexAddr 63 (Go.Operand.tmp 73) (Go.Operand.tmp 74), type := 0, pos := "match.go:111", after := #[{ on := 19, ground := Go.Ground.data }, { on := 20, ground := Go.Ground.data }, { on := 18, ground := Go.Ground.guard }], guard := some (18, false) } : Oper)) (v := ?va221) rfl (by kernel_rfl) (by kernel_rfl) (by kernel_rfl) (fun _ _ _ h => h) (Or.inl ⟨by rfl, ?hya221⟩) (by assumption) ?resta221
                    case hya221 => (intro w hSw; (try dsimp only at hSw); go_simp; (try with_reducible rfl))
                    (try simp only [Act.put, List.setIfInBounds_toArray, List.set_cons_zero, List.set_cons_succ])
                    refine wpAnyH_take (i := 22) (oi := ({ dst := some 76, op := Go.Op.fieldAddr 69 (Go.Operand.tmp 75) 1, type := 0, pos := "match.go:111", after := #[{ on := 21, ground := Go.Ground.data }, { on := 18, ground := Go.Ground.guard }], guard := some (18, false) } : Oper)) (v := ?va222) rfl (by kernel_rfl) (by kernel_rfl) (by kernel_rfl) (fun _ _ _ h => h) (Or.inl ⟨by rfl, ?hya222⟩) (by assumption) ?resta222
                    case hya222 => (intro w hSw; (try dsimp only at hSw); go_simp; (try with_reducible rfl))
                    (try simp only [Act.put, List.setIfInBounds_toArray, List.set_cons_zero, List.set_cons_succ])
                    refine wpAnyH_take (i := 23) (oi := ({ dst := some 77, op := Go.Op.move (Go.Operand.tmp 1), type := 22, pos := "match.go:111", after := #[{ on := 18, ground := Go.Ground.guard }], guard := some (18, false) } : Oper)) (v := ?va223) rfl (by kernel_rfl) (by kernel_rfl) (by kernel_rfl) (fun _ _ _ h => h) (Or.inl ⟨by rfl, ?hya223⟩) (by assumption) ?resta223
                    case hya223 => (intro w hSw; (try dsimp only at hSw); go_simp; (try with_reducible rfl))
                    (try simp only [Act.put, List.setIfInBounds_toArray, List.set_cons_zero, List.set_cons_succ])
                    refine wpAnyH_take (i := 24) (oi := ({ dst := some 78, op := Go.Op.move (Go.Operand.tmp 9), type := 3, pos := "match.go:111", after := #[{ on := 18, ground := Go.Ground.guard }], guard := some (18, false) } : Oper)) (v := ?va224) rfl (by kernel_rfl) (by kernel_rfl) (by kernel_rfl) (fun _ _ _ h => h) (Or.inl ⟨by rfl, ?hya224⟩) (by assumption) ?resta224
                    case hya224 => (intro w hSw; (try dsimp only at hSw); go_simp; (try with_reducible rfl))
                    (try simp only [Act.put, List.setIfInBounds_toArray, List.set_cons_zero, List.set_cons_succ])
                    refine wpAnyH_take (i := 25) (oi := ({ dst := some 79, op := Go.Op.indexAddr 22 (Go.Operand.tmp 77) (Go.Operand.tmp 78), type := 0, pos := "match.go:111", after := #[{ on := 23, ground := Go.Ground.data }, { on := 24, ground := Go.Ground.data }, { on := 18, ground := Go.Ground.guard }], guard := some (18, false) } : Oper)) (v := ?va225) rfl (by kernel_rfl) (by kernel_rfl) (by kernel_rfl) (fun _ _ _ h => h) (Or.inl ⟨by rfl, ?hya225⟩) (by assumption) ?resta225
                    case hya225 => (intro w hSw; (try dsimp only at hSw); go_simp; (try with_reducible rfl))
                    (try simp only [Act.put, List.setIfInBounds_toArray, List.set_cons_zero, List.set_cons_succ])
                    refine wpAnyH_take (i := 26) (oi := ({ dst := some 80, op := Go.Op.load 5 (Go.Operand.tmp 79), type := 5, pos := "match.go:111", after := #[{ on := 25, ground := Go.Ground.data }, { on := 18, ground := Go.Ground.guard }], guard := some (18, false) } : Oper)) (v := ?va226) rfl (by kernel_rfl) (by kernel_rfl) (by kernel_rfl) (fun _ _ _ h => h) (Or.inl ⟨by rfl, ?hya226⟩) (by assumption) ?resta226
                    case hya226 => (intro w hSw; (try dsimp only at hSw); go_simp; (try with_reducible rfl))
                    (try simp only [Act.put, List.setIfInBounds_toArray, List.set_cons_zero, List.set_cons_succ])
                    refine wpAnyH_ready (rs := [27]) (by kernel_rfl) (by simp) ?_
                    refine AllReadyH.cons (o := ({ dst := some 81, op := Go.Op.call { callee := Go.Callee.value (Go.Operand.func 28), args := #[Go.Operand.tmp 76, Go.Operand.tmp 80], argTypes := #[67, 5] }, type := 4, pos := "match.go:111", after := #[{ on := 22, ground := Go.Ground.data }, { on := 26, ground := Go.Ground.data }, { on := 18, ground := Go.Ground.chain }, { on := 18, ground := Go.Ground.guard }], guard := some (18, false) } : Oper)) rfl (fun K hK => ?_) AllReadyH.nil
                    go_simp
                    refine (has.calls (ad.add (i * 5)).block ((ad.add (i * 5)).off + 1) (qa, qb, qc, qd) n1 _ HQX.out hn1' (has_cells (by assumption))).mono ?_
                    rintro e w6 ⟨rfl, rfl⟩
                    (try go_wp2_with fail)
                    refine hK.out _ _ (by assumption) (fun hHeld => ?_)
                    clear hK K
                    (try simp only [Act.put, List.setIfInBounds_toArray, List.set_cons_zero, List.set_cons_succ])
                    refine wpAnyH_take (i := 28) (oi := ({ dst := some 82, op := Go.Op.pick (Go.Operand.tmp 72) (Go.Operand.const (Go.Value.bool true)) (Go.Operand.tmp 81), type := 4, pos := "match.go:111", after := #[{ on := 18, ground := Go.Ground.data }, { on := 27, ground := Go.Ground.data }, { on := 10, ground := Go.Ground.guard }], guard := some (10, true) } : Oper)) (v := ?va228) rfl (by kernel_rfl) (by kernel_rfl) (by kernel_rfl) (fun _ _ _ h => h) (Or.inl ⟨by rfl, ?hya228⟩) (by assumption) ?resta228
                    case hya228 => (intro w hSw; (try dsimp only at hSw); go_simp; (try with_reducible rfl))
                    (try simp only [Act.put, List.setIfInBounds_toArray, List.set_cons_zero, List.set_cons_succ])
                    refine wpAnyH_take (i := 29) (oi := ({ dst := some 83, op := Go.Op.pick (Go.Operand.tmp 64) (Go.Operand.tmp 82) (Go.Operand.const (Go.Value.bool false)), type := 4, pos := "match.go:111", after := #[{ on := 10, ground := Go.Ground.data }, { on := 28, ground := Go.Ground.data }], guard := none } : Oper)) (v := ?va229) rfl (by kernel_rfl) (by kernel_rfl) (by kernel_rfl) (fun _ _ _ h => h) (Or.inl ⟨by rfl, ?hya229⟩) (by assumption) ?resta229
                    case hya229 => (intro w hSw; (try dsimp only at hSw); go_simp; (try with_reducible rfl))
                    (try simp only [Act.put, List.setIfInBounds_toArray, List.set_cons_zero, List.set_cons_succ])
                    refine wpAnyH_done (by kernel_rfl) ?_ _
                    have HD := Aside0.mk (show fits (l.drop i) (t.drop j) = false by rw [drop_at HX.out, drop_at HTJ.out, fits_set rfl, Int.toNat_natCast, HT.out, Bool.false_and])
                    by_cases hs : s < 0
                    · have cs : decide (s < 0) = true := decide_eq_true hs
                      go_wp2_with fail
                      (try rw [Exit.noGoto_ret])
                      go_ret
                      exact ⟨congrArg (fun b => Ending.returned (.bool b)) (HI.out.miss HD.out (Or.inl hs)).symm, (below_up HB5.out (s_below (by assumption)))⟩
                    · obtain ⟨n, rfl⟩ := Int.eq_ofNat_of_zero_le (show 0 ≤ s by omega)
                      have cs : decide ((n : Int) < 0) = false := decide_eq_false hs
                      by_cases hf : f = t.length
                      · have cf : ((f : Int) == (t.length : Int)) = true := by simp; omega
                        have cf' : (f == t.length) = true := by simp; omega
                        go_wp2_with fail
                        (try rw [Exit.noGoto_ret])
                        go_ret
                        exact ⟨congrArg (fun b => Ending.returned (.bool b)) (HI.out.miss HD.out (Or.inr hf)).symm, (below_up HB5.out (s_below (by assumption)))⟩
                      · have cf : ((f : Int) == (t.length : Int)) = false := by simp; omega
                        have cf' : (f == t.length) = false := by simp; omega
                        go_wp2_with fail
                        go_roundw
                        case rel => exact ⟨n + 1, f + 1, f + 1, n, by go_num, by go_num, rfl, by go_num, HI.out.back HD.out (by omega), ⟨s_below (by assumption)⟩⟩
                        case measure => simp only [intOf]; exact meas_back _ _ _ (by omega)
                  · have HT := Aside0.mk hh
                    go_upto_region 10 with (fail)
                    refine wp_region_held_drew (S := (fun w' => w'.cell? (ad.add (i * 5)) = some (.bool false) ∧ w'.cell? ⟨(ad.add (i * 5)).block, (ad.add (i * 5)).off + 1, none⟩ = some (.int .u64 (qa : Nat)) ∧ w'.cell? ⟨(ad.add (i * 5)).block, (ad.add (i * 5)).off + 2, none⟩ = some (.int .u64 (qb : Nat)) ∧ w'.cell? ⟨(ad.add (i * 5)).block, (ad.add (i * 5)).off + 3, none⟩ = some (.int .u64 (qc : Nat)) ∧ w'.cell? ⟨(ad.add (i * 5)).block, (ad.add (i * 5)).off + 4, none⟩ = some (.int .u64 (qd : Nat)) ∧ w'.cell? (ad1.add j) = some (.int .u8 (n1 : Nat)) ∧ w'.cell? ⟨1, 0, none⟩ = some (.int .u64 18446744073709551615) ∧ w'.cell? ⟨1, 1, none⟩ = some (.int .u64 18446744073709551615) ∧ w'.cell? ⟨1, 2, none⟩ = some (.int .u64 18446744073709551615) ∧ w'.cell? ⟨1, 3, none⟩ = some (.int .u64 18446744073709551615) ∧ Aside0 (Below w5.heap.size w5 w'))) (by kernel_rfl) (by exact hS0) (fun hHeld => ?_)
                    refine wpAnyH_take (i := 0) (oi := ({ dst := some 54, op := Go.Op.move (Go.Operand.tmp 8), type := 3, pos := "match.go:111", after := #[], guard := none } : Oper)) (v := ?va2b0) rfl (by kernel_rfl) (by kernel_rfl) (by kernel_rfl) (fun _ _ _ h => h) (Or.inl ⟨by rfl, ?hya2b0⟩) (by assumption) ?resta2b0
                    case hya2b0 => (intro w hSw; (try dsimp only at hSw); go_simp; (try with_reducible rfl))
                    (try simp only [Act.put, List.setIfInBounds_toArray, List.set_cons_zero, List.set_cons_succ])
                    refine wpAnyH_take (i := 1) (oi := ({ dst := some 55, op := Go.Op.move (Go.Operand.tmp 5), type := 63, pos := "match.go:111", after := #[], guard := none } : Oper)) (v := ?va2b1) rfl (by kernel_rfl) (by kernel_rfl) (by kernel_rfl) (fun _ _ _ h => h) (Or.inl ⟨by rfl, ?hya2b1⟩) (by assumption) ?resta2b1
                    case hya2b1 => (intro w hSw; (try dsimp only at hSw); go_simp; (try with_reducible rfl))
                    (try simp only [Act.put, List.setIfInBounds_toArray, List.set_cons_zero, List.set_cons_succ])
                    refine wpAnyH_take (i := 2) (oi := ({ dst := some 56, op := Go.Op.call { callee := Go.Callee.builtin Go.Builtin.len, args := #[Go.Operand.tmp 55], argTypes := #[63] }, type := 3, pos := "match.go:111", after := #[{ on := 1, ground := Go.Ground.data }], guard := none } : Oper)) (v := ?va2b2) rfl (by kernel_rfl) (by kernel_rfl) (by kernel_rfl) (fun _ _ _ h => h) (Or.inl ⟨by rfl, ?hya2b2⟩) (by assumption) ?resta2b2
                    case hya2b2 => (intro w hSw; (try dsimp only at hSw); go_simp; (try with_reducible rfl))
                    (try simp only [Act.put, List.setIfInBounds_toArray, List.set_cons_zero, List.set_cons_succ])
                    refine wpAnyH_take (i := 3) (oi := ({ dst := some 57, op := Go.Op.binOp Go.BinOp.lss 3 (Go.Operand.tmp 54) (Go.Operand.tmp 56) 3, type := 4, pos := "match.go:111", after := #[{ on := 0, ground := Go.Ground.data }, { on := 2, ground := Go.Ground.data }], guard := none } : Oper)) (v := ?va2b3) rfl (by kernel_rfl) (by kernel_rfl) (by kernel_rfl) (fun _ _ _ h => h) (Or.inl ⟨by rfl, ?hya2b3⟩) (by assumption) ?resta2b3
                    case hya2b3 => (intro w hSw; (try dsimp only at hSw); go_simp; (try with_reducible rfl))
                    (try simp only [Act.put, List.setIfInBounds_toArray, List.set_cons_zero, List.set_cons_succ])
                    refine wpAnyH_take (i := 4) (oi := ({ dst := some 58, op := Go.Op.move (Go.Operand.tmp 57), type := 4, pos := "match.go:111", after := #[{ on := 3, ground := Go.Ground.data }], guard := none } : Oper)) (v := ?va2b4) rfl (by kernel_rfl) (by kernel_rfl) (by kernel_rfl) (fun _ _ _ h => h) (Or.inl ⟨by rfl, ?hya2b4⟩) (by assumption) ?resta2b4
                    case hya2b4 => (intro w hSw; (try dsimp only at hSw); go_simp; (try with_reducible rfl))
                    (try simp only [Act.put, List.setIfInBounds_toArray, List.set_cons_zero, List.set_cons_succ])
                    refine wpAnyH_take (i := 5) (oi := ({ dst := some 59, op := Go.Op.move (Go.Operand.tmp 9), type := 3, pos := "match.go:111", after := #[{ on := 4, ground := Go.Ground.guard }], guard := some (4, true) } : Oper)) (v := ?va2b5) rfl (by kernel_rfl) (by kernel_rfl) (by kernel_rfl) (fun _ _ _ h => h) (Or.inl ⟨by rfl, ?hya2b5⟩) (by assumption) ?resta2b5
                    case hya2b5 => (intro w hSw; (try dsimp only at hSw); go_simp; (try with_reducible rfl))
                    (try simp only [Act.put, List.setIfInBounds_toArray, List.set_cons_zero, List.set_cons_succ])
                    refine wpAnyH_take (i := 6) (oi := ({ dst := some 60, op := Go.Op.move (Go.Operand.tmp 1), type := 22, pos := "match.go:111", after := #[{ on := 4, ground := Go.Ground.guard }], guard := some (4, true) } : Oper)) (v := ?va2b6) rfl (by kernel_rfl) (by kernel_rfl) (by kernel_rfl) (fun _ _ _ h => h) (Or.inl ⟨by rfl, ?hya2b6⟩) (by assumption) ?resta2b6
                    case hya2b6 => (intro w hSw; (try dsimp only at hSw); go_simp; (try with_reducible rfl))
                    (try simp only [Act.put, List.setIfInBounds_toArray, List.set_cons_zero, List.set_cons_succ])
                    refine wpAnyH_take (i := 7) (oi := ({ dst := some 61, op := Go.Op.call { callee := Go.Callee.builtin Go.Builtin.len, args := #[Go.Operand.tmp 60], argTypes := #[22] }, type := 3, pos := "match.go:111", after := #[{ on := 6, ground := Go.Ground.data }, { on := 4, ground := Go.Ground.guard }], guard := some (4, true) } : Oper)) (v := ?va2b7) rfl (by kernel_rfl) (by kernel_rfl) (by kernel_rfl) (fun _ _ _ h => h) (Or.inl ⟨by rfl, ?hya2b7⟩) (by assumption) ?resta2b7
                    case hya2b7 => (intro w hSw; (try dsimp only at hSw); go_simp; (try with_reducible rfl))
                    (try simp only [Act.put, List.setIfInBounds_toArray, List.set_cons_zero, List.set_cons_succ])
                    refine wpAnyH_take (i := 8) (oi := ({ dst := some 62, op := Go.Op.binOp Go.BinOp.lss 3 (Go.Operand.tmp 59) (Go.Operand.tmp 61) 3, type := 4, pos := "match.go:111", after := #[{ on := 5, ground := Go.Ground.data }, { on := 7, ground := Go.Ground.data }, { on := 4, ground := Go.Ground.guard }], guard := some (4, true) } : Oper)) (v := ?va2b8) rfl (by kernel_rfl) (by kernel_rfl) (by kernel_rfl) (fun _ _ _ h => h) (Or.inl ⟨by rfl, ?hya2b8⟩) (by assumption) ?resta2b8
                    case hya2b8 => (intro w hSw; (try dsimp only at hSw); go_simp; (try with_reducible rfl))
                    (try simp only [Act.put, List.setIfInBounds_toArray, List.set_cons_zero, List.set_cons_succ])
                    refine wpAnyH_take (i := 9) (oi := ({ dst := some 63, op := Go.Op.pick (Go.Operand.tmp 58) (Go.Operand.tmp 62) (Go.Operand.const (Go.Value.bool false)), type := 4, pos := "match.go:111", after := #[{ on := 4, ground := Go.Ground.data }, { on := 8, ground := Go.Ground.data }], guard := none } : Oper)) (v := ?va2b9) rfl (by kernel_rfl) (by kernel_rfl) (by kernel_rfl) (fun _ _ _ h => h) (Or.inl ⟨by rfl, ?hya2b9⟩) (by assumption) ?resta2b9
                    case hya2b9 => (intro w hSw; (try dsimp only at hSw); go_simp; (try with_reducible rfl))
                    (try simp only [Act.put, List.setIfInBounds_toArray, List.set_cons_zero, List.set_cons_succ])
                    refine wpAnyH_take (i := 10) (oi := ({ dst := some 64, op := Go.Op.move (Go.Operand.tmp 63), type := 4, pos := "match.go:111", after := #[{ on := 9, ground := Go.Ground.data }, { on := 4, ground := Go.Ground.chain }], guard := none } : Oper)) (v := ?va2b10) rfl (by kernel_rfl) (by kernel_rfl) (by kernel_rfl) (fun _ _ _ h => h) (Or.inl ⟨by rfl, ?hya2b10⟩) (by assumption) ?resta2b10
                    case hya2b10 => (intro w hSw; (try dsimp only at hSw); go_simp; (try with_reducible rfl))
                    (try simp only [Act.put, List.setIfInBounds_toArray, List.set_cons_zero, List.set_cons_succ])
                    refine wpAnyH_take (i := 11) (oi := ({ dst := some 65, op := Go.Op.move (Go.Operand.tmp 5), type := 63, pos := "match.go:111", after := #[{ on := 10, ground := Go.Ground.guard }], guard := some (10, true) } : Oper)) (v := ?va2b11) rfl (by kernel_rfl) (by kernel_rfl) (by kernel_rfl) (fun _ _ _ h => h) (Or.inl ⟨by rfl, ?hya2b11⟩) (by assumption) ?resta2b11
                    case hya2b11 => (intro w hSw; (try dsimp only at hSw); go_simp; (try with_reducible rfl))
                    (try simp only [Act.put, List.setIfInBounds_toArray, List.set_cons_zero, List.set_cons_succ])
                    refine wpAnyH_take (i := 12) (oi := ({ dst := some 66, op := Go.Op.move (Go.Operand.tmp 8), type := 3, pos := "match.go:111", after := #[{ on := 10, ground := Go.Ground.guard }], guard := some (10, true) } : Oper)) (v := ?va2b12) rfl (by kernel_rfl) (by kernel_rfl) (by kernel_rfl) (fun _ _ _ h => h) (Or.inl ⟨by rfl, ?hya2b12⟩) (by assumption) ?resta2b12
                    case hya2b12 => (intro w hSw; (try dsimp only at hSw); go_simp; (try with_reducible rfl))
                    (try simp only [Act.put, List.setIfInBounds_toArray, List.set_cons_zero, List.set_cons_succ])
                    refine wpAnyH_take (i := 13) (oi := ({ dst := some 67, op := Go.Op.indexAddr 63 (Go.Operand.tmp 65) (Go.Operand.tmp 66), type := 0, pos := "match.go:111", after := #[{ on := 11, ground := Go.Ground.data }, { on := 12, ground := Go.Ground.data }, { on := 10, ground := Go.Ground.guard }], guard := some (10, true) } : Oper)) (v := ?va2b13) rfl (by kernel_rfl) (by kernel_rfl) (by kernel_rfl) (fun _ _ _ h => h) (Or.inl ⟨by rfl, ?hya2b13⟩) (by assumption) ?resta2b13
                    case hya2b13 => (intro w hSw; (try dsimp only at hSw); go_simp; (try with_reducible rfl))
                    (try simp only [Act.put, List.setIfInBounds_toArray, List.set_cons_zero, List.set_cons_succ])
                    refine wpAnyH_take (i := 14) (oi := ({ dst := some 68, op := Go.Op.fieldAddr 69 (Go.Operand.tmp 67) 1, type := 0, pos := "match.go:111", after := #[{ on := 13, ground := Go.Ground.data }, { on := 10, ground := Go.Ground.guard }], guard := some (10, true) } : Oper)) (v := ?va2b14) rfl (by kernel_rfl) (by kernel_rfl) (by kernel_rfl) (fun _ _ _ h => h) (Or.inl ⟨by rfl, ?hya2b14⟩) (by assumption) ?resta2b14
                    case hya2b14 => (intro w hSw; (try dsimp only at hSw); go_simp; (try with_reducible rfl))
                    (try simp only [Act.put, List.setIfInBounds_toArray, List.set_cons_zero, List.set_cons_succ])
                    refine wpAnyH_take (i := 15) (oi := ({ dst := some 69, op := Go.Op.load 67 (Go.Operand.tmp 68), type := 67, pos := "match.go:111", after := #[{ on := 14, ground := Go.Ground.data }, { on := 10, ground := Go.Ground.guard }], guard := some (10, true) } : Oper)) (v := ?va2b15) rfl (by kernel_rfl) (by kernel_rfl) (by kernel_rfl) (fun _ _ _ h => h) (Or.inl ⟨by rfl, ?hya2b15⟩) (by assumption) ?resta2b15
                    case hya2b15 => (intro w hSw; (try dsimp only at hSw); go_simp; (try with_reducible rfl))
                    (try simp only [Act.put, List.setIfInBounds_toArray, List.set_cons_zero, List.set_cons_succ])
                    refine wpAnyH_take (i := 16) (oi := ({ dst := some 70, op := Go.Op.load 67 (Go.Operand.global 1), type := 67, pos := "match.go:111", after := #[{ on := 10, ground := Go.Ground.guard }], guard := some (10, true) } : Oper)) (v := ?va2b16) rfl (by kernel_rfl) (by kernel_rfl) (by kernel_rfl) (fun _ _ _ h => h) (Or.inl ⟨by rfl, ?hya2b16⟩) (by assumption) ?resta2b16
                    case hya2b16 => (intro w hSw; (try dsimp only at hSw); go_simp; (try with_reducible rfl))
                    (try simp only [Act.put, List.setIfInBounds_toArray, List.set_cons_zero, List.set_cons_succ])
                    refine wpAnyH_take (i := 17) (oi := ({ dst := some 71, op := Go.Op.binOp Go.BinOp.eql 67 (Go.Operand.tmp 69) (Go.Operand.tmp 70) 67, type := 4, pos := "match.go:111", after := #[{ on := 15, ground := Go.Ground.data }, { on := 16, ground := Go.Ground.data }, { on := 10, ground := Go.Ground.guard }], guard := some (10, true) } : Oper)) (v := ?va2b17) rfl (by kernel_rfl) (by kernel_rfl) (by kernel_rfl) (fun _ _ _ h => h) (Or.inl ⟨by rfl, ?hya2b17⟩) (by assumption) ?resta2b17
                    case hya2b17 => (intro w hSw; (try dsimp only at hSw); go_simp; (try with_reducible rfl))
                    (try simp only [Act.put, List.setIfInBounds_toArray, List.set_cons_zero, List.set_cons_succ])
                    refine wpAnyH_take (i := 18) (oi := ({ dst := some 72, op := Go.Op.move (Go.Operand.tmp 71), type := 4, pos := "match.go:111", after := #[{ on := 17, ground := Go.Ground.data }, { on := 10, ground := Go.Ground.chain }, { on := 10, ground := Go.Ground.guard }], guard := some (10, true) } : Oper)) (v := ?va2b18) rfl (by kernel_rfl) (by kernel_rfl) (by kernel_rfl) (fun _ _ _ h => h) (Or.inl ⟨by rfl, ?hya2b18⟩) (by assumption) ?resta2b18
                    case hya2b18 => (intro w hSw; (try dsimp only at hSw); go_simp; (try with_reducible rfl))
                    (try simp only [Act.put, List.setIfInBounds_toArray, List.set_cons_zero, List.set_cons_succ])
                    refine wpAnyH_take (i := 19) (oi := ({ dst := some 73, op := Go.Op.move (Go.Operand.tmp 5), type := 63, pos := "match.go:111", after := #[{ on := 18, ground := Go.Ground.guard }], guard := some (18, false) } : Oper)) (v := ?va2b19) rfl (by kernel_rfl) (by kernel_rfl) (by kernel_rfl) (fun _ _ _ h => h) (Or.inl ⟨by rfl, ?hya2b19⟩) (by assumption) ?resta2b19
                    case hya2b19 => (intro w hSw; (try dsimp only at hSw); go_simp; (try with_reducible rfl))
                    (try simp only [Act.put, List.setIfInBounds_toArray, List.set_cons_zero, List.set_cons_succ])
                    refine wpAnyH_take (i := 20) (oi := ({ dst := some 74, op := Go.Op.move (Go.Operand.tmp 8), type := 3, pos := "match.go:111", after := #[{ on := 18, ground := Go.Ground.guard }], guard := some (18, false) } : Oper)) (v := ?va2b20) rfl (by kernel_rfl) (by kernel_rfl) (by kernel_rfl) (fun _ _ _ h => h) (Or.inl ⟨by rfl, ?hya2b20⟩) (by assumption) ?resta2b20
                    case hya2b20 => (intro w hSw; (try dsimp only at hSw); go_simp; (try with_reducible rfl))
                    (try simp only [Act.put, List.setIfInBounds_toArray, List.set_cons_zero, List.set_cons_succ])
                    refine wpAnyH_take (i := 21) (oi := ({ dst := some 75, op := Go.Op.indexAddr 63 (Go.Operand.tmp 73) (Go.Operand.tmp 74), type := 0, pos := "match.go:111", after := #[{ on := 19, ground := Go.Ground.data }, { on := 20, ground := Go.Ground.data }, { on := 18, ground := Go.Ground.guard }], guard := some (18, false) } : Oper)) (v := ?va2b21) rfl (by kernel_rfl) (by kernel_rfl) (by kernel_rfl) (fun _ _ _ h => h) (Or.inl ⟨by rfl, ?hya2b21⟩) (by assumption) ?resta2b21
                    case hya2b21 => (intro w hSw; (try dsimp only at hSw); go_simp; (try with_reducible rfl))
                    (try simp only [Act.put, List.setIfInBounds_toArray, List.set_cons_zero, List.set_cons_succ])
                    refine wpAnyH_take (i := 22) (oi := ({ dst := some 76, op := Go.Op.fieldAddr 69 (Go.Operand.tmp 75) 1, type := 0, pos := "match.go:111", after := #[{ on := 21, ground := Go.Ground.data }, { on := 18, ground := Go.Ground.guard }], guard := some (18, false) } : Oper)) (v := ?va2b22) rfl (by kernel_rfl) (by kernel_rfl) (by kernel_rfl) (fun _ _ _ h => h) (Or.inl ⟨by rfl, ?hya2b22⟩) (by assumption) ?resta2b22
                    case hya2b22 => (intro w hSw; (try dsimp only at hSw); go_simp; (try with_reducible rfl))
                    (try simp only [Act.put, List.setIfInBounds_toArray, List.set_cons_zero, List.set_cons_succ])
                    refine wpAnyH_take (i := 23) (oi := ({ dst := some 77, op := Go.Op.move (Go.Operand.tmp 1), type := 22, pos := "match.go:111", after := #[{ on := 18, ground := Go.Ground.guard }], guard := some (18, false) } : Oper)) (v := ?va2b23) rfl (by kernel_rfl) (by kernel_rfl) (by kernel_rfl) (fun _ _ _ h => h) (Or.inl ⟨by rfl, ?hya2b23⟩) (by assumption) ?resta2b23
                    case hya2b23 => (intro w hSw; (try dsimp only at hSw); go_simp; (try with_reducible rfl))
                    (try simp only [Act.put, List.setIfInBounds_toArray, List.set_cons_zero, List.set_cons_succ])
                    refine wpAnyH_take (i := 24) (oi := ({ dst := some 78, op := Go.Op.move (Go.Operand.tmp 9), type := 3, pos := "match.go:111", after := #[{ on := 18, ground := Go.Ground.guard }], guard := some (18, false) } : Oper)) (v := ?va2b24) rfl (by kernel_rfl) (by kernel_rfl) (by kernel_rfl) (fun _ _ _ h => h) (Or.inl ⟨by rfl, ?hya2b24⟩) (by assumption) ?resta2b24
                    case hya2b24 => (intro w hSw; (try dsimp only at hSw); go_simp; (try with_reducible rfl))
                    (try simp only [Act.put, List.setIfInBounds_toArray, List.set_cons_zero, List.set_cons_succ])
                    refine wpAnyH_take (i := 25) (oi := ({ dst := some 79, op := Go.Op.indexAddr 22 (Go.Operand.tmp 77) (Go.Operand.tmp 78), type := 0, pos := "match.go:111", after := #[{ on := 23, ground := Go.Ground.data }, { on := 24, ground := Go.Ground.data }, { on := 18, ground := Go.Ground.guard }], guard := some (18, false) } : Oper)) (v := ?va2b25) rfl (by kernel_rfl) (by kernel_rfl) (by kernel_rfl) (fun _ _ _ h => h) (Or.inl ⟨by rfl, ?hya2b25⟩) (by assumption) ?resta2b25
                    case hya2b25 => (intro w hSw; (try dsimp only at hSw); go_simp; (try with_reducible rfl))
                    (try simp only [Act.put, List.setIfInBounds_toArray, List.set_cons_zero, List.set_cons_succ])
                    refine wpAnyH_take (i := 26) (oi := ({ dst := some 80, op := Go.Op.load 5 (Go.Operand.tmp 79), type := 5, pos := "match.go:111", after := #[{ on := 25, ground := Go.Ground.data }, { on := 18, ground := Go.Ground.guard }], guard := some (18, false) } : Oper)) (v := ?va2b26) rfl (by kernel_rfl) (by kernel_rfl) (by kernel_rfl) (fun _ _ _ h => h) (Or.inl ⟨by rfl, ?hya2b26⟩) (by assumption) ?resta2b26
                    case hya2b26 => (intro w hSw; (try dsimp only at hSw); go_simp; (try with_reducible rfl))
                    (try simp only [Act.put, List.setIfInBounds_toArray, List.set_cons_zero, List.set_cons_succ])
                    refine wpAnyH_ready (rs := [27]) (by kernel_rfl) (by simp) ?_
                    refine AllReadyH.cons (o := ({ dst := some 81, op := Go.Op.call { callee := Go.Callee.value (Go.Operand.func 28), args := #[Go.Operand.tmp 76, Go.Operand.tmp 80], argTypes := #[67, 5] }, type := 4, pos := "match.go:111", after := #[{ on := 22, ground := Go.Ground.data }, { on := 26, ground := Go.Ground.data }, { on := 18, ground := Go.Ground.chain }, { on := 18, ground := Go.Ground.guard }], guard := some (18, false) } : Oper)) rfl (fun K hK => ?_) AllReadyH.nil
                    go_simp
                    refine (has.calls (ad.add (i * 5)).block ((ad.add (i * 5)).off + 1) (qa, qb, qc, qd) n1 _ HQX.out hn1' (has_cells (by assumption))).mono ?_
                    rintro e w6 ⟨rfl, rfl⟩
                    (try go_wp2_with fail)
                    refine hK.out _ _ (by assumption) (fun hHeld => ?_)
                    clear hK K
                    (try simp only [Act.put, List.setIfInBounds_toArray, List.set_cons_zero, List.set_cons_succ])
                    refine wpAnyH_take (i := 28) (oi := ({ dst := some 82, op := Go.Op.pick (Go.Operand.tmp 72) (Go.Operand.const (Go.Value.bool true)) (Go.Operand.tmp 81), type := 4, pos := "match.go:111", after := #[{ on := 18, ground := Go.Ground.data }, { on := 27, ground := Go.Ground.data }, { on := 10, ground := Go.Ground.guard }], guard := some (10, true) } : Oper)) (v := ?va2b28) rfl (by kernel_rfl) (by kernel_rfl) (by kernel_rfl) (fun _ _ _ h => h) (Or.inl ⟨by rfl, ?hya2b28⟩) (by assumption) ?resta2b28
                    case hya2b28 => (intro w hSw; (try dsimp only at hSw); go_simp; (try with_reducible rfl))
                    (try simp only [Act.put, List.setIfInBounds_toArray, List.set_cons_zero, List.set_cons_succ])
                    refine wpAnyH_take (i := 29) (oi := ({ dst := some 83, op := Go.Op.pick (Go.Operand.tmp 64) (Go.Operand.tmp 82) (Go.Operand.const (Go.Value.bool false)), type := 4, pos := "match.go:111", after := #[{ on := 10, ground := Go.Ground.data }, { on := 28, ground := Go.Ground.data }], guard := none } : Oper)) (v := ?va2b29) rfl (by kernel_rfl) (by kernel_rfl) (by kernel_rfl) (fun _ _ _ h => h) (Or.inl ⟨by rfl, ?hya2b29⟩) (by assumption) ?resta2b29
                    case hya2b29 => (intro w hSw; (try dsimp only at hSw); go_simp; (try with_reducible rfl))
                    (try simp only [Act.put, List.setIfInBounds_toArray, List.set_cons_zero, List.set_cons_succ])
                    refine wpAnyH_done (by kernel_rfl) ?_ _
                    go_wp2_with fail
                    go_roundw
                    case rel => exact ⟨i + 1, j + 1, by go_num, by go_num, rfl, HI.out.go HX.out rfl HTJ.out HT.out, ⟨s_below (by assumption)⟩⟩
                    case measure => simp [intOf]; omega
              · have c2 : decide ((j : Int) < t.length) = false := decide_eq_false (by omega)
                have c2' : decide (j < t.length) = false := decide_eq_false hjt
                have hS0 : ((fun w' => Aside0 (Below w5.heap.size w5 w'))) wr.drew := ⟨HB.out.drew⟩
                go_upto_region 10 with (fail)
                refine wp_region_held_drew (S := (fun w' => Aside0 (Below w5.heap.size w5 w'))) (by kernel_rfl) (by exact hS0) (fun hHeld => ?_)
                refine wpAnyH_take (i := 0) (oi := ({ dst := some 54, op := Go.Op.move (Go.Operand.tmp 8), type := 3, pos := "match.go:111", after := #[], guard := none } : Oper)) (v := ?va30) rfl (by kernel_rfl) (by kernel_rfl) (by kernel_rfl) (fun _ _ _ h => h) (Or.inl ⟨by rfl, ?hya30⟩) (by assumption) ?resta30
                case hya30 => (intro w hSw; (try dsimp only at hSw); go_simp; (try with_reducible rfl))
                (try simp only [Act.put, List.setIfInBounds_toArray, List.set_cons_zero, List.set_cons_succ])
                refine wpAnyH_take (i := 1) (oi := ({ dst := some 55, op := Go.Op.move (Go.Operand.tmp 5), type := 63, pos := "match.go:111", after := #[], guard := none } : Oper)) (v := ?va31) rfl (by kernel_rfl) (by kernel_rfl) (by kernel_rfl) (fun _ _ _ h => h) (Or.inl ⟨by rfl, ?hya31⟩) (by assumption) ?resta31
                case hya31 => (intro w hSw; (try dsimp only at hSw); go_simp; (try with_reducible rfl))
                (try simp only [Act.put, List.setIfInBounds_toArray, List.set_cons_zero, List.set_cons_succ])
                refine wpAnyH_take (i := 2) (oi := ({ dst := some 56, op := Go.Op.call { callee := Go.Callee.builtin Go.Builtin.len, args := #[Go.Operand.tmp 55], argTypes := #[63] }, type := 3, pos := "match.go:111", after := #[{ on := 1, ground := Go.Ground.data }], guard := none } : Oper)) (v := ?va32) rfl (by kernel_rfl) (by kernel_rfl) (by kernel_rfl) (fun _ _ _ h => h) (Or.inl ⟨by rfl, ?hya32⟩) (by assumption) ?resta32
                case hya32 => (intro w hSw; (try dsimp only at hSw); go_simp; (try with_reducible rfl))
                (try simp only [Act.put, List.setIfInBounds_toArray, List.set_cons_zero, List.set_cons_succ])
                refine wpAnyH_take (i := 3) (oi := ({ dst := some 57, op := Go.Op.binOp Go.BinOp.lss 3 (Go.Operand.tmp 54) (Go.Operand.tmp 56) 3, type := 4, pos := "match.go:111", after := #[{ on := 0, ground := Go.Ground.data }, { on := 2, ground := Go.Ground.data }], guard := none } : Oper)) (v := ?va33) rfl (by kernel_rfl) (by kernel_rfl) (by kernel_rfl) (fun _ _ _ h => h) (Or.inl ⟨by rfl, ?hya33⟩) (by assumption) ?resta33
                case hya33 => (intro w hSw; (try dsimp only at hSw); go_simp; (try with_reducible rfl))
                (try simp only [Act.put, List.setIfInBounds_toArray, List.set_cons_zero, List.set_cons_succ])
                refine wpAnyH_take (i := 4) (oi := ({ dst := some 58, op := Go.Op.move (Go.Operand.tmp 57), type := 4, pos := "match.go:111", after := #[{ on := 3, ground := Go.Ground.data }], guard := none } : Oper)) (v := ?va34) rfl (by kernel_rfl) (by kernel_rfl) (by kernel_rfl) (fun _ _ _ h => h) (Or.inl ⟨by rfl, ?hya34⟩) (by assumption) ?resta34
                case hya34 => (intro w hSw; (try dsimp only at hSw); go_simp; (try with_reducible rfl))
                (try simp only [Act.put, List.setIfInBounds_toArray, List.set_cons_zero, List.set_cons_succ])
                refine wpAnyH_take (i := 5) (oi := ({ dst := some 59, op := Go.Op.move (Go.Operand.tmp 9), type := 3, pos := "match.go:111", after := #[{ on := 4, ground := Go.Ground.guard }], guard := some (4, true) } : Oper)) (v := ?va35) rfl (by kernel_rfl) (by kernel_rfl) (by kernel_rfl) (fun _ _ _ h => h) (Or.inl ⟨by rfl, ?hya35⟩) (by assumption) ?resta35
                case hya35 => (intro w hSw; (try dsimp only at hSw); go_simp; (try with_reducible rfl))
                (try simp only [Act.put, List.setIfInBounds_toArray, List.set_cons_zero, List.set_cons_succ])
                refine wpAnyH_take (i := 6) (oi := ({ dst := some 60, op := Go.Op.move (Go.Operand.tmp 1), type := 22, pos := "match.go:111", after := #[{ on := 4, ground := Go.Ground.guard }], guard := some (4, true) } : Oper)) (v := ?va36) rfl (by kernel_rfl) (by kernel_rfl) (by kernel_rfl) (fun _ _ _ h => h) (Or.inl ⟨by rfl, ?hya36⟩) (by assumption) ?resta36
                case hya36 => (intro w hSw; (try dsimp only at hSw); go_simp; (try with_reducible rfl))
                (try simp only [Act.put, List.setIfInBounds_toArray, List.set_cons_zero, List.set_cons_succ])
                refine wpAnyH_take (i := 7) (oi := ({ dst := some 61, op := Go.Op.call { callee := Go.Callee.builtin Go.Builtin.len, args := #[Go.Operand.tmp 60], argTypes := #[22] }, type := 3, pos := "match.go:111", after := #[{ on := 6, ground := Go.Ground.data }, { on := 4, ground := Go.Ground.guard }], guard := some (4, true) } : Oper)) (v := ?va37) rfl (by kernel_rfl) (by kernel_rfl) (by kernel_rfl) (fun _ _ _ h => h) (Or.inl ⟨by rfl, ?hya37⟩) (by assumption) ?resta37
                case hya37 => (intro w hSw; (try dsimp only at hSw); go_simp; (try with_reducible rfl))
                (try simp only [Act.put, List.setIfInBounds_toArray, List.set_cons_zero, List.set_cons_succ])
                refine wpAnyH_take (i := 8) (oi := ({ dst := some 62, op := Go.Op.binOp Go.BinOp.lss 3 (Go.Operand.tmp 59) (Go.Operand.tmp 61) 3, type := 4, pos := "match.go:111", after := #[{ on := 5, ground := Go.Ground.data }, { on := 7, ground := Go.Ground.data }, { on := 4, ground := Go.Ground.guard }], guard := some (4, true) } : Oper)) (v := ?va38) rfl (by kernel_rfl) (by kernel_rfl) (by kernel_rfl) (fun _ _ _ h => h) (Or.inl ⟨by rfl, ?hya38⟩) (by assumption) ?resta38
                case hya38 => (intro w hSw; (try dsimp only at hSw); go_simp; (try with_reducible rfl))
                (try simp only [Act.put, List.setIfInBounds_toArray, List.set_cons_zero, List.set_cons_succ])
                refine wpAnyH_take (i := 9) (oi := ({ dst := some 63, op := Go.Op.pick (Go.Operand.tmp 58) (Go.Operand.tmp 62) (Go.Operand.const (Go.Value.bool false)), type := 4, pos := "match.go:111", after := #[{ on := 4, ground := Go.Ground.data }, { on := 8, ground := Go.Ground.data }], guard := none } : Oper)) (v := ?va39) rfl (by kernel_rfl) (by kernel_rfl) (by kernel_rfl) (fun _ _ _ h => h) (Or.inl ⟨by rfl, ?hya39⟩) (by assumption) ?resta39
                case hya39 => (intro w hSw; (try dsimp only at hSw); go_simp; (try with_reducible rfl))
                (try simp only [Act.put, List.setIfInBounds_toArray, List.set_cons_zero, List.set_cons_succ])
                refine wpAnyH_take (i := 10) (oi := ({ dst := some 64, op := Go.Op.move (Go.Operand.tmp 63), type := 4, pos := "match.go:111", after := #[{ on := 9, ground := Go.Ground.data }, { on := 4, ground := Go.Ground.chain }], guard := none } : Oper)) (v := ?va310) rfl (by kernel_rfl) (by kernel_rfl) (by kernel_rfl) (fun _ _ _ h => h) (Or.inl ⟨by rfl, ?hya310⟩) (by assumption) ?resta310
                case hya310 => (intro w hSw; (try dsimp only at hSw); go_simp; (try with_reducible rfl))
                (try simp only [Act.put, List.setIfInBounds_toArray, List.set_cons_zero, List.set_cons_succ])
                refine wpAnyH_take (i := 11) (oi := ({ dst := some 65, op := Go.Op.move (Go.Operand.tmp 5), type := 63, pos := "match.go:111", after := #[{ on := 10, ground := Go.Ground.guard }], guard := some (10, true) } : Oper)) (v := undef) rfl (by kernel_rfl) (by kernel_rfl) (by kernel_rfl) (fun _ _ _ h => h) (Or.inr ⟨by rfl, rfl⟩) (by assumption) ?_
                (try simp only [Act.put, List.setIfInBounds_toArray, List.set_cons_zero, List.set_cons_succ])
                refine wpAnyH_take (i := 12) (oi := ({ dst := some 66, op := Go.Op.move (Go.Operand.tmp 8), type := 3, pos := "match.go:111", after := #[{ on := 10, ground := Go.Ground.guard }], guard := some (10, true) } : Oper)) (v := undef) rfl (by kernel_rfl) (by kernel_rfl) (by kernel_rfl) (fun _ _ _ h => h) (Or.inr ⟨by rfl, rfl⟩) (by assumption) ?_
                (try simp only [Act.put, List.setIfInBounds_toArray, List.set_cons_zero, List.set_cons_succ])
                refine wpAnyH_take (i := 13) (oi := ({ dst := some 67, op := Go.Op.indexAddr 63 (Go.Operand.tmp 65) (Go.Operand.tmp 66), type := 0, pos := "match.go:111", after := #[{ on := 11, ground := Go.Ground.data }, { on := 12, ground := Go.Ground.data }, { on := 10, ground := Go.Ground.guard }], guard := some (10, true) } : Oper)) (v := undef) rfl (by kernel_rfl) (by kernel_rfl) (by kernel_rfl) (fun _ _ _ h => h) (Or.inr ⟨by rfl, rfl⟩) (by assumption) ?_
                (try simp only [Act.put, List.setIfInBounds_toArray, List.set_cons_zero, List.set_cons_succ])
                refine wpAnyH_take (i := 14) (oi := ({ dst := some 68, op := Go.Op.fieldAddr 69 (Go.Operand.tmp 67) 1, type := 0, pos := "match.go:111", after := #[{ on := 13, ground := Go.Ground.data }, { on := 10, ground := Go.Ground.guard }], guard := some (10, true) } : Oper)) (v := undef) rfl (by kernel_rfl) (by kernel_rfl) (by kernel_rfl) (fun _ _ _ h => h) (Or.inr ⟨by rfl, rfl⟩) (by assumption) ?_
                (try simp only [Act.put, List.setIfInBounds_toArray, List.set_cons_zero, List.set_cons_succ])
                refine wpAnyH_take (i := 15) (oi := ({ dst := some 69, op := Go.Op.load 67 (Go.Operand.tmp 68), type := 67, pos := "match.go:111", after := #[{ on := 14, ground := Go.Ground.data }, { on := 10, ground := Go.Ground.guard }], guard := some (10, true) } : Oper)) (v := undef) rfl (by kernel_rfl) (by kernel_rfl) (by kernel_rfl) (fun _ _ _ h => h) (Or.inr ⟨by rfl, rfl⟩) (by assumption) ?_
                (try simp only [Act.put, List.setIfInBounds_toArray, List.set_cons_zero, List.set_cons_succ])
                refine wpAnyH_take (i := 16) (oi := ({ dst := some 70, op := Go.Op.load 67 (Go.Operand.global 1), type := 67, pos := "match.go:111", after := #[{ on := 10, ground := Go.Ground.guard }], guard := some (10, true) } : Oper)) (v := undef) rfl (by kernel_rfl) (by kernel_rfl) (by kernel_rfl) (fun _ _ _ h => h) (Or.inr ⟨by rfl, rfl⟩) (by assumption) ?_
                (try simp only [Act.put, List.setIfInBounds_toArray, List.set_cons_zero, List.set_cons_succ])
                refine wpAnyH_take (i := 17) (oi := ({ dst := some 71, op := Go.Op.binOp Go.BinOp.eql 67 (Go.Operand.tmp 69) (Go.Operand.tmp 70) 67, type := 4, pos := "match.go:111", after := #[{ on := 15, ground := Go.Ground.data }, { on := 16, ground := Go.Ground.data }, { on := 10, ground := Go.Ground.guard }], guard := some (10, true) } : Oper)) (v := undef) rfl (by kernel_rfl) (by kernel_rfl) (by kernel_rfl) (fun _ _ _ h => h) (Or.inr ⟨by rfl, rfl⟩) (by assumption) ?_
                (try simp only [Act.put, List.setIfInBounds_toArray, List.set_cons_zero, List.set_cons_succ])
                refine wpAnyH_take (i := 18) (oi := ({ dst := some 72, op := Go.Op.move (Go.Operand.tmp 71), type := 4, pos := "match.go:111", after := #[{ on := 17, ground := Go.Ground.data }, { on := 10, ground := Go.Ground.chain }, { on := 10, ground := Go.Ground.guard }], guard := some (10, true) } : Oper)) (v := undef) rfl (by kernel_rfl) (by kernel_rfl) (by kernel_rfl) (fun _ _ _ h => h) (Or.inr ⟨by rfl, rfl⟩) (by assumption) ?_
                (try simp only [Act.put, List.setIfInBounds_toArray, List.set_cons_zero, List.set_cons_succ])
                refine wpAnyH_take (i := 19) (oi := ({ dst := some 73, op := Go.Op.move (Go.Operand.tmp 5), type := 63, pos := "match.go:111", after := #[{ on := 18, ground := Go.Ground.guard }], guard := some (18, false) } : Oper)) (v := undef) rfl (by kernel_rfl) (by kernel_rfl) (by kernel_rfl) (fun _ _ _ h => h) (Or.inr ⟨by rfl, rfl⟩) (by assumption) ?_
                (try simp only [Act.put, List.setIfInBounds_toArray, List.set_cons_zero, List.set_cons_succ])
                refine wpAnyH_take (i := 20) (oi := ({ dst := some 74, op := Go.Op.move (Go.Operand.tmp 8), type := 3, pos := "match.go:111", after := #[{ on := 18, ground := Go.Ground.guard }], guard := some (18, false) } : Oper)) (v := undef) rfl (by kernel_rfl) (by kernel_rfl) (by kernel_rfl) (fun _ _ _ h => h) (Or.inr ⟨by rfl, rfl⟩) (by assumption) ?_
                (try simp only [Act.put, List.setIfInBounds_toArray, List.set_cons_zero, List.set_cons_succ])
                refine wpAnyH_take (i := 21) (oi := ({ dst := some 75, op := Go.Op.indexAddr 63 (Go.Operand.tmp 73) (Go.Operand.tmp 74), type := 0, pos := "match.go:111", after := #[{ on := 19, ground := Go.Ground.data }, { on := 20, ground := Go.Ground.data }, { on := 18, ground := Go.Ground.guard }], guard := some (18, false) } : Oper)) (v := undef) rfl (by kernel_rfl) (by kernel_rfl) (by kernel_rfl) (fun _ _ _ h => h) (Or.inr ⟨by rfl, rfl⟩) (by assumption) ?_
                (try simp only [Act.put, List.setIfInBounds_toArray, List.set_cons_zero, List.set_cons_succ])
                refine wpAnyH_take (i := 22) (oi := ({ dst := some 76, op := Go.Op.fieldAddr 69 (Go.Operand.tmp 75) 1, type := 0, pos := "match.go:111", after := #[{ on := 21, ground := Go.Ground.data }, { on := 18, ground := Go.Ground.guard }], guard := some (18, false) } : Oper)) (v := undef) rfl (by kernel_rfl) (by kernel_rfl) (by kernel_rfl) (fun _ _ _ h => h) (Or.inr ⟨by rfl, rfl⟩) (by assumption) ?_
                (try simp only [Act.put, List.setIfInBounds_toArray, List.set_cons_zero, List.set_cons_succ])
                refine wpAnyH_take (i := 23) (oi := ({ dst := some 77, op := Go.Op.move (Go.Operand.tmp 1), type := 22, pos := "match.go:111", after := #[{ on := 18, ground := Go.Ground.guard }], guard := some (18, false) } : Oper)) (v := undef) rfl (by kernel_rfl) (by kernel_rfl) (by kernel_rfl) (fun _ _ _ h => h) (Or.inr ⟨by rfl, rfl⟩) (by assumption) ?_
                (try simp only [Act.put, List.setIfInBounds_toArray, List.set_cons_zero, List.set_cons_succ])
                refine wpAnyH_take (i := 24) (oi := ({ dst := some 78, op := Go.Op.move (Go.Operand.tmp 9), type := 3, pos := "match.go:111", after := #[{ on := 18, ground := Go.Ground.guard }], guard := some (18, false) } : Oper)) (v := undef) rfl (by kernel_rfl) (by kernel_rfl) (by kernel_rfl) (fun _ _ _ h => h) (Or.inr ⟨by rfl, rfl⟩) (by assumption) ?_
                (try simp only [Act.put, List.setIfInBounds_toArray, List.set_cons_zero, List.set_cons_succ])
                refine wpAnyH_take (i := 25) (oi := ({ dst := some 79, op := Go.Op.indexAddr 22 (Go.Operand.tmp 77) (Go.Operand.tmp 78), type := 0, pos := "match.go:111", after := #[{ on := 23, ground := Go.Ground.data }, { on := 24, ground := Go.Ground.data }, { on := 18, ground := Go.Ground.guard }], guard := some (18, false) } : Oper)) (v := undef) rfl (by kernel_rfl) (by kernel_rfl) (by kernel_rfl) (fun _ _ _ h => h) (Or.inr ⟨by rfl, rfl⟩) (by assumption) ?_
                (try simp only [Act.put, List.setIfInBounds_toArray, List.set_cons_zero, List.set_cons_succ])
                refine wpAnyH_take (i := 26) (oi := ({ dst := some 80, op := Go.Op.load 5 (Go.Operand.tmp 79), type := 5, pos := "match.go:111", after := #[{ on := 25, ground := Go.Ground.data }, { on := 18, ground := Go.Ground.guard }], guard := some (18, false) } : Oper)) (v := undef) rfl (by kernel_rfl) (by kernel_rfl) (by kernel_rfl) (fun _ _ _ h => h) (Or.inr ⟨by rfl, rfl⟩) (by assumption) ?_
                (try simp only [Act.put, List.setIfInBounds_toArray, List.set_cons_zero, List.set_cons_succ])
                refine wpAnyH_take (i := 27) (oi := ({ dst := some 81, op := Go.Op.call { callee := Go.Callee.value (Go.Operand.func 28), args := #[Go.Operand.tmp 76, Go.Operand.tmp 80], argTypes := #[67, 5] }, type := 4, pos := "match.go:111", after := #[{ on := 22, ground := Go.Ground.data }, { on := 26, ground := Go.Ground.data }, { on := 18, ground := Go.Ground.chain }, { on := 18, ground := Go.Ground.guard }], guard := some (18, false) } : Oper)) (v := undef) rfl (by kernel_rfl) (by kernel_rfl) (by kernel_rfl) (fun _ _ _ h => h) (Or.inr ⟨by rfl, rfl⟩) (by assumption) ?_
                (try simp only [Act.put, List.setIfInBounds_toArray, List.set_cons_zero, List.set_cons_succ])
                refine wpAnyH_take (i := 28) (oi := ({ dst := some 82, op := Go.Op.pick (Go.Operand.tmp 72) (Go.Operand.const (Go.Value.bool true)) (Go.Operand.tmp 81), type := 4, pos := "match.go:111", after := #[{ on := 18, ground := Go.Ground.data }, { on := 27, ground := Go.Ground.data }, { on := 10, ground := Go.Ground.guard }], guard := some (10, true) } : Oper)) (v := undef) rfl (by kernel_rfl) (by kernel_rfl) (by kernel_rfl) (fun _ _ _ h => h) (Or.inr ⟨by rfl, rfl⟩) (by assumption) ?_
                (try simp only [Act.put, List.setIfInBounds_toArray, List.set_cons_zero, List.set_cons_succ])
                refine wpAnyH_take (i := 29) (oi := ({ dst := some 83, op := Go.Op.pick (Go.Operand.tmp 64) (Go.Operand.tmp 82) (Go.Operand.const (Go.Value.bool false)), type := 4, pos := "match.go:111", after := #[{ on := 10, ground := Go.Ground.data }, { on := 28, ground := Go.Ground.data }], guard := none } : Oper)) (v := ?va329) rfl (by kernel_rfl) (by kernel_rfl) (by kernel_rfl) (fun _ _ _ h => h) (Or.inl ⟨by rfl, ?hya329⟩) (by assumption) ?resta329
                case hya329 => (intro w hSw; (try dsimp only at hSw); go_simp; (try with_reducible rfl))
                (try simp only [Act.put, List.setIfInBounds_toArray, List.set_cons_zero, List.set_cons_succ])
                refine wpAnyH_done (by kernel_rfl) ?_ _
                have HD := Aside0.mk (show fits (l.drop i) (t.drop j) = false by rw [drop_at HX.out, List.drop_eq_nil_of_le (show t.length ≤ j by omega)]; exact fits_set_nil rfl)
                by_cases hs : s < 0
                · have cs : decide (s < 0) = true := decide_eq_true hs
                  go_wp2_with fail
                  (try rw [Exit.noGoto_ret])
                  go_ret
                  exact ⟨congrArg (fun b => Ending.returned (.bool b)) (HI.out.miss HD.out (Or.inl hs)).symm, (below_up HB5.out (t_below (by assumption)))⟩
                · obtain ⟨n, rfl⟩ := Int.eq_ofNat_of_zero_le (show 0 ≤ s by omega)
                  have cs : decide ((n : Int) < 0) = false := decide_eq_false hs
                  by_cases hf : f = t.length
                  · have cf : ((f : Int) == (t.length : Int)) = true := by simp; omega
                    have cf' : (f == t.length) = true := by simp; omega
                    go_wp2_with fail
                    (try rw [Exit.noGoto_ret])
                    go_ret
                    exact ⟨congrArg (fun b => Ending.returned (.bool b)) (HI.out.miss HD.out (Or.inr hf)).symm, (below_up HB5.out (t_below (by assumption)))⟩
                  · have cf : ((f : Int) == (t.length : Int)) = false := by simp; omega
                    have cf' : (f == t.length) = false := by simp; omega
                    go_wp2_with fail
                    go_roundw
                    case rel => exact ⟨n + 1, f + 1, f + 1, n, by go_num, by go_num, rfl, by go_num, HI.out.back HD.out (by omega), ⟨t_below (by assumption)⟩⟩
                    case measure => simp only [intOf]; exact meas_back _ _ _ (by omega)
            · skip
              have ce : ((i : Int) == (l.length : Int)) = false := by simp; omega
              have ce' : (i == l.length) = false := by simp; omega
              go_wp2_with fail
              go_roundw
              case rel => exact ⟨i + 1, j, j, i, by go_num, rfl, rfl, rfl, HI.out.star HX.out rfl, HB⟩
              case measure => simp only [intOf]; exact meas_star _ _ _ _ _ _ hsi hlt hslo
          · have c1 : decide ((i : Int) < l.length) = false := decide_eq_false (by omega)
            have c1' : decide (i < l.length) = false := decide_eq_false (by omega)
            have ce : ((i : Int) == (l.length : Int)) = true := by simp; omega
            have ce' : (i == l.length) = true := by simp; omega
            by_cases hjt : j < t.length
            · have c2 : decide ((j : Int) < t.length) = true := decide_eq_true (by omega)
              have c2' : decide (j < t.length) = true := decide_eq_true hjt
              have hS0 : ((fun w' => Aside0 (Below w5.heap.size w5 w'))) wr.drew := ⟨HB.out.drew⟩
              go_upto_region 10 with (fail)
              refine wp_region_held_drew (S := (fun w' => Aside0 (Below w5.heap.size w5 w'))) (by kernel_rfl) (by exact hS0) (fun hHeld => ?_)
              refine wpAnyH_take (i := 0) (oi := ({ dst := some 54, op := Go.Op.move (Go.Operand.tmp 8), type := 3, pos := "match.go:111", after := #[], guard := none } : Oper)) (v := ?vcc0) rfl (by kernel_rfl) (by kernel_rfl) (by kernel_rfl) (fun _ _ _ h => h) (Or.inl ⟨by rfl, ?hycc0⟩) (by assumption) ?restcc0
              case hycc0 => (intro w hSw; (try dsimp only at hSw); go_simp; (try with_reducible rfl))
              (try simp only [Act.put, List.setIfInBounds_toArray, List.set_cons_zero, List.set_cons_succ])
              refine wpAnyH_take (i := 1) (oi := ({ dst := some 55, op := Go.Op.move (Go.Operand.tmp 5), type := 63, pos := "match.go:111", after := #[], guard := none } : Oper)) (v := ?vcc1) rfl (by kernel_rfl) (by kernel_rfl) (by kernel_rfl) (fun _ _ _ h => h) (Or.inl ⟨by rfl, ?hycc1⟩) (by assumption) ?restcc1
              case hycc1 => (intro w hSw; (try dsimp only at hSw); go_simp; (try with_reducible rfl))
              (try simp only [Act.put, List.setIfInBounds_toArray, List.set_cons_zero, List.set_cons_succ])
              refine wpAnyH_take (i := 2) (oi := ({ dst := some 56, op := Go.Op.call { callee := Go.Callee.builtin Go.Builtin.len, args := #[Go.Operand.tmp 55], argTypes := #[63] }, type := 3, pos := "match.go:111", after := #[{ on := 1, ground := Go.Ground.data }], guard := none } : Oper)) (v := ?vcc2) rfl (by kernel_rfl) (by kernel_rfl) (by kernel_rfl) (fun _ _ _ h => h) (Or.inl ⟨by rfl, ?hycc2⟩) (by assumption) ?restcc2
              case hycc2 => (intro w hSw; (try dsimp only at hSw); go_simp; (try with_reducible rfl))
              (try simp only [Act.put, List.setIfInBounds_toArray, List.set_cons_zero, List.set_cons_succ])
              refine wpAnyH_take (i := 3) (oi := ({ dst := some 57, op := Go.Op.binOp Go.BinOp.lss 3 (Go.Operand.tmp 54) (Go.Operand.tmp 56) 3, type := 4, pos := "match.go:111", after := #[{ on := 0, ground := Go.Ground.data }, { on := 2, ground := Go.Ground.data }], guard := none } : Oper)) (v := ?vcc3) rfl (by kernel_rfl) (by kernel_rfl) (by kernel_rfl) (fun _ _ _ h => h) (Or.inl ⟨by rfl, ?hycc3⟩) (by assumption) ?restcc3
              case hycc3 => (intro w hSw; (try dsimp only at hSw); go_simp; (try with_reducible rfl))
              (try simp only [Act.put, List.setIfInBounds_toArray, List.set_cons_zero, List.set_cons_succ])
              refine wpAnyH_take (i := 4) (oi := ({ dst := some 58, op := Go.Op.move (Go.Operand.tmp 57), type := 4, pos := "match.go:111", after := #[{ on := 3, ground := Go.Ground.data }], guard := none } : Oper)) (v := ?vcc4) rfl (by kernel_rfl) (by kernel_rfl) (by kernel_rfl) (fun _ _ _ h => h) (Or.inl ⟨by rfl, ?hycc4⟩) (by assumption) ?restcc4
              case hycc4 => (intro w hSw; (try dsimp only at hSw); go_simp; (try with_reducible rfl))
              (try simp only [Act.put, List.setIfInBounds_toArray, List.set_cons_zero, List.set_cons_succ])
              refine wpAnyH_take (i := 5) (oi := ({ dst := some 59, op := Go.Op.move (Go.Operand.tmp 9), type := 3, pos := "match.go:111", after := #[{ on := 4, ground := Go.Ground.guard }], guard := some (4, true) } : Oper)) (v := undef) rfl (by kernel_rfl) (by kernel_rfl) (by kernel_rfl) (fun _ _ _ h => h) (Or.inr ⟨by rfl, rfl⟩) (by assumption) ?_
              (try simp only [Act.put, List.setIfInBounds_toArray, List.set_cons_zero, List.set_cons_succ])
              refine wpAnyH_take (i := 6) (oi := ({ dst := some 60, op := Go.Op.move (Go.Operand.tmp 1), type := 22, pos := "match.go:111", after := #[{ on := 4, ground := Go.Ground.guard }], guard := some (4, true) } : Oper)) (v := undef) rfl (by kernel_rfl) (by kernel_rfl) (by kernel_rfl) (fun _ _ _ h => h) (Or.inr ⟨by rfl, rfl⟩) (by assumption) ?_
              (try simp only [Act.put, List.setIfInBounds_toArray, List.set_cons_zero, List.set_cons_succ])
              refine wpAnyH_take (i := 7) (oi := ({ dst := some 61, op := Go.Op.call { callee := Go.Callee.builtin Go.Builtin.len, args := #[Go.Operand.tmp 60], argTypes := #[22] }, type := 3, pos := "match.go:111", after := #[{ on := 6, ground := Go.Ground.data }, { on := 4, ground := Go.Ground.guard }], guard := some (4, true) } : Oper)) (v := undef) rfl (by kernel_rfl) (by kernel_rfl) (by kernel_rfl) (fun _ _ _ h => h) (Or.inr ⟨by rfl, rfl⟩) (by assumption) ?_
              (try simp only [Act.put, List.setIfInBounds_toArray, List.set_cons_zero, List.set_cons_succ])
              refine wpAnyH_take (i := 8) (oi := ({ dst := some 62, op := Go.Op.binOp Go.BinOp.lss 3 (Go.Operand.tmp 59) (Go.Operand.tmp 61) 3, type := 4, pos := "match.go:111", after := #[{ on := 5, ground := Go.Ground.data }, { on := 7, ground := Go.Ground.data }, { on := 4, ground := Go.Ground.guard }], guard := some (4, true) } : Oper)) (v := undef) rfl (by kernel_rfl) (by kernel_rfl) (by kernel_rfl) (fun _ _ _ h => h) (Or.inr ⟨by rfl, rfl⟩) (by assumption) ?_
              (try simp only [Act.put, List.setIfInBounds_toArray, List.set_cons_zero, List.set_cons_succ])
              refine wpAnyH_take (i := 9) (oi := ({ dst := some 63, op := Go.Op.pick (Go.Operand.tmp 58) (Go.Operand.tmp 62) (Go.Operand.const (Go.Value.bool false)), type := 4, pos := "match.go:111", after := #[{ on := 4, ground := Go.Ground.data }, { on := 8, ground := Go.Ground.data }], guard := none } : Oper)) (v := ?vcc9) rfl (by kernel_rfl) (by kernel_rfl) (by kernel_rfl) (fun _ _ _ h => h) (Or.inl ⟨by rfl, ?hycc9⟩) (by assumption) ?restcc9
              case hycc9 => (intro w hSw; (try dsimp only at hSw); go_simp; (try with_reducible rfl))
              (try simp only [Act.put, List.setIfInBounds_toArray, List.set_cons_zero, List.set_cons_succ])
              refine wpAnyH_take (i := 10) (oi := ({ dst := some 64, op := Go.Op.move (Go.Operand.tmp 63), type := 4, pos := "match.go:111", after := #[{ on := 9, ground := Go.Ground.data }, { on := 4, ground := Go.Ground.chain }], guard := none } : Oper)) (v := ?vcc10) rfl (by kernel_rfl) (by kernel_rfl) (by kernel_rfl) (fun _ _ _ h => h) (Or.inl ⟨by rfl, ?hycc10⟩) (by assumption) ?restcc10
              case hycc10 => (intro w hSw; (try dsimp only at hSw); go_simp; (try with_reducible rfl))
              (try simp only [Act.put, List.setIfInBounds_toArray, List.set_cons_zero, List.set_cons_succ])
              refine wpAnyH_take (i := 11) (oi := ({ dst := some 65, op := Go.Op.move (Go.Operand.tmp 5), type := 63, pos := "match.go:111", after := #[{ on := 10, ground := Go.Ground.guard }], guard := some (10, true) } : Oper)) (v := undef) rfl (by kernel_rfl) (by kernel_rfl) (by kernel_rfl) (fun _ _ _ h => h) (Or.inr ⟨by rfl, rfl⟩) (by assumption) ?_
              (try simp only [Act.put, List.setIfInBounds_toArray, List.set_cons_zero, List.set_cons_succ])
              refine wpAnyH_take (i := 12) (oi := ({ dst := some 66, op := Go.Op.move (Go.Operand.tmp 8), type := 3, pos := "match.go:111", after := #[{ on := 10, ground := Go.Ground.guard }], guard := some (10, true) } : Oper)) (v := undef) rfl (by kernel_rfl) (by kernel_rfl) (by kernel_rfl) (fun _ _ _ h => h) (Or.inr ⟨by rfl, rfl⟩) (by assumption) ?_
              (try simp only [Act.put, List.setIfInBounds_toArray, List.set_cons_zero, List.set_cons_succ])
              refine wpAnyH_take (i := 13) (oi := ({ dst := some 67, op := Go.Op.indexAddr 63 (Go.Operand.tmp 65) (Go.Operand.tmp 66), type := 0, pos := "match.go:111", after := #[{ on := 11, ground := Go.Ground.data }, { on := 12, ground := Go.Ground.data }, { on := 10, ground := Go.Ground.guard }], guard := some (10, true) } : Oper)) (v := undef) rfl (by kernel_rfl) (by kernel_rfl) (by kernel_rfl) (fun _ _ _ h => h) (Or.inr ⟨by rfl, rfl⟩) (by assumption) ?_
              (try simp only [Act.put, List.setIfInBounds_toArray, List.set_cons_zero, List.set_cons_succ])
              refine wpAnyH_take (i := 14) (oi := ({ dst := some 68, op := Go.Op.fieldAddr 69 (Go.Operand.tmp 67) 1, type := 0, pos := "match.go:111", after := #[{ on := 13, ground := Go.Ground.data }, { on := 10, ground := Go.Ground.guard }], guard := some (10, true) } : Oper)) (v := undef) rfl (by kernel_rfl) (by kernel_rfl) (by kernel_rfl) (fun _ _ _ h => h) (Or.inr ⟨by rfl, rfl⟩) (by assumption) ?_
              (try simp only [Act.put, List.setIfInBounds_toArray, List.set_cons_zero, List.set_cons_succ])
              refine wpAnyH_take (i := 15) (oi := ({ dst := some 69, op := Go.Op.load 67 (Go.Operand.tmp 68), type := 67, pos := "match.go:111", after := #[{ on := 14, ground := Go.Ground.data }, { on := 10, ground := Go.Ground.guard }], guard := some (10, true) } : Oper)) (v := undef) rfl (by kernel_rfl) (by kernel_rfl) (by kernel_rfl) (fun _ _ _ h => h) (Or.inr ⟨by rfl, rfl⟩) (by assumption) ?_
              (try simp only [Act.put, List.setIfInBounds_toArray, List.set_cons_zero, List.set_cons_succ])
              refine wpAnyH_take (i := 16) (oi := ({ dst := some 70, op := Go.Op.load 67 (Go.Operand.global 1), type := 67, pos := "match.go:111", after := #[{ on := 10, ground := Go.Ground.guard }], guard := some (10, true) } : Oper)) (v := undef) rfl (by kernel_rfl) (by kernel_rfl) (by kernel_rfl) (fun _ _ _ h => h) (Or.inr ⟨by rfl, rfl⟩) (by assumption) ?_
              (try simp only [Act.put, List.setIfInBounds_toArray, List.set_cons_zero, List.set_cons_succ])
              refine wpAnyH_take (i := 17) (oi := ({ dst := some 71, op := Go.Op.binOp Go.BinOp.eql 67 (Go.Operand.tmp 69) (Go.Operand.tmp 70) 67, type := 4, pos := "match.go:111", after := #[{ on := 15, ground := Go.Ground.data }, { on := 16, ground := Go.Ground.data }, { on := 10, ground := Go.Ground.guard }], guard := some (10, true) } : Oper)) (v := undef) rfl (by kernel_rfl) (by kernel_rfl) (by kernel_rfl) (fun _ _ _ h => h) (Or.inr ⟨by rfl, rfl⟩) (by assumption) ?_
              (try simp only [Act.put, List.setIfInBounds_toArray, List.set_cons_zero, List.set_cons_succ])
              refine wpAnyH_take (i := 18) (oi := ({ dst := some 72, op := Go.Op.move (Go.Operand.tmp 71), type := 4, pos := "match.go:111", after := #[{ on := 17, ground := Go.Ground.data }, { on := 10, ground := Go.Ground.chain }, { on := 10, ground := Go.Ground.guard }], guard := some (10, true) } : Oper)) (v := undef) rfl (by kernel_rfl) (by kernel_rfl) (by kernel_rfl) (fun _ _ _ h => h) (Or.inr ⟨by rfl, rfl⟩) (by assumption) ?_
              (try simp only [Act.put, List.setIfInBounds_toArray, List.set_cons_zero, List.set_cons_succ])
              refine wpAnyH_take (i := 19) (oi := ({ dst := some 73, op := Go.Op.move (Go.Operand.tmp 5), type := 63, pos := "match.go:111", after := #[{ on := 18, ground := Go.Ground.guard }], guard := some (18, false) } : Oper)) (v := undef) rfl (by kernel_rfl) (by kernel_rfl) (by kernel_rfl) (fun _ _ _ h => h) (Or.inr ⟨by rfl, rfl⟩) (by assumption) ?_
              (try simp only [Act.put, List.setIfInBounds_toArray, List.set_cons_zero, List.set_cons_succ])
              refine wpAnyH_take (i := 20) (oi := ({ dst := some 74, op := Go.Op.move (Go.Operand.tmp 8), type := 3, pos := "match.go:111", after := #[{ on := 18, ground := Go.Ground.guard }], guard := some (18, false) } : Oper)) (v := undef) rfl (by kernel_rfl) (by kernel_rfl) (by kernel_rfl) (fun _ _ _ h => h) (Or.inr ⟨by rfl, rfl⟩) (by assumption) ?_
              (try simp only [Act.put, List.setIfInBounds_toArray, List.set_cons_zero, List.set_cons_succ])
              refine wpAnyH_take (i := 21) (oi := ({ dst := some 75, op := Go.Op.indexAddr 63 (Go.Operand.tmp 73) (Go.Operand.tmp 74), type := 0, pos := "match.go:111", after := #[{ on := 19, ground := Go.Ground.data }, { on := 20, ground := Go.Ground.data }, { on := 18, ground := Go.Ground.guard }], guard := some (18, false) } : Oper)) (v := undef) rfl (by kernel_rfl) (by kernel_rfl) (by kernel_rfl) (fun _ _ _ h => h) (Or.inr ⟨by rfl, rfl⟩) (by assumption) ?_
              (try simp only [Act.put, List.setIfInBounds_toArray, List.set_cons_zero, List.set_cons_succ])
              refine wpAnyH_take (i := 22) (oi := ({ dst := some 76, op := Go.Op.fieldAddr 69 (Go.Operand.tmp 75) 1, type := 0, pos := "match.go:111", after := #[{ on := 21, ground := Go.Ground.data }, { on := 18, ground := Go.Ground.guard }], guard := some (18, false) } : Oper)) (v := undef) rfl (by kernel_rfl) (by kernel_rfl) (by kernel_rfl) (fun _ _ _ h => h) (Or.inr ⟨by rfl, rfl⟩) (by assumption) ?_
              (try simp only [Act.put, List.setIfInBounds_toArray, List.set_cons_zero, List.set_cons_succ])
              refine wpAnyH_take (i := 23) (oi := ({ dst := some 77, op := Go.Op.move (Go.Operand.tmp 1), type := 22, pos := "match.go:111", after := #[{ on := 18, ground := Go.Ground.guard }], guard := some (18, false) } : Oper)) (v := undef) rfl (by kernel_rfl) (by kernel_rfl) (by kernel_rfl) (fun _ _ _ h => h) (Or.inr ⟨by rfl, rfl⟩) (by assumption) ?_
              (try simp only [Act.put, List.setIfInBounds_toArray, List.set_cons_zero, List.set_cons_succ])
              refine wpAnyH_take (i := 24) (oi := ({ dst := some 78, op := Go.Op.move (Go.Operand.tmp 9), type := 3, pos := "match.go:111", after := #[{ on := 18, ground := Go.Ground.guard }], guard := some (18, false) } : Oper)) (v := undef) rfl (by kernel_rfl) (by kernel_rfl) (by kernel_rfl) (fun _ _ _ h => h) (Or.inr ⟨by rfl, rfl⟩) (by assumption) ?_
              (try simp only [Act.put, List.setIfInBounds_toArray, List.set_cons_zero, List.set_cons_succ])
              refine wpAnyH_take (i := 25) (oi := ({ dst := some 79, op := Go.Op.indexAddr 22 (Go.Operand.tmp 77) (Go.Operand.tmp 78), type := 0, pos := "match.go:111", after := #[{ on := 23, ground := Go.Ground.data }, { on := 24, ground := Go.Ground.data }, { on := 18, ground := Go.Ground.guard }], guard := some (18, false) } : Oper)) (v := undef) rfl (by kernel_rfl) (by kernel_rfl) (by kernel_rfl) (fun _ _ _ h => h) (Or.inr ⟨by rfl, rfl⟩) (by assumption) ?_
              (try simp only [Act.put, List.setIfInBounds_toArray, List.set_cons_zero, List.set_cons_succ])
              refine wpAnyH_take (i := 26) (oi := ({ dst := some 80, op := Go.Op.load 5 (Go.Operand.tmp 79), type := 5, pos := "match.go:111", after := #[{ on := 25, ground := Go.Ground.data }, { on := 18, ground := Go.Ground.guard }], guard := some (18, false) } : Oper)) (v := undef) rfl (by kernel_rfl) (by kernel_rfl) (by kernel_rfl) (fun _ _ _ h => h) (Or.inr ⟨by rfl, rfl⟩) (by assumption) ?_
              (try simp only [Act.put, List.setIfInBounds_toArray, List.set_cons_zero, List.set_cons_succ])
              refine wpAnyH_take (i := 27) (oi := ({ dst := some 81, op := Go.Op.call { callee := Go.Callee.value (Go.Operand.func 28), args := #[Go.Operand.tmp 76, Go.Operand.tmp 80], argTypes := #[67, 5] }, type := 4, pos := "match.go:111", after := #[{ on := 22, ground := Go.Ground.data }, { on := 26, ground := Go.Ground.data }, { on := 18, ground := Go.Ground.chain }, { on := 18, ground := Go.Ground.guard }], guard := some (18, false) } : Oper)) (v := undef) rfl (by kernel_rfl) (by kernel_rfl) (by kernel_rfl) (fun _ _ _ h => h) (Or.inr ⟨by rfl, rfl⟩) (by assumption) ?_
              (try simp only [Act.put, List.setIfInBounds_toArray, List.set_cons_zero, List.set_cons_succ])
              refine wpAnyH_take (i := 28) (oi := ({ dst := some 82, op := Go.Op.pick (Go.Operand.tmp 72) (Go.Operand.const (Go.Value.bool true)) (Go.Operand.tmp 81), type := 4, pos := "match.go:111", after := #[{ on := 18, ground := Go.Ground.data }, { on := 27, ground := Go.Ground.data }, { on := 10, ground := Go.Ground.guard }], guard := some (10, true) } : Oper)) (v := undef) rfl (by kernel_rfl) (by kernel_rfl) (by kernel_rfl) (fun _ _ _ h => h) (Or.inr ⟨by rfl, rfl⟩) (by assumption) ?_
              (try simp only [Act.put, List.setIfInBounds_toArray, List.set_cons_zero, List.set_cons_succ])
              refine wpAnyH_take (i := 29) (oi := ({ dst := some 83, op := Go.Op.pick (Go.Operand.tmp 64) (Go.Operand.tmp 82) (Go.Operand.const (Go.Value.bool false)), type := 4, pos := "match.go:111", after := #[{ on := 10, ground := Go.Ground.data }, { on := 28, ground := Go.Ground.data }], guard := none } : Oper)) (v := ?vcc29) rfl (by kernel_rfl) (by kernel_rfl) (by kernel_rfl) (fun _ _ _ h => h) (Or.inl ⟨by rfl, ?hycc29⟩) (by assumption) ?restcc29
              case hycc29 => (intro w hSw; (try dsimp only at hSw); go_simp; (try with_reducible rfl))
              (try simp only [Act.put, List.setIfInBounds_toArray, List.set_cons_zero, List.set_cons_succ])
              refine wpAnyH_done (by kernel_rfl) ?_ _
              have HD := Aside0.mk (show fits (l.drop i) (t.drop j) = false by rw [List.drop_eq_nil_of_le (show l.length ≤ i by omega), List.drop_eq_getElem_cons hjt]; rfl)
              by_cases hs : s < 0
              · have cs : decide (s < 0) = true := decide_eq_true hs
                go_wp2_with fail
                (try rw [Exit.noGoto_ret])
                go_ret
                exact ⟨congrArg (fun b => Ending.returned (.bool b)) (HI.out.miss HD.out (Or.inl hs)).symm, (below_up HB5.out (t_below (by assumption)))⟩
              · obtain ⟨n, rfl⟩ := Int.eq_ofNat_of_zero_le (show 0 ≤ s by omega)
                have cs : decide ((n : Int) < 0) = false := decide_eq_false hs
                by_cases hf : f = t.length
                · have cf : ((f : Int) == (t.length : Int)) = true := by simp; omega
                  have cf' : (f == t.length) = true := by simp; omega
                  go_wp2_with fail
                  (try rw [Exit.noGoto_ret])
                  go_ret
                  exact ⟨congrArg (fun b => Ending.returned (.bool b)) (HI.out.miss HD.out (Or.inr hf)).symm, (below_up HB5.out (t_below (by assumption)))⟩
                · have cf : ((f : Int) == (t.length : Int)) = false := by simp; omega
                  have cf' : (f == t.length) = false := by simp; omega
                  go_wp2_with fail
                  go_roundw
                  case rel => exact ⟨n + 1, f + 1, f + 1, n, by go_num, by go_num, rfl, by go_num, HI.out.back HD.out (by omega), ⟨t_below (by assumption)⟩⟩
                  case measure => simp only [intOf]; exact meas_back _ _ _ (by omega)
            · have c2 : decide ((j : Int) < t.length) = false := decide_eq_false (by omega)
              have c2' : decide (j < t.length) = false := decide_eq_false hjt
              go_wp2_with fail
              (try rw [Exit.noGoto_ret])
              go_ret
              exact ⟨congrArg (fun b => Ending.returned (.bool b)) (HI.out.done (by omega) (by omega)).symm, below_up HB5.out HB.out⟩
end Go.Proofs.YtdflblegdfpdpaaDoor.GlobW
