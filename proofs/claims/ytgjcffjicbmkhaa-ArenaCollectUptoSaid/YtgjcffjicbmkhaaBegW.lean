/- larderlaw2.begun, three walked. -/
import Derived.Test.YtgjcffjicbmkhaaArQ
namespace Go.Proofs.Ytgjcffjicbmkhaa.BegW
open Go Go.RowKit Go.Proofs.YtgjcffjicbmkhaaW.PrintWords Go.Proofs.YtgjcffjicbmkhaaW.PrintLast Go.Proofs.YtgjcffjicbmkhaaW.PrintMore Go.Proofs.Ytgjcffjicbmkhaa.RowU Go.Proofs.Ytgjcffjicbmkhaa.ArS Go.Proofs.Ytgjcffjicbmkhaa.ArM Go.Proofs.Ytgjcffjicbmkhaa.ArW Go.Proofs.Ytgjcffjicbmkhaa.ArX Go.Proofs.Ytgjcffjicbmkhaa.ArY Go.Proofs.Ytgjcffjicbmkhaa.ArP Go.Proofs.Ytgjcffjicbmkhaa.ArQ
set_option linter.unusedVariables false
set_option maxRecDepth 100000

theorem used_one : used [newOb 3 1 2] = 5 := by rfl
set_option maxHeartbeats 1600000 in
theorem begun.calls (W : World) : Calls Try.prog 28 #[] W fun e w' => e = .returned (.bool true) ∧ Below W.heap.size W w' := by
  have HN : Aside0 (Calls Try.prog 22 #[.int .i64 8] W fun e w' => ∃ g gw gf, e = .returned (.tuple #[.pointer (some ⟨g, 0, none⟩), .int .i64 0]) ∧ ArAt w' g gw gf 8 [] ∧ W.heap.size ≤ g ∧ W.heap.size ≤ gw ∧ W.heap.size ≤ gf ∧ Below W.heap.size W w') := ⟨new.calls W 8 (by decide) (by decide)⟩
  have HA : Aside0 (∀ W2 g gw gf, ArAt W2 g gw gf 8 [] → Calls Try.prog 35 #[.pointer (some ⟨g, 0, none⟩), .int .i64 3, .int .i64 1, .int .i64 2] W2 fun e w' => e = .returned (.tuple #[.int .i64 1, .int .i64 0]) ∧ ∃ gw' gf', ArAt w' g gw' gf' 8 [newOb 3 1 2] ∧ (gw' = gw ∨ W2.heap.size ≤ gw') ∧ (gf' = gf ∨ W2.heap.size ≤ gf') ∧ Upd (three_ g gw gf) W2 w') := ⟨fun W2 g gw gf h => alloc.yes h 3 1 2 (by decide) (by decide) (by decide) (by decide)⟩
  have HF : Aside0 (∀ W2 g gw gf, ArAt W2 g gw gf 8 [newOb 3 1 2] → Calls Try.prog 35 #[.pointer (some ⟨g, 0, none⟩), .int .i64 3, .int .i64 1, .int .i64 2] W2 fun e w' => e = .returned (.tuple #[.int .i64 0, .int .i64 22]) ∧ Below W2.heap.size W2 w') := ⟨fun W2 g gw gf h => alloc.full h 3 1 2 (by decide) (by decide) (by decide) (by decide)⟩
  have HU : Aside0 (∀ W2 g gw gf, ArAt W2 g gw gf 8 [newOb 3 1 2] → Calls Try.prog 18 #[.pointer (some ⟨g, 0, none⟩)] W2 fun e w' => e = .returned (.int .i64 5) ∧ Below W2.heap.size W2 w') := ⟨fun W2 g gw gf h => used.calls h⟩
  go_enter Try.func28, Try.ntmps28
  go_wp2_with fail
  refine HN.out.mono ?_
  rintro e w2 ⟨g, gw, gf, rfl, hA, h1, h2, h3, hb⟩
  have H2 := Aside0.mk (And.intro hA (And.intro h1 (And.intro h2 (And.intro h3 hb))))
  clear hA h1 h2 h3 hb HN
  go_wp2_with fail
  refine (num.calls _ _).mono ?_
  rintro e w3 ⟨rfl, rfl⟩
  go_wp2_with fail
  refine (HA.out _ _ _ _ H2.out.1).mono ?_
  rintro e w4 ⟨rfl, gw', gf', r1, r2, r3, r4⟩
  have R := Aside0.mk r1
  have H4 : Aside0 (Below W.heap.size W w4) := ⟨Upd.to_below H2.out.2.2.2.2 r4 H2.out.2.2.2.2.size (by rintro i (rfl | rfl | rfl); exact H2.out.2.1; exact H2.out.2.2.1; exact H2.out.2.2.2.1)⟩
  clear r1 r2 r3 r4 HA
  go_wp2_with fail
  refine (HF.out _ _ _ _ R.out).mono ?_
  rintro e w5 ⟨rfl, hb⟩
  have R5 := Aside0.mk (R.out.below hb)
  have H5 := Aside0.mk (below_next H4.out hb)
  clear hb HF
  go_wp2_with fail
  refine (num.calls _ _).mono ?_
  rintro e w6 ⟨rfl, rfl⟩
  go_wp2_with fail
  refine (num.calls _ _).mono ?_
  rintro e w7 ⟨rfl, rfl⟩
  go_wp2_with fail
  refine (HU.out _ _ _ _ R5.out).mono ?_
  rintro e w8 ⟨rfl, hb⟩
  have H8 := Aside0.mk (below_next H5.out hb)
  clear hb HU
  go_wp2_with fail
  go_ret
  exact ⟨rfl, H8.out⟩
/-- A number modulo 3. -/
def mod3 (n : Int) : Nat := (Int.tmod (Int.tmod n 3 + 3) 3).toNat
theorem mod3_lt (n : Int) : mod3 n < 3 := by
  unfold mod3
  have h1 : -(3 : Int) < Int.tmod n 3 := Int.lt_tmod_of_pos n (by decide)
  have h3 : 0 ≤ Int.tmod (Int.tmod n 3 + 3) 3 := Int.tmod_nonneg _ (by omega)
  have h4 : Int.tmod (Int.tmod n 3 + 3) 3 < 3 := Int.tmod_lt_of_pos _ (by decide)
  omega
end Go.Proofs.Ytgjcffjicbmkhaa.BegW
