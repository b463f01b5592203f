/- The arena's Alloc, Used, Size, Image. -/
import Derived.Test.YtgjcffjicbmkhaaArX
namespace Go.Proofs.Ytgjcffjicbmkhaa.ArY
open Go Go.RowKit Go.Proofs.YtgjcffjicbmkhaaW.PrintWords Go.Proofs.YtgjcffjicbmkhaaW.PrintLast Go.Proofs.YtgjcffjicbmkhaaW.PrintMore Go.Proofs.Ytgjcffjicbmkhaa.RowU Go.Proofs.Ytgjcffjicbmkhaa.ArS Go.Proofs.Ytgjcffjicbmkhaa.ArM Go.Proofs.Ytgjcffjicbmkhaa.ArW Go.Proofs.Ytgjcffjicbmkhaa.ArX
set_option linter.unusedVariables false
set_option maxRecDepth 100000

/-- A new object's fields. -/
def newOb (k r s : Nat) : Ob := ⟨k, r, List.replicate (r + s) 0, none⟩
theorem newOb_ok (k r s : Nat) (hk : 1 ≤ k ∧ k ≤ 255) (hr : r ≤ 1048576) (hs : s ≤ 1048576) : (newOb k r s).ok := by
  refine ⟨hk.1, hk.2, hr, by simp [newOb], by simp [newOb, Ob.raws]; exact hs, ?_, fun t ht => by simp [newOb] at ht⟩
  intro x hx
  rw [List.eq_of_mem_replicate hx]
  decide
theorem newOb_head (k r s : Nat) : ((newOb k r s).head : Int) = k + 256 * r + 4294967296 * s := by
  have : (newOb k r s).head = k + 256 * r + 4294967296 * s := by simp [newOb, Ob.head, Ob.raws]
  rw [this]
  simp
set_option maxHeartbeats 1600000 in
theorem alloc.yes {W : World} {g gw gf sz : Nat} {l : List Ob} (hA : ArAt W g gw gf sz l) (k r s : Nat) (hk : 1 ≤ k ∧ k ≤ 255) (hr : r ≤ 1048576) (hs : s ≤ 1048576) (hfit : used l + (1 + (r + s)) ≤ sz) :
    Calls Try.prog 35 #[.pointer (some ⟨g, 0, none⟩), .int .i64 (k : Int), .int .i64 (r : Int), .int .i64 (s : Int)] W fun e w' => e = .returned (.tuple #[.int .i64 (used l : Int), .int .i64 0]) ∧
      ∃ gw' gf', ArAt w' g gw' gf' sz (l ++ [newOb k r s]) ∧ (gw' = gw ∨ W.heap.size ≤ gw') ∧ (gf' = gf ∨ W.heap.size ≤ gf') ∧ Upd (three_ g gw gf) W w' := by
  obtain ⟨cw, cf, fs, hA⟩ := hA
  have HH := Aside0.mk (fun W => PA.word_Head.calls (k : Int) r s (k + 256 * r + 4294967296 * s) 0 W (by unfold PA.word_Head.f; rw [if_pos ⟨by omega, by omega, by omega, by omega, by omega, by omega⟩]))
  have HX := Aside0.mk (fun (W2 : World) (h2 : ArRaw W2 g gw gf cw cf sz fs l) => extend.calls h2 (newOb k r s) (newOb_ok k r s hk hr hs) (r + s) rfl hfit (1 + (r + s)) rfl)
  rw [newOb_head] at HX
  have hsz := hA.sz1
  have hfi := hA.fit
  have HA := Aside0.mk hA
  obtain ⟨u, hu⟩ : ∃ u, u = used l := ⟨_, rfl⟩
  obtain ⟨q, hq⟩ : ∃ q : Nat, q = 1 + (r + s) := ⟨_, rfl⟩
  rw [← hu, ← hq] at HX
  rw [← hu, ← hq] at hfit
  rw [← hu] at hfi
  rw [← hu]
  have HU := Aside0.mk hu
  obtain ⟨z, hz⟩ : ∃ z, z = sz - u := ⟨_, rfl⟩
  have e1 : wrap64 (wrap64 ((1 : Int) + r) + s) = (q : Int) := by rw [hq, w64_small ((1 : Int) + r) (by omega) (by omega), w64_small _ (by omega) (by omega)]; omega
  have e2 : IntKind.i64.wrap ((sz : Int) - u) = (z : Int) := by rw [hz, IntKind.wrap_i64]; omega
  have c1 : decide ((z : Int) < (q : Int)) = false := decide_eq_false (by omega)
  have c2 : q ≤ z := by omega
  clear hA hu hq hz hk hr hs hfit hfi
  go_enter Try.func35, Try.ntmps35
  go_wp2_with fail
  refine (HH.out W).mono ?_
  rintro e w2 ⟨rfl, hb⟩
  have H2 := Aside0.mk hb.below
  have HA2 := Aside0.mk (HA.out.upd (S := none_) (Upd.of_below hb.below) (fun h => h) (fun h => h) (fun h => h))
  have a0 := HA2.out.c0
  have a1 := HA2.out.c1
  rw [← HU.out] at a1
  clear hb HH
  go_upto_region 5 with fail
  go_region_held3 (fun w' => w'.cell? ⟨g, 0, none⟩ = some (Value.int IntKind.i64 sz) ∧ w'.cell? ⟨g, 1, none⟩ = some (Value.slice (some { block := gw, off := 0 }) u cw)) (exact ⟨a0, a1⟩) (fail)
  go_wp2_with fail
  refine (HX.out w2.drew (HA2.out.upd (S := none_) (Upd.refl _ w2).drew (fun h => h) (fun h => h) (fun h => h))).mono ?_
  rintro e w3 ⟨rfl, gw', gf', r1, r2, r3, r4⟩
  have R := Aside0.mk (And.intro r1 (And.intro r2 (And.intro r3 r4)))
  clear r1 r2 r3 r4 HX
  go_wp2_with fail
  go_ret2
  have hs2 : W.heap.size ≤ w2.heap.size := H2.out.size
  obtain ⟨r1, r2, r3, r4⟩ := R.out
  refine ⟨rfl, gw', gf', r1, ?_, ?_, ((Upd.of_below H2.out).drew).trans r4⟩
  · rcases r2 with h | h
    · exact .inl h
    · exact .inr (Nat.le_trans hs2 h)
  · rcases r3 with h | h
    · exact .inl h
    · exact .inr (Nat.le_trans hs2 h)
set_option maxHeartbeats 1600000 in
theorem alloc.full {W : World} {g gw gf sz : Nat} {l : List Ob} (hA : ArAt W g gw gf sz l) (k r s : Nat) (hk : 1 ≤ k ∧ k ≤ 255) (hr : r ≤ 1048576) (hs : s ≤ 1048576) (hfit : sz < used l + (1 + (r + s))) :
    Calls Try.prog 35 #[.pointer (some ⟨g, 0, none⟩), .int .i64 (k : Int), .int .i64 (r : Int), .int .i64 (s : Int)] W fun e w' => e = .returned (.tuple #[.int .i64 0, .int .i64 22]) ∧ Below W.heap.size W w' := by
  obtain ⟨cw, cf, fs, hA⟩ := hA
  have HH := Aside0.mk (fun W => PA.word_Head.calls (k : Int) r s (k + 256 * r + 4294967296 * s) 0 W (by unfold PA.word_Head.f; rw [if_pos ⟨by omega, by omega, by omega, by omega, by omega, by omega⟩]))
  have hsz := hA.sz1
  have hfi := hA.fit
  have HA := Aside0.mk hA
  obtain ⟨u, hu⟩ : ∃ u, u = used l := ⟨_, rfl⟩
  obtain ⟨q, hq⟩ : ∃ q : Nat, q = 1 + (r + s) := ⟨_, rfl⟩
  rw [← hu, ← hq] at hfit
  rw [← hu] at hfi
  have HU := Aside0.mk hu
  obtain ⟨z, hz⟩ : ∃ z, z = sz - u := ⟨_, rfl⟩
  have e1 : wrap64 (wrap64 ((1 : Int) + r) + s) = (q : Int) := by rw [hq, w64_small ((1 : Int) + r) (by omega) (by omega), w64_small _ (by omega) (by omega)]; omega
  have e2 : IntKind.i64.wrap ((sz : Int) - u) = (z : Int) := by rw [hz, IntKind.wrap_i64]; omega
  have c1 : decide ((z : Int) < (q : Int)) = true := decide_eq_true (by omega)
  have c2 : z < q := by omega
  clear hA hu hq hz hk hr hs hfit hfi
  go_enter Try.func35, Try.ntmps35
  go_wp2_with fail
  refine (HH.out W).mono ?_
  rintro e w2 ⟨rfl, hb⟩
  have H2 := Aside0.mk hb.below
  have HA2 := Aside0.mk (HA.out.upd (S := none_) (Upd.of_below hb.below) (fun h => h) (fun h => h) (fun h => h))
  have a0 := HA2.out.c0
  have a1 := HA2.out.c1
  rw [← HU.out] at a1
  clear hb HH
  go_upto_region 5 with fail
  go_region_held3 (fun w' => w'.cell? ⟨g, 0, none⟩ = some (Value.int IntKind.i64 sz) ∧ w'.cell? ⟨g, 1, none⟩ = some (Value.slice (some { block := gw, off := 0 }) u cw)) (exact ⟨a0, a1⟩) (fail)
  go_wp2_with fail
  go_ret2
  exact ⟨rfl, H2.out.drew⟩
set_option maxHeartbeats 1600000 in
theorem alloc.shape (W : World) (g : Nat) (k r s : Int) (hk : ¬ PA.headOk k r s) :
    Calls Try.prog 35 #[.pointer (some ⟨g, 0, none⟩), .int .i64 k, .int .i64 r, .int .i64 s] W fun e w' => e = .returned (.tuple #[.int .i64 0, .int .i64 21]) ∧ Below W.heap.size W w' := by
  have HH := Aside0.mk (fun W => PA.word_Head.calls k r s 0 10 W (by unfold PA.word_Head.f; rw [if_neg hk]))
  clear hk
  go_enter Try.func35, Try.ntmps35
  go_wp2_with fail
  refine (HH.out W).mono ?_
  rintro e w2 ⟨rfl, hb⟩
  have H2 := Aside0.mk hb.below
  clear hb HH
  go_wp2_with fail
  go_ret2
  exact ⟨rfl, H2.out⟩
set_option maxHeartbeats 1600000 in
theorem used.calls {W : World} {g gw gf sz : Nat} {l : List Ob} (hA : ArAt W g gw gf sz l) :
    Calls Try.prog 18 #[.pointer (some ⟨g, 0, none⟩)] W fun e w' => e = .returned (.int .i64 (used l : Int)) ∧ Below W.heap.size W w' := by
  obtain ⟨cw, cf, fs, hA⟩ := hA
  have a1 := hA.c1
  clear hA
  go_enter Try.func18, Try.ntmps18
  go_wp2_with fail
  go_ret
  exact ⟨rfl, Below.refl _ _⟩
set_option maxHeartbeats 1600000 in
theorem size.calls {W : World} {g gw gf sz : Nat} {l : List Ob} (hA : ArAt W g gw gf sz l) :
    Calls Try.prog 36 #[.pointer (some ⟨g, 0, none⟩)] W fun e w' => e = .returned (.int .i64 (sz : Int)) ∧ Below W.heap.size W w' := by
  obtain ⟨cw, cf, fs, hA⟩ := hA
  have a0 := hA.c0
  clear hA
  go_enter Try.func36, Try.ntmps36
  go_wp2_with fail
  go_ret
  exact ⟨rfl, Below.refl _ _⟩
theorem num.calls (W : World) (x : Int) : Calls Try.prog 14 #[.int .i64 x] W fun e w' => e = .returned (.int .i64 x) ∧ w' = W := by
  go_enter Try.func14, Try.ntmps14
  go_wp2_with fail
  go_ret
  exact ⟨rfl, rfl⟩
end Go.Proofs.Ytgjcffjicbmkhaa.ArY
