/- larderlaw2.fill walked: objects of all shapes in a block just large enough. -/
import Derived.Test.YtgjcffjicbmkhaaTakS
import Derived.Test.YtgjcffjicbmkhaaSumI
import Derived.Deep.QuietTactic
import Derived.BigQuiet
import Derived.StillTailTactics
import Derived.Deep.RegionHeld3
namespace Go.Proofs.Ytgjcffjicbmkhaa.FillL
open Go Go.RowKit Go.Proofs.YtgjcffjicbmkhaaW.PrintWords Go.Proofs.YtgjcffjicbmkhaaW.PrintLast Go.Proofs.YtgjcffjicbmkhaaW.PrintMore Go.Proofs.Ytgjcffjicbmkhaa.PF Go.Proofs.Ytgjcffjicbmkhaa.RowU Go.Proofs.Ytgjcffjicbmkhaa.ArS Go.Proofs.Ytgjcffjicbmkhaa.ArM Go.Proofs.Ytgjcffjicbmkhaa.ArX Go.Proofs.Ytgjcffjicbmkhaa.ArY Go.Proofs.Ytgjcffjicbmkhaa.GenM Go.Proofs.Ytgjcffjicbmkhaa.TakS
set_option linter.unusedVariables false
set_option maxRecDepth 100000

theorem used_step {l : List S28} {i : Nat} {k r s : Nat} (h : l[i]? = some ⟨k, r, s⟩) : used (obsOf (l.take (i + 1))) = used (obsOf (l.take i)) + (1 + (r + s)) := by
  rw [used_snoc' l i _ h]; simp
theorem obs_step {l : List S28} {i : Nat} {k r s : Nat} (h : l[i]? = some ⟨k, r, s⟩) : obsOf (l.take (i + 1)) = obsOf (l.take i) ++ [newOb k r s] := by
  rw [obsOf_snoc l i _ h]; simp [obOf]
/-- The places, as the code keeps them. -/
def placesV (l : List S28) (i : Nat) : List Value := (List.range i).map fun k => .int .i64 (place (obsOf l) k : Int)
theorem placesV_succ (l : List S28) (i : Nat) (hi : i ≤ l.length) : placesV l (i + 1) = placesV l i ++ [.int .i64 (used (obsOf (l.take i)) : Int)] := by
  unfold placesV
  rw [List.range_succ, List.map_append]
  simp [place, obsOf, List.map_take]
theorem wrap3 {a : Int} (h0 : 0 ≤ a) (h1 : a < 9223372036854775808) : wrap64 a = a := ArW.w64_small a h0 h1
/-- What fill leaves. -/
structure Filled (W w' : World) (l : List S28) (g gw gf : Nat) (v : Value) : Prop where
  ar : ArAt w' g gw gf (used (obsOf l)) (obsOf l)
  at_ : GV 3 w' v (placesV l l.length)
  g0 : W.heap.size ≤ g
  gw0 : W.heap.size ≤ gw
  gf0 : W.heap.size ≤ gf
  v0 : ∀ k, v.ownBlock = some k → W.heap.size ≤ k
  below : Below W.heap.size W w'
/-- Amidst the second loop. -/
structure Mid (W wr : World) (l : List S28) (N i : Nat) (g gw gf : Nat) (v : Value) : Prop where
  ar : ArAt wr g gw gf N (obsOf (l.take i))
  at_ : GV 3 wr v (placesV l i)
  g0 : W.heap.size ≤ g
  gw0 : W.heap.size ≤ gw
  gf0 : W.heap.size ≤ gf
  v0 : ∀ k, v.ownBlock = some k → W.heap.size ≤ k
  below : Below W.heap.size W wr
theorem gv_not_ar {T : TypeId} {W : World} {v : Value} {lst : List Value} {g gw gf sz : Nat} {l : List Ob} (h : GV T W v lst) (hA : ArAt W g gw gf sz l) (h1 : T ≠ 112) (h2 : T ≠ 36) : ∀ k, v.ownBlock = some k → ¬ three_ g gw gf k := by
  intro k hk
  have ht : ∃ cs, W.heap[k]? = some (.cells cs T (0, 0)) := by
    rcases h with ⟨rfl, _⟩ | ⟨b, cap, hv, hb⟩
    · cases hk
    · rw [hv] at hk
      obtain rfl := Option.some.inj hk
      obtain ⟨cur, h1, _⟩ := hb
      exact ⟨_, h1⟩
  obtain ⟨cs, hcs⟩ := ht
  obtain ⟨cw, cf, fs, hA⟩ := hA
  rintro (rfl | rfl | rfl)
  · have := hA.hd.symm.trans hcs; simp at this; exact h1 this.2.symm
  · obtain ⟨cur, h3, _⟩ := hA.ws; have := h3.symm.trans hcs; simp at this; exact h2 this.2.symm
  · obtain ⟨cur, h3, _⟩ := hA.fb; have := h3.symm.trans hcs; simp at this; exact h2 this.2.symm
theorem three_ge {B g gw gf : Nat} (h1 : B ≤ g) (h2 : B ≤ gw) (h3 : B ≤ gf) : ∀ i, three_ g gw gf i → B ≤ i := by
  rintro i (rfl | rfl | rfl)
  · exact h1
  · exact h2
  · exact h3
/-- The three cells of a shape. -/
def Cells3 (W2 : World) (ad : Addr) (i k r s : Nat) : Prop := W2.cell? (ad.add (i * 3)) = some (.int .i64 (k : Int)) ∧ W2.cell? ⟨(ad.add (i * 3)).block, (ad.add (i * 3)).off + 1, none⟩ = some (.int .i64 (r : Int)) ∧ W2.cell? ⟨(ad.add (i * 3)).block, (ad.add (i * 3)).off + 2, none⟩ = some (.int .i64 (s : Int))
theorem cells3 {W2 : World} {A : Option Addr} {l : List S28} (h : Kd.C k28 W2 A l.length l) {i k r s : Nat} (hi : i < l.length) (hrd : rd_T28 l i = ⟨k, r, s⟩) : ∃ ad, A = some ad ∧ Cells3 W2 ad i k r s := by
  obtain ⟨ad, hA, hx0, hx1, hx2⟩ := at_T28 h i (by omega) (by omega)
  rw [hrd] at hx0 hx1 hx2
  simp only [Int.toNat_natCast] at hx0 hx1 hx2
  exact ⟨ad, hA, hx0, hx1, hx2⟩
theorem cells3' {W2 : World} {ad : Addr} {l : List S28} (h : Kd.C k28 W2 (some ad) l.length l) {i k r s : Nat} (hi : i < l.length) (hrd : rd_T28 l i = ⟨k, r, s⟩) : Cells3 W2 ad i k r s := by
  obtain ⟨ad', hA, hx⟩ := cells3 h hi hrd
  obtain rfl := Option.some.inj hA
  exact hx
set_option maxHeartbeats 4000000 in
theorem fill.calls (l : List S28) (A : Option Addr) (c : Nat) (W : World) (hC : Kd.C k28 W A l.length l) (hc : l.length ≤ c) (hok : ∀ x ∈ l, ShOk x) (hlen : l.length ≤ 2001) :
    Calls Try.prog 11 #[.slice A l.length c] W fun e w' => ∃ g gw gf v, e = .returned (.tuple #[.pointer (some ⟨g, 0, none⟩), v, .bool true]) ∧ Filled W w' l g gw gf v := by
  have HC := Aside0.mk hC
  have HOK : Aside0 (∀ i : Nat, i < l.length → ∃ k r s : Nat, l[i]? = some ⟨k, r, s⟩ ∧ rd_T28 l i = ⟨k, r, s⟩ ∧ 1 ≤ k ∧ k ≤ 255 ∧ r ≤ 24 ∧ s ≤ 24) := ⟨fun i hi => by
    have h1 := rd_get l i hi
    obtain ⟨k, r, s, h2, h3⟩ := sh_nat (hok _ (List.mem_of_getElem? h1))
    exact ⟨k, r, s, by rw [h1, h2], h2, h3⟩⟩
  have HUB : Aside0 (used (obsOf l) ≤ 98050) := ⟨by have := used_bound l hok; omega⟩
  clear hC hok
  go_enter Try.func11, Try.ntmps11
  go_wp2_with fail
  go_loopw [5, 6] (fun n i wr => ∃ k : Nat, k ≤ l.length ∧ i = .int .i64 k ∧ Aside0 (n = .int .i64 (used (obsOf (l.take k)) : Int)) ∧ Aside0 (Below W.heap.size W wr)) (fun _ i _ => l.length - (intOf i).toNat)
  case atStart => exact ⟨0, Nat.zero_le _, rfl, ⟨rfl⟩, ⟨Below.refl _ _⟩⟩
  case round =>
    obtain ⟨i, hi, rfl, HN, HB⟩ := hrel
    rename World => wr
    obtain ⟨u, hu⟩ : ∃ u, u = used (obsOf (l.take i)) := ⟨_, rfl⟩
    have HU := Aside0.mk hu
    have hub : u ≤ 98050 := by have := used_mono l i; have := HUB.out; omega
    have hn := HN.out
    rw [← hu] at hn
    subst hn
    clear HN hu
    by_cases hlt : i < l.length
    · have hlt' : (i : Int) < l.length := by omega
      obtain ⟨k, r, s, hx, hrd, h1, h2, h3, h4⟩ := HOK.out i hlt
      obtain ⟨ad, hA, hx0, hx1, hx2⟩ := at_T28 (Kd.C_below HC.out HB.out) i (by omega) hlt'
      rw [hrd] at hx0 hx1 hx2
      simp only [Int.toNat_natCast] at hx0 hx1 hx2
      subst hA
      have HX := Aside0.mk hx
      obtain ⟨a1, ha1⟩ : ∃ a1, a1 = u + 1 := ⟨_, rfl⟩
      obtain ⟨a2, ha2⟩ : ∃ a2, a2 = a1 + r := ⟨_, rfl⟩
      obtain ⟨a3, ha3⟩ : ∃ a3, a3 = a2 + s := ⟨_, rfl⟩
      have HA3 : Aside0 (a3 = u + (1 + (r + s))) := ⟨by omega⟩
      obtain ⟨⟨e1, f1⟩, ⟨e2, f2⟩, e3, f3⟩ := And.intro (NumB.sum_i (u : Int) 1 a1 (by omega) (by omega)) (And.intro (NumB.sum_i (a1 : Int) r a2 (by omega) (by omega)) (NumB.sum_i (a2 : Int) s a3 (by omega) (by omega)))
      clear hx hrd ha1 ha2 ha3
      go_wp2_with fail
      go_quiet (fail)
      go_wp2_with fail
      go_roundw
      case rel => exact ⟨i + 1, by omega, by go_num, ⟨by rw [used_step HX.out, ← HU.out, HA3.out]⟩, ⟨pw_below_drewN HB.out _⟩⟩
      case measure => simp [intOf]; omega
    · obtain rfl : i = l.length := by omega
      have hU2 : u = used (obsOf l) := by rw [HU.out, List.take_length]
      have hu1 : 1 ≤ u := by rw [hU2]; exact used_pos _
      have HNew := Aside0.mk (fun W2 => new.calls W2 u hu1 (by omega))
      have HU2 := Aside0.mk hU2
      clear hU2 HU hlt
      go_wp2_with fail
      refine (HNew.out _).mono ?_
      rintro e w2 ⟨g, gw, gf, rfl, n1, n2, n3, n4, n5⟩
      have HN := Aside0.mk (And.intro n1 (And.intro n2 (And.intro n3 (And.intro n4 n5))))
      clear n1 n2 n3 n4 n5
      go_wp2_with fail
      refine (num.calls _ _).mono ?_
      rintro e w3 ⟨rfl, rfl⟩
      go_wp2_with fail
      go_loopw [9, 10, 11] (fun v n i wr => ∃ k : Nat, k ≤ l.length ∧ i = .int .i64 k ∧ Aside0 (n = .int .i64 (used (obsOf (l.take k)) : Int)) ∧ ∃ gw gf, Aside0 (Mid W wr l u k g gw gf v)) (fun _ _ i _ => l.length - (intOf i).toNat)
      case atStart =>
        refine ⟨0, Nat.zero_le _, rfl, ⟨rfl⟩, gw, gf, ⟨HN.out.1, GV.nil _ _, ?_, ?_, ?_, fun k hk => (by cases hk), ?_⟩⟩
        · exact Nat.le_trans HB.out.size HN.out.2.1
        · exact Nat.le_trans HB.out.size HN.out.2.2.1
        · exact Nat.le_trans HB.out.size HN.out.2.2.2.1
        · exact below_next HB.out HN.out.2.2.2.2
      case round =>
        obtain ⟨i, hi2, rfl, HNX, gw2, gf2, HM⟩ := hrel
        clear HB HN
        obtain ⟨y, hy⟩ : ∃ y, y = used (obsOf (l.take i)) := ⟨_, rfl⟩
        have hyb : y ≤ u := by rw [HU2.out, hy]; exact used_mono l i
        have hn := HNX.out
        rw [← hy] at hn
        subst hn
        have HY := Aside0.mk hy
        clear HNX hy
        by_cases hlt : i < l.length
        · have hlt' : (i : Int) < l.length := by omega
          obtain ⟨k, r, s, hx, hrd, h1, h2, h3, h4⟩ := HOK.out i hlt
          have hfit : y + (1 + (r + s)) ≤ u := by
            have := used_step hx
            have h6 := used_mono l (i + 1)
            have h7 := HU2.out
            rw [HY.out, ← this]; omega
          have HAl := Aside0.mk (fun W2 (hA : ArAt W2 g gw2 gf2 u (obsOf (l.take i))) => alloc.yes hA k r s ⟨h1, h2⟩ (by omega) (by omega) (by rw [← HY.out]; exact hfit))
          rw [← HY.out] at HAl
          obtain ⟨ad, hA, hx0, hx1, hx2⟩ := cells3 (Kd.C_below HC.out HM.out.below) hlt hrd
          subst hA
          have HX := Aside0.mk hx
          have HX3 : Aside0 (∀ W2, Below W.heap.size W W2 → Cells3 W2 ad i k r s) := ⟨fun W2 hb => cells3' (Kd.C_below HC.out hb) hlt hrd⟩
          obtain ⟨a1, ha1⟩ : ∃ a1, a1 = y + 1 := ⟨_, rfl⟩
          obtain ⟨a2, ha2⟩ : ∃ a2, a2 = a1 + r := ⟨_, rfl⟩
          obtain ⟨a3, ha3⟩ : ∃ a3, a3 = a2 + s := ⟨_, rfl⟩
          have HA3 : Aside0 (a3 = y + (1 + (r + s))) := ⟨by omega⟩
          have HE := Aside0.mk (And.intro (NumB.sum_i (y : Int) 1 a1 (by omega) (by omega)) (And.intro (NumB.sum_i (a1 : Int) r a2 (by omega) (by omega)) (NumB.sum_i (a2 : Int) s a3 (by omega) (by omega))))
          clear hx hrd ha1 ha2 ha3
          have HD := Aside0.mk (HM.out.ar.below (Below.refl wr.heap.size wr).drew)
          go_wp2_with fail
          go_region_held3 (fun w' => w'.cell? (ad.add (i * 3)) = some (.int .i64 (k : Int)) ∧ w'.cell? ⟨(ad.add (i * 3)).block, (ad.add (i * 3)).off + 1, none⟩ = some (.int .i64 (r : Int)) ∧ w'.cell? ⟨(ad.add (i * 3)).block, (ad.add (i * 3)).off + 2, none⟩ = some (.int .i64 (s : Int))) (first | exact ⟨hx0, hx1, hx2⟩ | exact HK5.out) (first | (go_at_call 35; refine (HAl.out _ HD.out).mono ?_; rintro e w5 ⟨rfl, gw5, gf5, r1, r2, r3, r4⟩; have R := Aside0.mk (And.intro r1 (And.intro r2 (And.intro r3 r4))); have HB5 := Aside0.mk (Upd.to_below (HM.out.below.drew) R.out.2.2.2 HM.out.below.size (three_ge HM.out.g0 HM.out.gw0 HM.out.gf0)); have HK5 := Aside0.mk (HX3.out w5 HB5.out); clear r1 r2 r3 r4 HAl))
          clear hx0 hx1 hx2
          go_wp2_with fail
          refine (num.calls _ _).mono ?_
          rintro e w6 ⟨rfl, rfl⟩
          have HU5 := Aside0.mk (((Upd.refl (three_ g gw2 gf2) wr).drew).trans R.out.2.2.2)
          have HV5 := Aside0.mk (HM.out.at_.upd HU5.out (gv_not_ar HM.out.at_ HM.out.ar (by decide) (by decide)))
          go_upto_region 18 with ((with_reducible refine gate_builtin (b := .append) (xs := #[.tmp 82, .tmp 84]) rfl ?_); at_builtin; refine wpList_gen _ rfl (.tmp 82) (.tmp 84) 30 3 rfl Try.underlying30 (.int .i64 0) 8 (by kernel_rfl) rfl (by decide) u9 (placesV l i) rfl ?hv ⟨w6.heap.size, 0, none⟩ (.int .i64 (y : Int)) rfl ?hc rfl ?hb ?_; (case hv => exact HV5.out.upd (S := none_) (Upd.of_below (below_alloc (Below.refl _ _) _)) (fun _ _ h => h)); (case hc => exact cell_one_new _ _ _ 0 _ rfl); (case hb => simp [placesV]; omega); intro v7 w7 hv7 ho7 hu7; have R7 := Aside0.mk (And.intro hv7 (And.intro ho7 hu7)); clear hv7 ho7 hu7)
          have HA7 := Aside0.mk ((R.out.1.below (below_alloc (Below.refl w6.heap.size w6) (.cells #[.int .i64 (y : Int)] 3))).upd R7.out.2.2 (fun hh => gv_not_ar HV5.out R.out.1 (by decide) (by decide) _ hh (.inl rfl)) (fun hh => gv_not_ar HV5.out R.out.1 (by decide) (by decide) _ hh (.inr (.inl rfl))) (fun hh => gv_not_ar HV5.out R.out.1 (by decide) (by decide) _ hh (.inr (.inr rfl))))
          have HB7 := Aside0.mk (Upd.to_below (below_alloc HB5.out (.cells #[.int .i64 (y : Int)] 3)) R7.out.2.2 (Nat.le_trans HB5.out.size (below_alloc (Below.refl w6.heap.size w6) _).size) (fun j hj => HM.out.v0 j hj))
          have HS6 : Aside0 (W.heap.size ≤ w6.heap.size ∧ w6.heap.size ≤ (w6.alloc (.cells #[.int .i64 (y : Int)] 3)).heap.size) := ⟨HB5.out.size, (below_alloc (Below.refl w6.heap.size w6) _).size⟩
          have HC7 := HX3.out w7 HB7.out
          obtain ⟨hx0, hx1, hx2⟩ := HC7
          obtain ⟨⟨e1, f1⟩, ⟨e2, f2⟩, e3, f3⟩ := HE.out
          go_quiet (fail)
          go_wp2_with fail
          go_roundw
          case rel =>
            refine ⟨i + 1, by omega, by go_num, ⟨by rw [used_step HX.out, ← HY.out, HA3.out]⟩, gw5, gf5, ⟨?_, ?_, HM.out.g0, ?_, ?_, ?_, pw_below_drewN HB7.out _⟩⟩
            · rw [obs_step HX.out]; exact HA7.out.below (pw_below_drewN (Below.refl _ _) _)
            · rw [placesV_succ l i hi2, ← HY.out]; exact R7.out.1.upd (S := none_) (Upd.of_below (pw_below_drewN (Below.refl _ _) _)) (fun _ _ h => h)
            · rcases R.out.2.1 with h | h
              · rw [h]; exact HM.out.gw0
              · exact Nat.le_trans HM.out.below.size h
            · rcases R.out.2.2.1 with h | h
              · rw [h]; exact HM.out.gf0
              · exact Nat.le_trans HM.out.below.size h
            · intro j hj
              rcases R7.out.2.1 j hj with h | h
              · exact HM.out.v0 j h
              · exact Nat.le_trans HS6.out.1 (Nat.le_trans HS6.out.2 h)
          case measure => simp [intOf]; omega
        · obtain rfl : i = l.length := by omega
          have HM2 : Aside0 (ArAt wr g gw2 gf2 (used (obsOf l)) (obsOf l)) := ⟨by have := HM.out.ar; rw [List.take_length, HU2.out] at this; exact this⟩
          have HF := Aside0.mk (fun W2 (hA : ArAt W2 g gw2 gf2 (used (obsOf l)) (obsOf l)) => alloc.full hA 1 0 0 (by omega) (by omega) (by omega) (by omega))
          have HUs := Aside0.mk (fun W2 (hA : ArAt W2 g gw2 gf2 (used (obsOf l)) (obsOf l)) => used.calls hA)
          have HSz := Aside0.mk (fun W2 (hA : ArAt W2 g gw2 gf2 (used (obsOf l)) (obsOf l)) => size.calls hA)
          rw [← HU2.out] at HM2 HF HUs HSz
          clear hlt
          go_wp2_with fail
          refine (HF.out _ HM2.out).mono ?_
          rintro e w5 ⟨rfl, hb⟩
          have H5 := Aside0.mk hb
          have HM5 := Aside0.mk (HM2.out.below hb)
          clear hb HF
          go_wp2_with fail
          refine (num.calls _ _).mono ?_
          rintro e w6 ⟨rfl, rfl⟩
          go_wp2_with fail
          refine (HUs.out _ HM5.out).mono ?_
          rintro e w7 ⟨rfl, hb⟩
          have H7 := Aside0.mk (below_next H5.out hb)
          have HM7 := Aside0.mk (HM5.out.below hb)
          clear hb HUs
          go_wp2_with fail
          refine (HSz.out _ HM7.out).mono ?_
          rintro e w8 ⟨rfl, hb⟩
          have H8 := Aside0.mk (below_next H7.out hb)
          have HM8 := Aside0.mk (HM7.out.below hb)
          clear hb HSz
          go_wp2_with fail
          go_ret3
          refine ⟨g, gw2, gf2, u9, by simp, ⟨?_, ?_, HM.out.g0, HM.out.gw0, HM.out.gf0, HM.out.v0, ?_⟩⟩
          · rw [← HU2.out]; exact HM8.out
          · exact HM.out.at_.upd (S := none_) (Upd.of_below H8.out) (fun _ _ h => h)
          · exact below_next HM.out.below H8.out
end Go.Proofs.Ytgjcffjicbmkhaa.FillL
