/- word.Sum: the machine's call gives crc. -/
import Derived.Test.YtgngpbcbnfmoiaaWMore
import Derived.Test.YtgngpbcbnfmoiaaProg
import Derived.WalkKit
import Derived.Laws.Shifts
import Derived.Laws.Bits64
import Derived.Lib.Hide
namespace Go.Proofs.Ytgngpbcbnfmoiaa.PA
open Go Go.RowKit Go.Proofs.YtgngpbcbnfmoiaaW.PrintWords Go.Proofs.YtgngpbcbnfmoiaaW.PrintLast Go.Proofs.YtgngpbcbnfmoiaaW.PrintMore
set_option linter.unusedVariables false

def crcTab : List Nat := [0x0000000000000000, 0x42F0E1EBA9EA3693, 0x85E1C3D753D46D26, 0xC711223CFA3E5BB5,
  0x493366450E42ECDF, 0x0BC387AEA7A8DA4C, 0xCCD2A5925D9681F9, 0x8E224479F47CB76A,
  0x9266CC8A1C85D9BE, 0xD0962D61B56FEF2D, 0x17870F5D4F51B498, 0x5577EEB6E6BB820B,
  0xDB55AACF12C73561, 0x99A54B24BB2D03F2, 0x5EB4691841135847, 0x1C4488F3E8F96ED4]
def crcAt (i : Nat) : Nat := crcTab.getD i 0
def crc4 (r : Nat) : Nat := ((r * 16) % 18446744073709551616) ^^^ crcAt (r / 1152921504606846976)
def crcB (r c : Nat) : Nat := crc4 (crc4 (r ^^^ (c * 72057594037927936)))
def crc (l : List Int) : Nat := l.foldl (fun r c => crcB r c.toNat) 18446744073709551615
def word_Sum.f (l : List Int) : Option Int := if ∀ c ∈ l, 0 ≤ c ∧ c < 256 then some (crc l) else none

theorem crc4_lt (r : Nat) : crc4 r < 18446744073709551616 := by
  unfold crc4
  refine Nat.xor_lt_two_pow (n := 64) (Nat.mod_lt _ (by decide)) ?_
  have : ∀ i, crcAt i < 2 ^ 64 := by
    intro i
    unfold crcAt
    rcases Nat.lt_or_ge i 16 with h | h
    · have : ∀ j : Fin 16, crcTab.getD j.1 0 < 2 ^ 64 := by decide
      exact this ⟨i, h⟩
    · rw [List.getD_eq_getElem?_getD, List.getElem?_eq_none (by exact h)]
      decide
  exact this _
theorem crcB_lt (r c : Nat) : crcB r c < 18446744073709551616 := crc4_lt _
theorem crc_snoc' (l : List Int) (c : Int) : crc (l ++ [c]) = crcB (crc l) c.toNat := by simp [crc]
theorem crc_lt (l : List Int) : crc l < 18446744073709551616 := by
  rcases List.eq_nil_or_concat l with rfl | ⟨r, c, rfl⟩
  · decide
  · rw [List.concat_eq_append, crc_snoc']; exact crcB_lt _ _
theorem crc_snoc (l : List Int) (k : Nat) (h : k < l.length) : crc (l.take (k + 1)) = crcB (crc (l.take k)) (rd l k).toNat := by
  rw [List.take_succ_eq_append_getElem h, crc_snoc']
  simp [rd, List.getD_eq_getElem?_getD, List.getElem?_eq_getElem h]
theorem rd_in {l : List Int} (H : Hid (∀ c : Int, c ∈ l → 0 ≤ c ∧ c < 256)) (k : Nat) (h : k < l.length) : 0 ≤ rd l k ∧ rd l k < 256 := by
  have : rd l k = l[k] := by simp [rd, List.getD_eq_getElem?_getD, List.getElem?_eq_getElem h]
  rw [this]
  exact H.out _ (List.getElem_mem h)
theorem xorTop (r : Nat) (hr : r < 18446744073709551616) (c : Int) (hc : 0 ≤ c ∧ c < 256) :
    ∃ X : Int, bits BinOp.xor IntKind.u64 (r : Int) (IntKind.u64.wrap (IntKind.u64.wrap c * 72057594037927936)) = X ∧ 0 ≤ X ∧ X < 18446744073709551616 ∧ X.toNat = r ^^^ (c.toNat * 72057594037927936) := by
  obtain ⟨b, rfl⟩ := Int.eq_ofNat_of_zero_le hc.1
  have e : IntKind.u64.wrap (IntKind.u64.wrap (b : Int) * 72057594037927936) = ((b * 72057594037927936 : Nat) : Int) := by
    rw [IntKind.wrap_u64, IntKind.wrap_u64]; omega
  rw [e, bits_xor_u64_nat r _ hr (by omega)]
  have h2 : r ^^^ (b * 72057594037927936) < 2 ^ 64 := Nat.xor_lt_two_pow hr (by omega)
  exact ⟨_, rfl, by omega, by omega, by simp⟩
theorem step4 (X : Int) (h0 : 0 ≤ X) (h1 : X < 18446744073709551616) :
    ∃ Y : Int, bits BinOp.xor IntKind.u64 (IntKind.u64.wrap (X * 16)) ((crcAt (X / 1152921504606846976).toNat : Nat) : Int) = Y ∧ 0 ≤ Y ∧ Y < 18446744073709551616 ∧ Y.toNat = crc4 X.toNat := by
  obtain ⟨x, rfl⟩ := Int.eq_ofNat_of_zero_le h0
  have e : IntKind.u64.wrap ((x : Int) * 16) = ((x * 16 % 18446744073709551616 : Nat) : Int) := by rw [IntKind.wrap_u64]; omega
  have h2 : crcAt (x / 1152921504606846976) < 18446744073709551616 := by
    have : ∀ j : Fin 16, crcTab.getD j.1 0 < 18446744073709551616 := by decide
    exact this ⟨x / 1152921504606846976, by omega⟩
  rw [e, show ((x : Int) / 1152921504606846976).toNat = x / 1152921504606846976 from by omega, bits_xor_u64_nat _ _ (Nat.mod_lt _ (by decide)) h2]
  have h3 := crc4_lt x
  unfold crc4 at h3 ⊢
  exact ⟨_, rfl, by omega, by omega, by simp⟩

set_option maxHeartbeats 800000 in
theorem word_Sum.calls (A0 : Option Addr) (c0 : Nat) (l0 : List Int) (r : Int) (w : World) (hr0 : Kd.C (Kd.int .u8) w A0 l0.length l0) (hc0 : l0.length ≤ c0) (h : word_Sum.f l0 = some r) :
    Calls Try.prog 14 #[.slice A0 l0.length c0] w fun e w' => e = .returned (.int .u64 r) ∧ Below w.heap.size w w' := by
  unfold word_Sum.f at h
  split at h
  case isFalse => cases h
  rename_i hin
  injection h with h
  have hlen := hr0.2.1
  have HIn := Lib.hid hin
  have HR := Lib.hid hr0
  have HE := Lib.hid h
  clear hin hr0 h
  go_enter Try.func14, Try.ntmps14
  go_wp2
  have hB := (Below.refl w.heap.size w).alloc (Nat.le_refl _) (.cells (crcTab.map fun x : Nat => Value.int .u64 (x : Int)).toArray 91)
  have hcl : ∀ i : Nat, i < 16 → (w.alloc (.cells (crcTab.map fun x : Nat => Value.int .u64 (x : Int)).toArray 91)).cell? ⟨w.heap.size, i, none⟩ = some (.int .u64 (crcAt i : Nat)) := by
    intro i hi
    unfold crcAt
    rw [World.cell?_alloc_new]
    rw [List.getElem?_toArray, List.getElem?_map, List.getD_eq_getElem?_getD, List.getElem?_eq_getElem (by exact hi)]
    rfl
  have HR1 := Lib.hid (Kd.C_below HR.out hB)
  rw [show (crcTab.map fun x : Nat => Value.int .u64 (x : Int)).toArray = #[.int .u64 0, .int .u64 4823603603198064275, .int .u64 9647207206396128550, .int .u64 14344283933443513269, .int .u64 5274672035359026399, .int .u64 847670339082705484, .int .u64 14759040976900489721, .int .u64 10241823793177474922, .int .u64 10549344070718052798, .int .u64 15030250704074698541, .int .u64 1695340678165410968, .int .u64 6158653484774949387, .int .u64 15804726273676621153, .int .u64 11071337880091427826, .int .u64 6824194888265062471, .int .u64 2036903512645398228] from rfl] at hB hcl HR1
  generalize World.alloc w _ = W1 at *
  have HB := Lib.hid hB
  clear hB HR
  go_loop [4, 10] (fun v i => ∃ k : Nat, k ≤ l0.length ∧ i = .int .i64 k ∧ v = .int .u64 (crc (l0.take k))) (fun _ i => l0.length - (intOf i).toNat)
  case atStart => exact ⟨0, Nat.zero_le _, rfl, rfl⟩
  case round =>
    obtain ⟨k, hk, rfl, rfl⟩ := hrel
    by_cases hlt : k < l0.length
    · obtain ⟨ad, rfl, hc⟩ := Kd.at_int HR1.out (k : Int) (by omega) (by omega)
      simp only [Int.toNat_natCast] at hc
      go_upto_region 7 with (fail)
      obtain ⟨X, hX, hX0, hX1, hXe⟩ := xorTop (crc (l0.take k)) (crc_lt _) (rd l0 k) (rd_in HIn k hlt)
      rw [hX]
      clear hX
      have HX := Lib.hid hXe
      clear hXe
      have hcx := hcl (X / 1152921504606846976).toNat (by omega)
      have hi0 : 0 ≤ X / 1152921504606846976 := by omega
      have hi1 : X / 1152921504606846976 < 16 := by omega
      go_upto_region 8 with (fail)
      obtain ⟨Y, hY, hY0, hY1, hYe⟩ := step4 X hX0 hX1
      rw [hY]
      clear hY hcx
      have HY := Lib.hid hYe
      clear hYe
      have hcy := hcl (Y / 1152921504606846976).toNat (by omega)
      have hj0 : 0 ≤ Y / 1152921504606846976 := by omega
      have hj1 : Y / 1152921504606846976 < 16 := by omega
      go_wp2
      obtain ⟨Z, hZ, hZ0, hZ1, hZe⟩ := step4 Y hY0 hY1
      go_round
      case rel => exact ⟨k + 1, by omega, by go_num, by rw [hZ, ← Int.toNat_of_nonneg hZ0, hZe, crc_snoc l0 k hlt, crcB, HY.out, HX.out]⟩
      case measure => simp [intOf]; omega
    · have hk' : k = l0.length := by omega
      subst hk'
      go_wp2
      go_ret
      exact ⟨congrArg (fun z => Ending.returned (.int .u64 z)) HE.out, HB.out⟩
end Go.Proofs.Ytgngpbcbnfmoiaa.PA
