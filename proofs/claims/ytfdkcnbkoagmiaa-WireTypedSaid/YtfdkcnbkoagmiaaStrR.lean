/- Strings as lists of bytes. No function of the program. -/
import Derived.Test.YtfdkcnbkoagmiaaProg
import Derived.Test.YtfdkcnbkoagmiaaWWords
import Derived.Laws.BytesArg
import Derived.Laws.Concat
import Derived.Lib.ConvBytes
import Derived.Lib.SmallJoins
import Derived.RowKit3
namespace Go.Proofs.Ytfdkcnbkoagmiaa.StrR
open Go Go.RowKit Go.Proofs.YtfdkcnbkoagmiaaW.PrintWords
set_option linter.unusedVariables false
set_option maxRecDepth 100000

theorem str_append (a b : List Int) : strOfNums a ++ strOfNums b = strOfNums (a ++ b) := by
  apply ByteArray.ext
  simp [strOfNums]
theorem str_drop (l : List Int) (n : Nat) : (strOfNums l).extract n (strOfNums l).size = strOfNums (l.drop n) := by
  apply ByteArray.ext
  apply Array.toList_inj.1
  rw [ByteArray.data_extract, Array.toList_extract, strOfNums_size, strOfNums_data, strOfNums_data, List.extract_eq_take_drop, List.map_drop]
  rw [List.take_of_length_le]
  rw [List.length_drop, List.length_map]
  omega
/-- The row that []byte(s) makes. -/
theorem conv_C (W : World) (l : List Int) (hl : ∀ c ∈ l, 0 ≤ c ∧ c < 256) (hn : l.length ≤ 9223372036854775807) : (Kd.int .u8).C (Lib.bytesWorld W 5 (strOfNums l)) (some ⟨W.heap.size, 0, none⟩) l.length l := by
  refine ⟨rfl, hn, fun _ => ⟨_, rfl, fun i p hp => ⟨[.int .u8 p], rfl, rfl, fun u x hx => ?_⟩⟩⟩
  obtain ⟨hi, hp'⟩ := List.getElem?_eq_some_iff.1 hp
  cases u with
  | zero =>
    injection hx with hx
    subst hx
    have := Lib.bytesWorld_cell W 5 (strOfNums l) i (by rw [strOfNums_size]; exact hi)
    rw [show (Kd.int .u8).sz = 1 from rfl, Nat.mul_one, Nat.add_zero, show (⟨W.heap.size, 0, none⟩ : Addr).add i = ⟨W.heap.size, 0 + i, none⟩ from by rw [Addr.add_lit], Nat.zero_add, this]
    rw [strOfNums_data, List.getD_eq_getElem?_getD, List.getElem?_map, hp]
    have h2 := hl p (hp' ▸ List.getElem_mem hi)
    simp only [Option.map_some, Option.getD_some, UInt8.toNat_ofNat']
    rw [show ((p.toNat % 2 ^ 8 : Nat) : Int) = p by omega]
  | succ u => simp at hx
theorem conv_run (W : World) (s : ByteArray) : (convert 9 26 (.string s)).run Try.prog W = .ok (.slice (some ⟨W.heap.size, 0, none⟩) s.size (grownCap W s.size 0 5)) (Lib.bytesWorld W 5 s) :=
  Lib.run_convert_string_bytes (P := Try.prog) W 9 26 5 s Try.underlying9 Try.underlying26 Try.underlying5
theorem conv_cap (W : World) (l : List Int) : l.length ≤ grownCap W (strOfNums l).size 0 5 := by
  have := grownCap_ge W (strOfNums l).size 0 5
  rw [strOfNums_size] at this ⊢
  exact this
theorem conv_below (W : World) (s : ByteArray) : Below W.heap.size W (Lib.bytesWorld W 5 s) := Joins.below_bytesWorld _ W _ _ (Nat.le_refl _)
/-- string(b) -/
theorem str_run {w : World} {A : Option Addr} {l : List Int} {c : Nat} (h : (Kd.int .u8).C w A l.length l) : (convert 26 9 (.slice A l.length c)).run Try.prog w = .ok (.string (strOfNums l)) w :=
  Kd.C_string (P := Try.prog) (c := c) Try.underlying26 Try.underlying5 Try.underlying9 h
end Go.Proofs.Ytfdkcnbkoagmiaa.StrR
