/- The laws' parameters of layer 1, opened. -/
import Derived.Test.YtgngpbcbnfmoiaaOpen
import Derived.Test.YtgngpbcbnfmoiaaProg
import Derived.KernelRfl
namespace Go.Proofs.Ytgngpbcbnfmoiaa.ArgsW
open Go Go.RowKit Go.Proofs.YtgngpbcbnfmoiaaW.PrintWords Go.Proofs.Ytgngpbcbnfmoiaa.Open

def kBytes : Kd (List Int) := Kd.slice 5 (Kd.int .u8)
def kWords : Kd (List Int) := Kd.slice 23 (Kd.int .u64)
def gBytes (l : List Int) : Prop := GoodL 1 (fun x => (Lit.int .u8 x).wf = true) l
def gWords (l : List Int) : Prop := GoodL 8 (fun x => (Lit.int .u64 x).wf = true) l
def gI (x : Int) : Prop := (Lit.int .i64 x).wf = true
def gU (x : Int) : Prop := (Lit.int .u64 x).wf = true

theorem o_u8 : Opens Try.prog 5 (Kd.int .u8) (fun x => (Lit.int .u8 x).wf = true) := opens_int Try.underlying5 (by kernel_rfl)
theorem o_int : Opens Try.prog 3 (Kd.int .i64) gI := opens_int Try.underlying3 (by kernel_rfl)
theorem o_i64 : Opens Try.prog 2 (Kd.int .i64) gI := opens_int Try.underlying2 (by kernel_rfl)
theorem o_u64 : Opens Try.prog 23 (Kd.int .u64) gU := opens_int Try.underlying23 (by kernel_rfl)
theorem o_bytes : Opens Try.prog 22 kBytes gBytes := opens_slice Try.underlying22 (by kernel_rfl) (by kernel_rfl) o_u8
theorem o_words : Opens Try.prog 43 kWords gWords := opens_slice Try.underlying43 (by kernel_rfl) (by kernel_rfl) o_u64

/-- T, At, X -/
def kRun : Kd (List Int × Int × Int) := Kd.pair kBytes (Kd.pair (Kd.int .i64) (Kd.int .u64))
theorem o_run : Opens Try.prog 25 kRun (fun y => gBytes y.1 ∧ gI y.2.1 ∧ gU y.2.2) :=
  opens_struct Try.underlying25 rfl (by kernel_rfl) (fields2 rfl o_bytes (fields2 rfl o_int (fields1 rfl o_u64)))
/-- Seed, Other, T, At, X -/
def kChange : Kd (Int × Int × List Int × Int × Int) := Kd.pair (Kd.int .u64) (Kd.pair (Kd.int .u64) (Kd.pair kBytes (Kd.pair (Kd.int .i64) (Kd.int .u64))))
theorem o_change : Opens Try.prog 32 kChange (fun y => gU y.1 ∧ gU y.2.1 ∧ gBytes y.2.2.1 ∧ gI y.2.2.2.1 ∧ gU y.2.2.2.2) :=
  opens_struct Try.underlying32 rfl (by kernel_rfl) (fields2 rfl o_u64 (fields2 rfl o_u64 (fields2 rfl o_bytes (fields2 rfl o_int (fields1 rfl o_u64)))))
/-- Kind, Refs, Raws, X, T, N -/
def kTurn : Kd (Int × Int × Int × Int × List Int × Int) := Kd.pair (Kd.int .i64) (Kd.pair (Kd.int .i64) (Kd.pair (Kd.int .i64) (Kd.pair (Kd.int .u64) (Kd.pair kBytes (Kd.int .i64)))))
theorem o_turn : Opens Try.prog 36 kTurn (fun y => gI y.1 ∧ gI y.2.1 ∧ gI y.2.2.1 ∧ gU y.2.2.2.1 ∧ gBytes y.2.2.2.2.1 ∧ gI y.2.2.2.2.2) :=
  opens_struct Try.underlying36 rfl (by kernel_rfl) (fields2 rfl o_int (fields2 rfl o_int (fields2 rfl o_int (fields2 rfl o_u64 (fields2 rfl o_bytes (fields1 rfl o_int))))))
/-- N, M, X, T -/
def kSpell : Kd (Int × Int × Int × List Int) := Kd.pair (Kd.int .i64) (Kd.pair (Kd.int .i64) (Kd.pair (Kd.int .u64) kBytes))
theorem o_spell : Opens Try.prog 80 kSpell (fun y => gI y.1 ∧ gI y.2.1 ∧ gU y.2.2.1 ∧ gBytes y.2.2.2) :=
  opens_struct Try.underlying80 rfl (by kernel_rfl) (fields2 rfl o_i64 (fields2 rfl o_i64 (fields2 rfl o_u64 (fields1 rfl o_bytes))))

theorem bytes_cell {W : World} {l : List Int} {cs : List Value} (h : kBytes.K W l cs) : ∃ A c, cs = [.slice A l.length c] ∧ l.length ≤ c ∧ (Kd.int .u8).C W A l.length l := h
theorem wf_u8 {x : Int} (h : (Lit.int .u8 x).wf = true) : 0 ≤ x ∧ x < 256 := by
  simp [Lit.wf, IntKind.min, IntKind.max, IntKind.signed, IntKind.bits] at h; omega
theorem wf_u64 {x : Int} (h : (Lit.int .u64 x).wf = true) : 0 ≤ x ∧ x < 18446744073709551616 := by
  simp [Lit.wf, IntKind.min, IntKind.max, IntKind.signed, IntKind.bits] at h; omega
theorem wf_i64 {x : Int} (h : (Lit.int .i64 x).wf = true) : -9223372036854775808 ≤ x ∧ x < 9223372036854775808 := by
  simp [Lit.wf, IntKind.min, IntKind.max, IntKind.signed, IntKind.bits] at h; omega
theorem gBytes_in {l : List Int} (h : gBytes l) : ∀ c ∈ l, 0 ≤ c ∧ c < 256 := fun c hc => wf_u8 (h.2 c hc)
theorem gBytes_len {l : List Int} (h : gBytes l) : l.length ≤ 140737488351232 := by have := h.1; omega
end Go.Proofs.Ytgngpbcbnfmoiaa.ArgsW
