/-
  No cell of these rows narrows 'for every input' (looked for: loops, veiled, ifaces, maps, wideKeys, modest, calm, conditions, laid).
  DERIVED. THE GIVEN ROWS OF THIS SEAT. 7 by the template 'for every input the law returns true; each argument reads behind the call as it read before'; 0 by the template 'total and deterministic' (their statements: YtgjcffjicbmkhaaTotals.lean).
  GIVEN WITH THE SEED: the statements are not yours to turn. If you find one false, say at which input.
  Laid BY PROGRAM, IN A SANDBOX (cutbox-rows.mjs): the forced cells as the released guide's own fill.sh prints them over the translation ca3157437dbd2333… (all of the seat's roots in one cut). By AI agents, Wed Nov 11 2026. No macro, syntax, notation, axiom, sorry.
-/
import Derived.Test.YtgjcffjicbmkhaaChecked
import GoSem.Claim
import GoSem.ClaimJoined
import GoSem.ClaimMapViews
import Derived.JoinedTies
import Derived.KernelRfl
namespace Go.Proofs.Ytgjcffjicbmkhaa
/- THE CELL 'sum', in the pinned program and in every row, IS THE sha256 OF THE DUMP (.gsa) THAT YtgjcffjicbmkhaaProg.lean LOADS. Nothing in Lean hashes anything: it is a label: what it is worth is what the hold of that sum in a sandbox is worth. -/
noncomputable def Try.pinned : Pinned := { name := "ytgjcffjicbmkhaa", sum := "ca3157437dbd2333bc035d9f3f85bfdb40f38e62897df7ad7922d34bbdc8b1c3", checked := Try.checked }
namespace Rows
def none {H : Type} : Left H := { results := [], args := [] }

/-- 'larderlaw2.ArenaMemory': WHATEVER THE INPUT: true; the input reads as it did. -/
def arenaMemorySpec : ChangeSpec := { name := "arenaMemory", fn := fun _ => fun
  | [d] => { results := [.lit (.bool true)], args := [d] }
  | _ => none }
def arenaMemoryRow : OpenClaim := { program := "ytgjcffjicbmkhaa", sum := "ca3157437dbd2333bc035d9f3f85bfdb40f38e62897df7ad7922d34bbdc8b1c3", func := "larder/larderlaw2.ArenaMemory", spec := "arenaMemory", apart := false }
def ArenaMemorySaid : Prop := arenaMemoryRow.holds Try.pinned (OpenSpec.ofChange arenaMemorySpec)

/-- ITS FALSE NEIGHBOUR: 'it returns false'. Refute it at one input. -/
def arenaMemoryWrong : ChangeSpec := { name := "arenaMemory", fn := fun _ => fun
  | [d] => { results := [.lit (.bool false)], args := [d] }
  | _ => none }
def ArenaMemoryWrongFalsely : Prop := arenaMemoryRow.holds Try.pinned (OpenSpec.ofChange arenaMemoryWrong)

/-- 'larderlaw2.ArenaWalk': WHATEVER THE INPUT: true; the input reads as it did. -/
def arenaWalkSpec : ChangeSpec := { name := "arenaWalk", fn := fun _ => fun
  | [d] => { results := [.lit (.bool true)], args := [d] }
  | _ => none }
def arenaWalkRow : OpenClaim := { program := "ytgjcffjicbmkhaa", sum := "ca3157437dbd2333bc035d9f3f85bfdb40f38e62897df7ad7922d34bbdc8b1c3", func := "larder/larderlaw2.ArenaWalk", spec := "arenaWalk", apart := false }
def ArenaWalkSaid : Prop := arenaWalkRow.holds Try.pinned (OpenSpec.ofChange arenaWalkSpec)

/-- ITS FALSE NEIGHBOUR: 'it returns false'. Refute it at one input. -/
def arenaWalkWrong : ChangeSpec := { name := "arenaWalk", fn := fun _ => fun
  | [d] => { results := [.lit (.bool false)], args := [d] }
  | _ => none }
def ArenaWalkWrongFalsely : Prop := arenaWalkRow.holds Try.pinned (OpenSpec.ofChange arenaWalkWrong)

/-- 'larderlaw2.ArenaCollect': WHATEVER THE INPUT: true; the input reads as it did. -/
def arenaCollectSpec : ChangeSpec := { name := "arenaCollect", fn := fun _ => fun
  | [d] => { results := [.lit (.bool true)], args := [d] }
  | _ => none }
def arenaCollectRow : OpenClaim := { program := "ytgjcffjicbmkhaa", sum := "ca3157437dbd2333bc035d9f3f85bfdb40f38e62897df7ad7922d34bbdc8b1c3", func := "larder/larderlaw2.ArenaCollect", spec := "arenaCollect", apart := false }
def ArenaCollectSaid : Prop := arenaCollectRow.holds Try.pinned (OpenSpec.ofChange arenaCollectSpec)

/-- ITS FALSE NEIGHBOUR: 'it returns false'. Refute it at one input. -/
def arenaCollectWrong : ChangeSpec := { name := "arenaCollect", fn := fun _ => fun
  | [d] => { results := [.lit (.bool false)], args := [d] }
  | _ => none }
def ArenaCollectWrongFalsely : Prop := arenaCollectRow.holds Try.pinned (OpenSpec.ofChange arenaCollectWrong)

/-- 'larderlaw2.ArenaBytes': WHATEVER THE INPUT: true; the input reads as it did. -/
def arenaBytesSpec : ChangeSpec := { name := "arenaBytes", fn := fun _ => fun
  | [d] => { results := [.lit (.bool true)], args := [d] }
  | _ => none }
def arenaBytesRow : OpenClaim := { program := "ytgjcffjicbmkhaa", sum := "ca3157437dbd2333bc035d9f3f85bfdb40f38e62897df7ad7922d34bbdc8b1c3", func := "larder/larderlaw2.ArenaBytes", spec := "arenaBytes", apart := false }
def ArenaBytesSaid : Prop := arenaBytesRow.holds Try.pinned (OpenSpec.ofChange arenaBytesSpec)

/-- ITS FALSE NEIGHBOUR: 'it returns false'. Refute it at one input. -/
def arenaBytesWrong : ChangeSpec := { name := "arenaBytes", fn := fun _ => fun
  | [d] => { results := [.lit (.bool false)], args := [d] }
  | _ => none }
def ArenaBytesWrongFalsely : Prop := arenaBytesRow.holds Try.pinned (OpenSpec.ofChange arenaBytesWrong)

/-- 'larderlaw2.ArenaRefused': WHATEVER THE INPUT: true; the input reads as it did. -/
def arenaRefusedSpec : ChangeSpec := { name := "arenaRefused", fn := fun _ => fun
  | [d] => { results := [.lit (.bool true)], args := [d] }
  | _ => none }
def arenaRefusedRow : OpenClaim := { program := "ytgjcffjicbmkhaa", sum := "ca3157437dbd2333bc035d9f3f85bfdb40f38e62897df7ad7922d34bbdc8b1c3", func := "larder/larderlaw2.ArenaRefused", spec := "arenaRefused", apart := false }
def ArenaRefusedSaid : Prop := arenaRefusedRow.holds Try.pinned (OpenSpec.ofChange arenaRefusedSpec)

/-- ITS FALSE NEIGHBOUR: 'it returns false'. Refute it at one input. -/
def arenaRefusedWrong : ChangeSpec := { name := "arenaRefused", fn := fun _ => fun
  | [d] => { results := [.lit (.bool false)], args := [d] }
  | _ => none }
def ArenaRefusedWrongFalsely : Prop := arenaRefusedRow.holds Try.pinned (OpenSpec.ofChange arenaRefusedWrong)

/-- 'larderlaw2.ArenaExact': WHATEVER THE INPUT: true; the input reads as it did. -/
def arenaExactSpec : ChangeSpec := { name := "arenaExact", fn := fun _ => fun
  | [d] => { results := [.lit (.bool true)], args := [d] }
  | _ => none }
def arenaExactRow : OpenClaim := { program := "ytgjcffjicbmkhaa", sum := "ca3157437dbd2333bc035d9f3f85bfdb40f38e62897df7ad7922d34bbdc8b1c3", func := "larder/larderlaw2.ArenaExact", spec := "arenaExact", apart := false }
def ArenaExactSaid : Prop := arenaExactRow.holds Try.pinned (OpenSpec.ofChange arenaExactSpec)

/-- ITS FALSE NEIGHBOUR: 'it returns false'. Refute it at one input. -/
def arenaExactWrong : ChangeSpec := { name := "arenaExact", fn := fun _ => fun
  | [d] => { results := [.lit (.bool false)], args := [d] }
  | _ => none }
def ArenaExactWrongFalsely : Prop := arenaExactRow.holds Try.pinned (OpenSpec.ofChange arenaExactWrong)

/-- 'larderlaw2.ArenaGreat': WHATEVER THE INPUT: true; the input reads as it did. -/
def arenaGreatSpec : ChangeSpec := { name := "arenaGreat", fn := fun _ => fun
  | [] => { results := [.lit (.bool true)], args := [] }
  | _ => none }
def arenaGreatRow : OpenClaim := { program := "ytgjcffjicbmkhaa", sum := "ca3157437dbd2333bc035d9f3f85bfdb40f38e62897df7ad7922d34bbdc8b1c3", func := "larder/larderlaw2.ArenaGreat", spec := "arenaGreat", apart := false }
def ArenaGreatSaid : Prop := arenaGreatRow.holds Try.pinned (OpenSpec.ofChange arenaGreatSpec)

/-- ITS FALSE NEIGHBOUR: 'it returns false'. Refute it at one input. -/
def arenaGreatWrong : ChangeSpec := { name := "arenaGreat", fn := fun _ => fun
  | [] => { results := [.lit (.bool false)], args := [] }
  | _ => none }
def ArenaGreatWrongFalsely : Prop := arenaGreatRow.holds Try.pinned (OpenSpec.ofChange arenaGreatWrong)

/- THE SECOND FORM. 'bulk': how many values and letters a reading holds, each counted each time it is reached (what is shared counts as often as it is met; a slice's spare places count too). A statement '..UptoSaid' is the law's where the arguments, and the package variables that the reading takes, are together of bulk at most 1048576: NARROWER than '..Said'. Prove '..Said' where nothing that the law and all that it calls make is longer than what came in: it says more and counts as full. Else prove '..UptoSaid'. A law counts once. -/
mutual
def uptoBulk {H : Type} : DataW H → Nat
  | .lit (.string bytes) => bytes.length + 1
  | .lit _ => 1
  | .nil => 1
  | .ptr d => uptoBulk d + 1
  | .slice elems spare => uptoBulkAll elems + uptoBulkAll spare + 1
  | .agg parts => uptoBulkAll parts + 1
  | .iface _ d => uptoBulk d + 1
  | .map entries => uptoBulkEntries entries + 1
  | .held _ => 1
def uptoBulkAll {H : Type} : List (DataW H) → Nat
  | [] => 0
  | d :: r => uptoBulk d + uptoBulkAll r
def uptoBulkEntries {H : Type} : List (Lit × DataW H) → Nat
  | [] => 0
  | x :: r => uptoBulkEntry x + uptoBulkEntries r
def uptoBulkEntry {H : Type} : Lit × DataW H → Nat
  | (.string bytes, d) => bytes.length + uptoBulk d + 1
  | (_, d) => uptoBulk d + 1
 end
def uptoSmall : (H : Type) → List (DataW H) → Bool := fun _ ds => decide (uptoBulkAll ds ≤ 1048576)
def OpenSpec.upto (s : _root_.Go.ChangeSpec) : _root_.Go.OpenSpec := { _root_.Go.OpenSpec.ofChange s with cond := some uptoSmall }

/-- 'larderlaw2.ArenaMemory', WHERE WHAT IT READS IS OF BULK AT MOST 1048576: true; the input reads as it did. -/
def arenaMemoryUptoRow : OpenClaim := { program := "ytgjcffjicbmkhaa", sum := "ca3157437dbd2333bc035d9f3f85bfdb40f38e62897df7ad7922d34bbdc8b1c3", func := "larder/larderlaw2.ArenaMemory", spec := "arenaMemory", apart := false, narrowed := true }
def ArenaMemoryUptoSaid : Prop := arenaMemoryUptoRow.holds Try.pinned (OpenSpec.upto arenaMemorySpec)

/-- 'larderlaw2.ArenaWalk', WHERE WHAT IT READS IS OF BULK AT MOST 1048576: true; the input reads as it did. -/
def arenaWalkUptoRow : OpenClaim := { program := "ytgjcffjicbmkhaa", sum := "ca3157437dbd2333bc035d9f3f85bfdb40f38e62897df7ad7922d34bbdc8b1c3", func := "larder/larderlaw2.ArenaWalk", spec := "arenaWalk", apart := false, narrowed := true }
def ArenaWalkUptoSaid : Prop := arenaWalkUptoRow.holds Try.pinned (OpenSpec.upto arenaWalkSpec)

/-- 'larderlaw2.ArenaCollect', WHERE WHAT IT READS IS OF BULK AT MOST 1048576: true; the input reads as it did. -/
def arenaCollectUptoRow : OpenClaim := { program := "ytgjcffjicbmkhaa", sum := "ca3157437dbd2333bc035d9f3f85bfdb40f38e62897df7ad7922d34bbdc8b1c3", func := "larder/larderlaw2.ArenaCollect", spec := "arenaCollect", apart := false, narrowed := true }
def ArenaCollectUptoSaid : Prop := arenaCollectUptoRow.holds Try.pinned (OpenSpec.upto arenaCollectSpec)

/-- 'larderlaw2.ArenaBytes', WHERE WHAT IT READS IS OF BULK AT MOST 1048576: true; the input reads as it did. -/
def arenaBytesUptoRow : OpenClaim := { program := "ytgjcffjicbmkhaa", sum := "ca3157437dbd2333bc035d9f3f85bfdb40f38e62897df7ad7922d34bbdc8b1c3", func := "larder/larderlaw2.ArenaBytes", spec := "arenaBytes", apart := false, narrowed := true }
def ArenaBytesUptoSaid : Prop := arenaBytesUptoRow.holds Try.pinned (OpenSpec.upto arenaBytesSpec)

/-- 'larderlaw2.ArenaRefused', WHERE WHAT IT READS IS OF BULK AT MOST 1048576: true; the input reads as it did. -/
def arenaRefusedUptoRow : OpenClaim := { program := "ytgjcffjicbmkhaa", sum := "ca3157437dbd2333bc035d9f3f85bfdb40f38e62897df7ad7922d34bbdc8b1c3", func := "larder/larderlaw2.ArenaRefused", spec := "arenaRefused", apart := false, narrowed := true }
def ArenaRefusedUptoSaid : Prop := arenaRefusedUptoRow.holds Try.pinned (OpenSpec.upto arenaRefusedSpec)

/-- 'larderlaw2.ArenaExact', WHERE WHAT IT READS IS OF BULK AT MOST 1048576: true; the input reads as it did. -/
def arenaExactUptoRow : OpenClaim := { program := "ytgjcffjicbmkhaa", sum := "ca3157437dbd2333bc035d9f3f85bfdb40f38e62897df7ad7922d34bbdc8b1c3", func := "larder/larderlaw2.ArenaExact", spec := "arenaExact", apart := false, narrowed := true }
def ArenaExactUptoSaid : Prop := arenaExactUptoRow.holds Try.pinned (OpenSpec.upto arenaExactSpec)

/-- 'larderlaw2.ArenaGreat', WHERE WHAT IT READS IS OF BULK AT MOST 1048576: true; the input reads as it did. -/
def arenaGreatUptoRow : OpenClaim := { program := "ytgjcffjicbmkhaa", sum := "ca3157437dbd2333bc035d9f3f85bfdb40f38e62897df7ad7922d34bbdc8b1c3", func := "larder/larderlaw2.ArenaGreat", spec := "arenaGreat", apart := false, narrowed := true }
def ArenaGreatUptoSaid : Prop := arenaGreatUptoRow.holds Try.pinned (OpenSpec.upto arenaGreatSpec)

end Rows
end Go.Proofs.Ytgjcffjicbmkhaa
