/-
  No cell of these rows narrows 'for every input' (looked for: loops, veiled, ifaces, maps, wideKeys, modest, calm, conditions, laid).
  DERIVED. THE GIVEN ROWS OF THIS SEAT. 4 by the template 'for every input the law returns true; each argument reads behind the call as it read before'; 0 by the template 'total and deterministic' (their statements: YtfdkcnbkoagmiaaTotals.lean).
  GIVEN WITH THE SEED: the statements are not yours to turn. If you find one false, say at which input.
  Laid BY PROGRAM, IN A SANDBOX (cutbox-rows.mjs): the forced cells as the released guide's own fill.sh prints them over the translation 5ad55dd3e146472f… (all of the seat's roots in one cut). By AI agents, Wed Nov 11 2026. No macro, syntax, notation, axiom, sorry.
-/
import Derived.Test.YtfdkcnbkoagmiaaChecked
import GoSem.Claim
import GoSem.ClaimJoined
import GoSem.ClaimMapViews
import Derived.JoinedTies
import Derived.KernelRfl
namespace Go.Proofs.Ytfdkcnbkoagmiaa
/- THE CELL 'sum', in the pinned program and in every row, IS THE sha256 OF THE DUMP (.gsa) THAT YtfdkcnbkoagmiaaProg.lean LOADS. Nothing in Lean hashes anything: it is a label: what it is worth is what the hold of that sum in a sandbox is worth. -/
noncomputable def Try.pinned : Pinned := { name := "ytfdkcnbkoagmiaa", sum := "5ad55dd3e146472f51cbbc0a02a44d473ab03b60a643cb6d44d23130190fa4cd", checked := Try.checked }
namespace Rows
def none {H : Type} : Left H := { results := [], args := [] }

/-- 'larderlaw8.WireTyped': WHATEVER THE INPUT: true; the input reads as it did. -/
def wireTypedSpec : ChangeSpec := { name := "wireTyped", fn := fun _ => fun
  | [d] => { results := [.lit (.bool true)], args := [d] }
  | _ => none }
def wireTypedRow : OpenClaim := { program := "ytfdkcnbkoagmiaa", sum := "5ad55dd3e146472f51cbbc0a02a44d473ab03b60a643cb6d44d23130190fa4cd", func := "larder/larderlaw8.WireTyped", spec := "wireTyped", unfollowed := true, recurses := true, apart := false }
def WireTypedSaid : Prop := wireTypedRow.holds Try.pinned (OpenSpec.ofChange wireTypedSpec)

/-- ITS FALSE NEIGHBOUR: 'it returns false'. Refute it at one input. -/
def wireTypedWrong : ChangeSpec := { name := "wireTyped", fn := fun _ => fun
  | [d] => { results := [.lit (.bool false)], args := [d] }
  | _ => none }
def WireTypedWrongFalsely : Prop := wireTypedRow.holds Try.pinned (OpenSpec.ofChange wireTypedWrong)

/-- 'larderlaw8.WireFeed': WHATEVER THE INPUT: true; the input reads as it did. -/
def wireFeedSpec : ChangeSpec := { name := "wireFeed", fn := fun _ => fun
  | [d] => { results := [.lit (.bool true)], args := [d] }
  | _ => none }
def wireFeedRow : OpenClaim := { program := "ytfdkcnbkoagmiaa", sum := "5ad55dd3e146472f51cbbc0a02a44d473ab03b60a643cb6d44d23130190fa4cd", func := "larder/larderlaw8.WireFeed", spec := "wireFeed", unfollowed := true, recurses := true, apart := false }
def WireFeedSaid : Prop := wireFeedRow.holds Try.pinned (OpenSpec.ofChange wireFeedSpec)

/-- ITS FALSE NEIGHBOUR: 'it returns false'. Refute it at one input. -/
def wireFeedWrong : ChangeSpec := { name := "wireFeed", fn := fun _ => fun
  | [d] => { results := [.lit (.bool false)], args := [d] }
  | _ => none }
def WireFeedWrongFalsely : Prop := wireFeedRow.holds Try.pinned (OpenSpec.ofChange wireFeedWrong)

/-- 'larderlaw8.WireChunks': WHATEVER THE INPUT: true; the input reads as it did. -/
def wireChunksSpec : ChangeSpec := { name := "wireChunks", fn := fun _ => fun
  | [d] => { results := [.lit (.bool true)], args := [d] }
  | _ => none }
def wireChunksRow : OpenClaim := { program := "ytfdkcnbkoagmiaa", sum := "5ad55dd3e146472f51cbbc0a02a44d473ab03b60a643cb6d44d23130190fa4cd", func := "larder/larderlaw8.WireChunks", spec := "wireChunks", unfollowed := true, recurses := true, apart := false }
def WireChunksSaid : Prop := wireChunksRow.holds Try.pinned (OpenSpec.ofChange wireChunksSpec)

/-- ITS FALSE NEIGHBOUR: 'it returns false'. Refute it at one input. -/
def wireChunksWrong : ChangeSpec := { name := "wireChunks", fn := fun _ => fun
  | [d] => { results := [.lit (.bool false)], args := [d] }
  | _ => none }
def WireChunksWrongFalsely : Prop := wireChunksRow.holds Try.pinned (OpenSpec.ofChange wireChunksWrong)

/-- 'larderlaw8.WireLive': WHATEVER THE INPUT: true; the input reads as it did. -/
def wireLiveSpec : ChangeSpec := { name := "wireLive", fn := fun _ => fun
  | [d] => { results := [.lit (.bool true)], args := [d] }
  | _ => none }
def wireLiveRow : OpenClaim := { program := "ytfdkcnbkoagmiaa", sum := "5ad55dd3e146472f51cbbc0a02a44d473ab03b60a643cb6d44d23130190fa4cd", func := "larder/larderlaw8.WireLive", spec := "wireLive", unfollowed := true, recurses := true, apart := false }
def WireLiveSaid : Prop := wireLiveRow.holds Try.pinned (OpenSpec.ofChange wireLiveSpec)

/-- ITS FALSE NEIGHBOUR: 'it returns false'. Refute it at one input. -/
def wireLiveWrong : ChangeSpec := { name := "wireLive", fn := fun _ => fun
  | [d] => { results := [.lit (.bool false)], args := [d] }
  | _ => none }
def WireLiveWrongFalsely : Prop := wireLiveRow.holds Try.pinned (OpenSpec.ofChange wireLiveWrong)

/- THE SECOND FORM. 'bulk': how many values and letters a reading holds, each counted each time it is reached (what is shared counts as often as it is met; a slice's spare places count too). A statement '..UptoSaid' is the law's where the arguments, and the package variables that the reading takes, are together of bulk at most 1048576: NARROWER than '..Said'. Prove '..Said' where nothing that the law and all that it calls make is longer than what came in: it says more and counts as full. Else prove '..UptoSaid'. A law counts once. -/
mutual
def uptoBulk {H : Type} : DataW H → Nat
  | .lit (.string bytes) => bytes.length + 1
  | .lit _ => 1
  | .nil => 1
  | .ptr d => uptoBulk d + 1
  | .slice elems spare => uptoBulkAll elems + uptoBulkAll spare + 1
  | .agg parts => uptoBulkAll parts + 1
  | .iface _ d => uptoBulk d + 1
  | .map entries => uptoBulkEntries entries + 1
  | .held _ => 1
def uptoBulkAll {H : Type} : List (DataW H) → Nat
  | [] => 0
  | d :: r => uptoBulk d + uptoBulkAll r
def uptoBulkEntries {H : Type} : List (Lit × DataW H) → Nat
  | [] => 0
  | x :: r => uptoBulkEntry x + uptoBulkEntries r
def uptoBulkEntry {H : Type} : Lit × DataW H → Nat
  | (.string bytes, d) => bytes.length + uptoBulk d + 1
  | (_, d) => uptoBulk d + 1
 end
def uptoSmall : (H : Type) → List (DataW H) → Bool := fun _ ds => decide (uptoBulkAll ds ≤ 1048576)
def OpenSpec.upto (s : _root_.Go.ChangeSpec) : _root_.Go.OpenSpec := { _root_.Go.OpenSpec.ofChange s with cond := some uptoSmall }

/-- 'larderlaw8.WireTyped', WHERE WHAT IT READS IS OF BULK AT MOST 1048576: true; the input reads as it did. -/
def wireTypedUptoRow : OpenClaim := { program := "ytfdkcnbkoagmiaa", sum := "5ad55dd3e146472f51cbbc0a02a44d473ab03b60a643cb6d44d23130190fa4cd", func := "larder/larderlaw8.WireTyped", spec := "wireTyped", unfollowed := true, recurses := true, apart := false, narrowed := true }
def WireTypedUptoSaid : Prop := wireTypedUptoRow.holds Try.pinned (OpenSpec.upto wireTypedSpec)

/-- 'larderlaw8.WireFeed', WHERE WHAT IT READS IS OF BULK AT MOST 1048576: true; the input reads as it did. -/
def wireFeedUptoRow : OpenClaim := { program := "ytfdkcnbkoagmiaa", sum := "5ad55dd3e146472f51cbbc0a02a44d473ab03b60a643cb6d44d23130190fa4cd", func := "larder/larderlaw8.WireFeed", spec := "wireFeed", unfollowed := true, recurses := true, apart := false, narrowed := true }
def WireFeedUptoSaid : Prop := wireFeedUptoRow.holds Try.pinned (OpenSpec.upto wireFeedSpec)

/-- 'larderlaw8.WireChunks', WHERE WHAT IT READS IS OF BULK AT MOST 1048576: true; the input reads as it did. -/
def wireChunksUptoRow : OpenClaim := { program := "ytfdkcnbkoagmiaa", sum := "5ad55dd3e146472f51cbbc0a02a44d473ab03b60a643cb6d44d23130190fa4cd", func := "larder/larderlaw8.WireChunks", spec := "wireChunks", unfollowed := true, recurses := true, apart := false, narrowed := true }
def WireChunksUptoSaid : Prop := wireChunksUptoRow.holds Try.pinned (OpenSpec.upto wireChunksSpec)

/-- 'larderlaw8.WireLive', WHERE WHAT IT READS IS OF BULK AT MOST 1048576: true; the input reads as it did. -/
def wireLiveUptoRow : OpenClaim := { program := "ytfdkcnbkoagmiaa", sum := "5ad55dd3e146472f51cbbc0a02a44d473ab03b60a643cb6d44d23130190fa4cd", func := "larder/larderlaw8.WireLive", spec := "wireLive", unfollowed := true, recurses := true, apart := false, narrowed := true }
def WireLiveUptoSaid : Prop := wireLiveUptoRow.holds Try.pinned (OpenSpec.upto wireLiveSpec)

end Rows
end Go.Proofs.Ytfdkcnbkoagmiaa
