/-
  NARROWER THAN 'FOR EVERY INPUT', by the rows' own cells (each row's printed sentence says how): MatchQuoted: laid · MatchClass: laid · MatchSplit: laid · MatchSpans: laid · MatchEnds: laid · MatchGlob: laid · MatchWindow: laid · MatchFills: laid.
  DERIVED. THE GIVEN ROWS OF THIS SEAT. 8 by the template 'for every input the law returns true; each argument reads behind the call as it read before'; 0 by the template 'total and deterministic' (their statements: YtdflblegdfpdpaaDoorTotals.lean).
  GIVEN WITH THE SEED: the statements are not yours to turn. If you find one false, say at which input.
  Laid BY PROGRAM, IN A SANDBOX (cutbox-rows.mjs): the forced cells as the released guide's own fill.sh prints them over the translation b458a66824ee0ac0… (all of the seat's roots in one cut). By AI agents, Wed Nov 11 2026. No macro, syntax, notation, axiom, sorry.
-/
import Derived.Test.YtdflblegdfpdpaaDoorChecked
import GoSem.Claim
import GoSem.ClaimJoined
import GoSem.ClaimMapViews
import Derived.JoinedTies
import Derived.KernelRfl
namespace Go.Proofs.YtdflblegdfpdpaaDoor
/- THE CELL 'sum', in the pinned program and in every row, IS THE sha256 OF THE DUMP (.gsa) THAT YtdflblegdfpdpaaDoorProg.lean LOADS. Nothing in Lean hashes anything: it is a label: what it is worth is what the hold of that sum in a sandbox is worth. -/
noncomputable def Tryd.pinned : Pinned := { name := "ytdflblegdfpdpaadoor", sum := "b458a66824ee0ac09c2600e6e52870919ae6d329b2b8eb8824aef68e6e46da0a", checked := Tryd.checked }
namespace Rows
def none {H : Type} : Left H := { results := [], args := [] }

/- WHAT THE LISTED PACKAGE-LEVEL VARIABLES READ AS WHEN THE CALL BEGINS. Each datum BY PROGRAM (the guide's laid-datum.mjs) off the statement by which the dump's own 'gosem.cut.vars' lays the variable. In a bare row this is a premise. The card (YtdflblegdfpdpaaDoorCards.lean) ties it to the program's text. -/
def laid_larder_match_nothing {H : Type} : DataW H := .agg [.lit (.int .u64 0), .lit (.int .u64 0), .lit (.int .u64 0), .lit (.int .u64 0)]
def laid_larder_match_everything {H : Type} : DataW H := .agg [.lit (.int .u64 18446744073709551615), .lit (.int .u64 18446744073709551615), .lit (.int .u64 18446744073709551615), .lit (.int .u64 18446744073709551615)]

/-- 'larderlaw9.MatchQuoted': WHATEVER THE INPUT: true; the input reads as it did. -/
def matchQuotedSpec : ChangeSpec := { name := "matchQuoted", fn := fun _ => fun
  | [d] => { results := [.lit (.bool true)], args := [d] }
  | _ => none }
def matchQuotedRow : OpenClaim := { program := "ytdflblegdfpdpaadoor", sum := "b458a66824ee0ac09c2600e6e52870919ae6d329b2b8eb8824aef68e6e46da0a", func := "larder/larderlaw9.MatchQuoted", spec := "matchQuoted", named := ["larder/match.nothing", "larder/match.everything"], apart := false, laid := [("larder/match.nothing", laid_larder_match_nothing), ("larder/match.everything", laid_larder_match_everything)] }
def MatchQuotedSaid : Prop := matchQuotedRow.holds Tryd.pinned (OpenSpec.ofChange matchQuotedSpec)

/-- ITS FALSE NEIGHBOUR: 'it returns false'. Refute it at one input. -/
def matchQuotedWrong : ChangeSpec := { name := "matchQuoted", fn := fun _ => fun
  | [d] => { results := [.lit (.bool false)], args := [d] }
  | _ => none }
def MatchQuotedWrongFalsely : Prop := matchQuotedRow.holds Tryd.pinned (OpenSpec.ofChange matchQuotedWrong)

/-- 'larderlaw9.MatchClass': WHATEVER THE INPUT: true; the input reads as it did. -/
def matchClassSpec : ChangeSpec := { name := "matchClass", fn := fun _ => fun
  | [d] => { results := [.lit (.bool true)], args := [d] }
  | _ => none }
def matchClassRow : OpenClaim := { program := "ytdflblegdfpdpaadoor", sum := "b458a66824ee0ac09c2600e6e52870919ae6d329b2b8eb8824aef68e6e46da0a", func := "larder/larderlaw9.MatchClass", spec := "matchClass", named := ["larder/match.nothing", "larder/match.everything"], apart := false, laid := [("larder/match.nothing", laid_larder_match_nothing), ("larder/match.everything", laid_larder_match_everything)] }
def MatchClassSaid : Prop := matchClassRow.holds Tryd.pinned (OpenSpec.ofChange matchClassSpec)

/-- ITS FALSE NEIGHBOUR: 'it returns false'. Refute it at one input. -/
def matchClassWrong : ChangeSpec := { name := "matchClass", fn := fun _ => fun
  | [d] => { results := [.lit (.bool false)], args := [d] }
  | _ => none }
def MatchClassWrongFalsely : Prop := matchClassRow.holds Tryd.pinned (OpenSpec.ofChange matchClassWrong)

/-- 'larderlaw9.MatchSplit': WHATEVER THE INPUT: true; the input reads as it did. -/
def matchSplitSpec : ChangeSpec := { name := "matchSplit", fn := fun _ => fun
  | [d] => { results := [.lit (.bool true)], args := [d] }
  | _ => none }
def matchSplitRow : OpenClaim := { program := "ytdflblegdfpdpaadoor", sum := "b458a66824ee0ac09c2600e6e52870919ae6d329b2b8eb8824aef68e6e46da0a", func := "larder/larderlaw9.MatchSplit", spec := "matchSplit", named := ["larder/match.nothing", "larder/match.everything"], apart := false, laid := [("larder/match.nothing", laid_larder_match_nothing), ("larder/match.everything", laid_larder_match_everything)] }
def MatchSplitSaid : Prop := matchSplitRow.holds Tryd.pinned (OpenSpec.ofChange matchSplitSpec)

/-- ITS FALSE NEIGHBOUR: 'it returns false'. Refute it at one input. -/
def matchSplitWrong : ChangeSpec := { name := "matchSplit", fn := fun _ => fun
  | [d] => { results := [.lit (.bool false)], args := [d] }
  | _ => none }
def MatchSplitWrongFalsely : Prop := matchSplitRow.holds Tryd.pinned (OpenSpec.ofChange matchSplitWrong)

/-- 'larderlaw9.MatchSpans': WHATEVER THE INPUT: true; the input reads as it did. -/
def matchSpansSpec : ChangeSpec := { name := "matchSpans", fn := fun _ => fun
  | [d] => { results := [.lit (.bool true)], args := [d] }
  | _ => none }
def matchSpansRow : OpenClaim := { program := "ytdflblegdfpdpaadoor", sum := "b458a66824ee0ac09c2600e6e52870919ae6d329b2b8eb8824aef68e6e46da0a", func := "larder/larderlaw9.MatchSpans", spec := "matchSpans", named := ["larder/match.nothing", "larder/match.everything"], apart := false, laid := [("larder/match.nothing", laid_larder_match_nothing), ("larder/match.everything", laid_larder_match_everything)] }
def MatchSpansSaid : Prop := matchSpansRow.holds Tryd.pinned (OpenSpec.ofChange matchSpansSpec)

/-- ITS FALSE NEIGHBOUR: 'it returns false'. Refute it at one input. -/
def matchSpansWrong : ChangeSpec := { name := "matchSpans", fn := fun _ => fun
  | [d] => { results := [.lit (.bool false)], args := [d] }
  | _ => none }
def MatchSpansWrongFalsely : Prop := matchSpansRow.holds Tryd.pinned (OpenSpec.ofChange matchSpansWrong)

/-- 'larderlaw9.MatchEnds': WHATEVER THE INPUT: true; the input reads as it did. -/
def matchEndsSpec : ChangeSpec := { name := "matchEnds", fn := fun _ => fun
  | [d] => { results := [.lit (.bool true)], args := [d] }
  | _ => none }
def matchEndsRow : OpenClaim := { program := "ytdflblegdfpdpaadoor", sum := "b458a66824ee0ac09c2600e6e52870919ae6d329b2b8eb8824aef68e6e46da0a", func := "larder/larderlaw9.MatchEnds", spec := "matchEnds", inPlace := ["internal/bytealg.Compare"], named := ["larder/match.nothing", "larder/match.everything"], apart := false, laid := [("larder/match.nothing", laid_larder_match_nothing), ("larder/match.everything", laid_larder_match_everything)] }
def MatchEndsSaid : Prop := matchEndsRow.holds Tryd.pinned (OpenSpec.ofChange matchEndsSpec)

/-- ITS FALSE NEIGHBOUR: 'it returns false'. Refute it at one input. -/
def matchEndsWrong : ChangeSpec := { name := "matchEnds", fn := fun _ => fun
  | [d] => { results := [.lit (.bool false)], args := [d] }
  | _ => none }
def MatchEndsWrongFalsely : Prop := matchEndsRow.holds Tryd.pinned (OpenSpec.ofChange matchEndsWrong)

/-- 'larderlaw9.MatchGlob': WHATEVER THE INPUT: true; the input reads as it did. -/
def matchGlobSpec : ChangeSpec := { name := "matchGlob", fn := fun _ => fun
  | [d] => { results := [.lit (.bool true)], args := [d] }
  | _ => none }
def matchGlobRow : OpenClaim := { program := "ytdflblegdfpdpaadoor", sum := "b458a66824ee0ac09c2600e6e52870919ae6d329b2b8eb8824aef68e6e46da0a", func := "larder/larderlaw9.MatchGlob", spec := "matchGlob", inPlace := ["internal/bytealg.Compare", "internal/bytealg.IndexByte", "internal/bytealg.Index", "internal/bytealg.MakeNoZero"], named := ["larder/match.nothing", "larder/match.everything", "internal/bytealg.MaxLen"], apart := false, laid := [("larder/match.nothing", laid_larder_match_nothing), ("larder/match.everything", laid_larder_match_everything)] }
def MatchGlobSaid : Prop := matchGlobRow.holds Tryd.pinned (OpenSpec.ofChange matchGlobSpec)

/-- ITS FALSE NEIGHBOUR: 'it returns false'. Refute it at one input. -/
def matchGlobWrong : ChangeSpec := { name := "matchGlob", fn := fun _ => fun
  | [d] => { results := [.lit (.bool false)], args := [d] }
  | _ => none }
def MatchGlobWrongFalsely : Prop := matchGlobRow.holds Tryd.pinned (OpenSpec.ofChange matchGlobWrong)

/-- 'larderlaw9.MatchWindow': WHATEVER THE INPUT: true; the input reads as it did. -/
def matchWindowSpec : ChangeSpec := { name := "matchWindow", fn := fun _ => fun
  | [d] => { results := [.lit (.bool true)], args := [d] }
  | _ => none }
def matchWindowRow : OpenClaim := { program := "ytdflblegdfpdpaadoor", sum := "b458a66824ee0ac09c2600e6e52870919ae6d329b2b8eb8824aef68e6e46da0a", func := "larder/larderlaw9.MatchWindow", spec := "matchWindow", inPlace := ["internal/bytealg.Compare", "internal/bytealg.IndexByte", "internal/bytealg.Index", "internal/bytealg.MakeNoZero"], named := ["larder/match.nothing", "larder/match.everything", "internal/bytealg.MaxLen"], apart := false, laid := [("larder/match.nothing", laid_larder_match_nothing), ("larder/match.everything", laid_larder_match_everything)] }
def MatchWindowSaid : Prop := matchWindowRow.holds Tryd.pinned (OpenSpec.ofChange matchWindowSpec)

/-- ITS FALSE NEIGHBOUR: 'it returns false'. Refute it at one input. -/
def matchWindowWrong : ChangeSpec := { name := "matchWindow", fn := fun _ => fun
  | [d] => { results := [.lit (.bool false)], args := [d] }
  | _ => none }
def MatchWindowWrongFalsely : Prop := matchWindowRow.holds Tryd.pinned (OpenSpec.ofChange matchWindowWrong)

/-- 'larderlaw9.MatchFills': WHATEVER THE INPUT: true; the input reads as it did. -/
def matchFillsSpec : ChangeSpec := { name := "matchFills", fn := fun _ => fun
  | [d] => { results := [.lit (.bool true)], args := [d] }
  | _ => none }
def matchFillsRow : OpenClaim := { program := "ytdflblegdfpdpaadoor", sum := "b458a66824ee0ac09c2600e6e52870919ae6d329b2b8eb8824aef68e6e46da0a", func := "larder/larderlaw9.MatchFills", spec := "matchFills", inPlace := ["internal/bytealg.Compare", "internal/bytealg.IndexByte", "internal/bytealg.Index", "internal/bytealg.MakeNoZero"], named := ["larder/match.nothing", "larder/match.everything", "internal/bytealg.MaxLen"], apart := false, laid := [("larder/match.nothing", laid_larder_match_nothing), ("larder/match.everything", laid_larder_match_everything)] }
def MatchFillsSaid : Prop := matchFillsRow.holds Tryd.pinned (OpenSpec.ofChange matchFillsSpec)

/-- ITS FALSE NEIGHBOUR: 'it returns false'. Refute it at one input. -/
def matchFillsWrong : ChangeSpec := { name := "matchFills", fn := fun _ => fun
  | [d] => { results := [.lit (.bool false)], args := [d] }
  | _ => none }
def MatchFillsWrongFalsely : Prop := matchFillsRow.holds Tryd.pinned (OpenSpec.ofChange matchFillsWrong)

/- THE SECOND FORM. 'bulk': how many values and letters a reading holds, each counted each time it is reached (what is shared counts as often as it is met; a slice's spare places count too). A statement '..UptoSaid' is the law's where the arguments, and the package variables that the reading takes, are together of bulk at most 1048576: NARROWER than '..Said'. Prove '..Said' where nothing that the law and all that it calls make is longer than what came in: it says more and counts as full. Else prove '..UptoSaid'. A law counts once. -/
mutual
def uptoBulk {H : Type} : DataW H → Nat
  | .lit (.string bytes) => bytes.length + 1
  | .lit _ => 1
  | .nil => 1
  | .ptr d => uptoBulk d + 1
  | .slice elems spare => uptoBulkAll elems + uptoBulkAll spare + 1
  | .agg parts => uptoBulkAll parts + 1
  | .iface _ d => uptoBulk d + 1
  | .map entries => uptoBulkEntries entries + 1
  | .held _ => 1
def uptoBulkAll {H : Type} : List (DataW H) → Nat
  | [] => 0
  | d :: r => uptoBulk d + uptoBulkAll r
def uptoBulkEntries {H : Type} : List (Lit × DataW H) → Nat
  | [] => 0
  | x :: r => uptoBulkEntry x + uptoBulkEntries r
def uptoBulkEntry {H : Type} : Lit × DataW H → Nat
  | (.string bytes, d) => bytes.length + uptoBulk d + 1
  | (_, d) => uptoBulk d + 1
 end
def uptoSmall : (H : Type) → List (DataW H) → Bool := fun _ ds => decide (uptoBulkAll ds ≤ 1048576)
def OpenSpec.upto (s : _root_.Go.ChangeSpec) : _root_.Go.OpenSpec := { _root_.Go.OpenSpec.ofChange s with cond := some uptoSmall }

/-- 'larderlaw9.MatchQuoted', WHERE WHAT IT READS IS OF BULK AT MOST 1048576: true; the input reads as it did. -/
def matchQuotedUptoRow : OpenClaim := { program := "ytdflblegdfpdpaadoor", sum := "b458a66824ee0ac09c2600e6e52870919ae6d329b2b8eb8824aef68e6e46da0a", func := "larder/larderlaw9.MatchQuoted", spec := "matchQuoted", named := ["larder/match.nothing", "larder/match.everything"], apart := false, laid := [("larder/match.nothing", laid_larder_match_nothing), ("larder/match.everything", laid_larder_match_everything)], narrowed := true }
def MatchQuotedUptoSaid : Prop := matchQuotedUptoRow.holds Tryd.pinned (OpenSpec.upto matchQuotedSpec)

/-- 'larderlaw9.MatchClass', WHERE WHAT IT READS IS OF BULK AT MOST 1048576: true; the input reads as it did. -/
def matchClassUptoRow : OpenClaim := { program := "ytdflblegdfpdpaadoor", sum := "b458a66824ee0ac09c2600e6e52870919ae6d329b2b8eb8824aef68e6e46da0a", func := "larder/larderlaw9.MatchClass", spec := "matchClass", named := ["larder/match.nothing", "larder/match.everything"], apart := false, laid := [("larder/match.nothing", laid_larder_match_nothing), ("larder/match.everything", laid_larder_match_everything)], narrowed := true }
def MatchClassUptoSaid : Prop := matchClassUptoRow.holds Tryd.pinned (OpenSpec.upto matchClassSpec)

/-- 'larderlaw9.MatchSplit', WHERE WHAT IT READS IS OF BULK AT MOST 1048576: true; the input reads as it did. -/
def matchSplitUptoRow : OpenClaim := { program := "ytdflblegdfpdpaadoor", sum := "b458a66824ee0ac09c2600e6e52870919ae6d329b2b8eb8824aef68e6e46da0a", func := "larder/larderlaw9.MatchSplit", spec := "matchSplit", named := ["larder/match.nothing", "larder/match.everything"], apart := false, laid := [("larder/match.nothing", laid_larder_match_nothing), ("larder/match.everything", laid_larder_match_everything)], narrowed := true }
def MatchSplitUptoSaid : Prop := matchSplitUptoRow.holds Tryd.pinned (OpenSpec.upto matchSplitSpec)

/-- 'larderlaw9.MatchSpans', WHERE WHAT IT READS IS OF BULK AT MOST 1048576: true; the input reads as it did. -/
def matchSpansUptoRow : OpenClaim := { program := "ytdflblegdfpdpaadoor", sum := "b458a66824ee0ac09c2600e6e52870919ae6d329b2b8eb8824aef68e6e46da0a", func := "larder/larderlaw9.MatchSpans", spec := "matchSpans", named := ["larder/match.nothing", "larder/match.everything"], apart := false, laid := [("larder/match.nothing", laid_larder_match_nothing), ("larder/match.everything", laid_larder_match_everything)], narrowed := true }
def MatchSpansUptoSaid : Prop := matchSpansUptoRow.holds Tryd.pinned (OpenSpec.upto matchSpansSpec)

/-- 'larderlaw9.MatchEnds', WHERE WHAT IT READS IS OF BULK AT MOST 1048576: true; the input reads as it did. -/
def matchEndsUptoRow : OpenClaim := { program := "ytdflblegdfpdpaadoor", sum := "b458a66824ee0ac09c2600e6e52870919ae6d329b2b8eb8824aef68e6e46da0a", func := "larder/larderlaw9.MatchEnds", spec := "matchEnds", inPlace := ["internal/bytealg.Compare"], named := ["larder/match.nothing", "larder/match.everything"], apart := false, laid := [("larder/match.nothing", laid_larder_match_nothing), ("larder/match.everything", laid_larder_match_everything)], narrowed := true }
def MatchEndsUptoSaid : Prop := matchEndsUptoRow.holds Tryd.pinned (OpenSpec.upto matchEndsSpec)

/-- 'larderlaw9.MatchGlob', WHERE WHAT IT READS IS OF BULK AT MOST 1048576: true; the input reads as it did. -/
def matchGlobUptoRow : OpenClaim := { program := "ytdflblegdfpdpaadoor", sum := "b458a66824ee0ac09c2600e6e52870919ae6d329b2b8eb8824aef68e6e46da0a", func := "larder/larderlaw9.MatchGlob", spec := "matchGlob", inPlace := ["internal/bytealg.Compare", "internal/bytealg.IndexByte", "internal/bytealg.Index", "internal/bytealg.MakeNoZero"], named := ["larder/match.nothing", "larder/match.everything", "internal/bytealg.MaxLen"], apart := false, laid := [("larder/match.nothing", laid_larder_match_nothing), ("larder/match.everything", laid_larder_match_everything)], narrowed := true }
def MatchGlobUptoSaid : Prop := matchGlobUptoRow.holds Tryd.pinned (OpenSpec.upto matchGlobSpec)

/-- 'larderlaw9.MatchWindow', WHERE WHAT IT READS IS OF BULK AT MOST 1048576: true; the input reads as it did. -/
def matchWindowUptoRow : OpenClaim := { program := "ytdflblegdfpdpaadoor", sum := "b458a66824ee0ac09c2600e6e52870919ae6d329b2b8eb8824aef68e6e46da0a", func := "larder/larderlaw9.MatchWindow", spec := "matchWindow", inPlace := ["internal/bytealg.Compare", "internal/bytealg.IndexByte", "internal/bytealg.Index", "internal/bytealg.MakeNoZero"], named := ["larder/match.nothing", "larder/match.everything", "internal/bytealg.MaxLen"], apart := false, laid := [("larder/match.nothing", laid_larder_match_nothing), ("larder/match.everything", laid_larder_match_everything)], narrowed := true }
def MatchWindowUptoSaid : Prop := matchWindowUptoRow.holds Tryd.pinned (OpenSpec.upto matchWindowSpec)

/-- 'larderlaw9.MatchFills', WHERE WHAT IT READS IS OF BULK AT MOST 1048576: true; the input reads as it did. -/
def matchFillsUptoRow : OpenClaim := { program := "ytdflblegdfpdpaadoor", sum := "b458a66824ee0ac09c2600e6e52870919ae6d329b2b8eb8824aef68e6e46da0a", func := "larder/larderlaw9.MatchFills", spec := "matchFills", inPlace := ["internal/bytealg.Compare", "internal/bytealg.IndexByte", "internal/bytealg.Index", "internal/bytealg.MakeNoZero"], named := ["larder/match.nothing", "larder/match.everything", "internal/bytealg.MaxLen"], apart := false, laid := [("larder/match.nothing", laid_larder_match_nothing), ("larder/match.everything", laid_larder_match_everything)], narrowed := true }
def MatchFillsUptoSaid : Prop := matchFillsUptoRow.holds Tryd.pinned (OpenSpec.upto matchFillsSpec)

end Rows
end Go.Proofs.YtdflblegdfpdpaaDoor
