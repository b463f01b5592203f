/-
  DERIVED. GIVEN WITH THE SEED: THE CARDS: each row of YtdflblegdfpdpaaDoorRows.lean that lists a variable, with what it lists TIED to the program's text (the seventh form; the later family's looks); each row that meets fmt, with fmt's text TOLD by the authors' own Lean function (tested against real Go, not proved from fmt's source: count such statements apart). THE CARD IS WHAT COUNTS. Prove the row's statement (the work); the ties are given (YtdflblegdfpdpaaDoorTie.lean); close each card by the builder's one call (the guide's Derived/Test/ToyasCard.lean, 'card_holds'). Laid BY PROGRAM, IN A SANDBOX (cutbox-door.mjs). By AI agents, Wed Nov 11 2026. No macro, syntax, notation, axiom, sorry.
-/
import Derived.Test.YtdflblegdfpdpaaDoorRows
import GoSem.ClaimSeven
namespace Go.Proofs.YtdflblegdfpdpaaDoor
namespace Rows

/-- THE TIED CARD OF 'larderlaw9.MatchQuoted'. -/
def matchQuotedCard : Claim7 := { stood := { row := matchQuotedRow, standIns := [], harness := (true, "2826a9712f271bc45479c657b2bf5a7de75f8de47df1f9bc856d17e676b2f62f"), looks := false }, kinds := [], alts := [], laidByText := true, laidKinds := [.data, .data], laidTests := true, laidLooks := .later }
def MatchQuotedCardSaid : Prop := Claim7.holds Tryd.pinned (.plain (OpenSpec.ofChange matchQuotedSpec)) matchQuotedCard

/-- THE TIED CARD OF 'larderlaw9.MatchClass'. -/
def matchClassCard : Claim7 := { stood := { row := matchClassRow, standIns := [], harness := (true, "2826a9712f271bc45479c657b2bf5a7de75f8de47df1f9bc856d17e676b2f62f"), looks := false }, kinds := [], alts := [], laidByText := true, laidKinds := [.data, .data], laidTests := true, laidLooks := .later }
def MatchClassCardSaid : Prop := Claim7.holds Tryd.pinned (.plain (OpenSpec.ofChange matchClassSpec)) matchClassCard

/-- THE TIED CARD OF 'larderlaw9.MatchSplit'. -/
def matchSplitCard : Claim7 := { stood := { row := matchSplitRow, standIns := [], harness := (true, "2826a9712f271bc45479c657b2bf5a7de75f8de47df1f9bc856d17e676b2f62f"), looks := false }, kinds := [], alts := [], laidByText := true, laidKinds := [.data, .data], laidTests := true, laidLooks := .later }
def MatchSplitCardSaid : Prop := Claim7.holds Tryd.pinned (.plain (OpenSpec.ofChange matchSplitSpec)) matchSplitCard

/-- THE TIED CARD OF 'larderlaw9.MatchSpans'. -/
def matchSpansCard : Claim7 := { stood := { row := matchSpansRow, standIns := [], harness := (true, "2826a9712f271bc45479c657b2bf5a7de75f8de47df1f9bc856d17e676b2f62f"), looks := false }, kinds := [], alts := [], laidByText := true, laidKinds := [.data, .data], laidTests := true, laidLooks := .later }
def MatchSpansCardSaid : Prop := Claim7.holds Tryd.pinned (.plain (OpenSpec.ofChange matchSpansSpec)) matchSpansCard

/-- THE TIED CARD OF 'larderlaw9.MatchEnds'. -/
def matchEndsCard : Claim7 := { stood := { row := matchEndsRow, standIns := [], harness := (true, "2826a9712f271bc45479c657b2bf5a7de75f8de47df1f9bc856d17e676b2f62f"), looks := false }, kinds := [], alts := [], laidByText := true, laidKinds := [.data, .data], laidTests := true, laidLooks := .later }
def MatchEndsCardSaid : Prop := Claim7.holds Tryd.pinned (.plain (OpenSpec.ofChange matchEndsSpec)) matchEndsCard

/-- THE TIED CARD OF 'larderlaw9.MatchGlob'. -/
def matchGlobCard : Claim7 := { stood := { row := matchGlobRow, standIns := [], harness := (true, "2826a9712f271bc45479c657b2bf5a7de75f8de47df1f9bc856d17e676b2f62f"), looks := false }, kinds := [], alts := [], laidByText := true, laidKinds := [.data, .data], laidTests := true, laidLooks := .later }
def MatchGlobCardSaid : Prop := Claim7.holds Tryd.pinned (.plain (OpenSpec.ofChange matchGlobSpec)) matchGlobCard

/-- THE TIED CARD OF 'larderlaw9.MatchWindow'. -/
def matchWindowCard : Claim7 := { stood := { row := matchWindowRow, standIns := [], harness := (true, "2826a9712f271bc45479c657b2bf5a7de75f8de47df1f9bc856d17e676b2f62f"), looks := false }, kinds := [], alts := [], laidByText := true, laidKinds := [.data, .data], laidTests := true, laidLooks := .later }
def MatchWindowCardSaid : Prop := Claim7.holds Tryd.pinned (.plain (OpenSpec.ofChange matchWindowSpec)) matchWindowCard

/-- THE TIED CARD OF 'larderlaw9.MatchFills'. -/
def matchFillsCard : Claim7 := { stood := { row := matchFillsRow, standIns := [], harness := (true, "2826a9712f271bc45479c657b2bf5a7de75f8de47df1f9bc856d17e676b2f62f"), looks := false }, kinds := [], alts := [], laidByText := true, laidKinds := [.data, .data], laidTests := true, laidLooks := .later }
def MatchFillsCardSaid : Prop := Claim7.holds Tryd.pinned (.plain (OpenSpec.ofChange matchFillsSpec)) matchFillsCard

/-- THE SECOND FORM's CARD OF 'larderlaw9.MatchQuoted'. -/
def matchQuotedUptoCard : Claim7 := { stood := { row := matchQuotedUptoRow, standIns := [], harness := (true, "2826a9712f271bc45479c657b2bf5a7de75f8de47df1f9bc856d17e676b2f62f"), looks := false }, kinds := [], alts := [], laidByText := true, laidKinds := [.data, .data], laidTests := true, laidLooks := .later }
def MatchQuotedUptoCardSaid : Prop := Claim7.holds Tryd.pinned (.plain (OpenSpec.upto matchQuotedSpec)) matchQuotedUptoCard

/-- THE SECOND FORM's CARD OF 'larderlaw9.MatchClass'. -/
def matchClassUptoCard : Claim7 := { stood := { row := matchClassUptoRow, standIns := [], harness := (true, "2826a9712f271bc45479c657b2bf5a7de75f8de47df1f9bc856d17e676b2f62f"), looks := false }, kinds := [], alts := [], laidByText := true, laidKinds := [.data, .data], laidTests := true, laidLooks := .later }
def MatchClassUptoCardSaid : Prop := Claim7.holds Tryd.pinned (.plain (OpenSpec.upto matchClassSpec)) matchClassUptoCard

/-- THE SECOND FORM's CARD OF 'larderlaw9.MatchSplit'. -/
def matchSplitUptoCard : Claim7 := { stood := { row := matchSplitUptoRow, standIns := [], harness := (true, "2826a9712f271bc45479c657b2bf5a7de75f8de47df1f9bc856d17e676b2f62f"), looks := false }, kinds := [], alts := [], laidByText := true, laidKinds := [.data, .data], laidTests := true, laidLooks := .later }
def MatchSplitUptoCardSaid : Prop := Claim7.holds Tryd.pinned (.plain (OpenSpec.upto matchSplitSpec)) matchSplitUptoCard

/-- THE SECOND FORM's CARD OF 'larderlaw9.MatchSpans'. -/
def matchSpansUptoCard : Claim7 := { stood := { row := matchSpansUptoRow, standIns := [], harness := (true, "2826a9712f271bc45479c657b2bf5a7de75f8de47df1f9bc856d17e676b2f62f"), looks := false }, kinds := [], alts := [], laidByText := true, laidKinds := [.data, .data], laidTests := true, laidLooks := .later }
def MatchSpansUptoCardSaid : Prop := Claim7.holds Tryd.pinned (.plain (OpenSpec.upto matchSpansSpec)) matchSpansUptoCard

/-- THE SECOND FORM's CARD OF 'larderlaw9.MatchEnds'. -/
def matchEndsUptoCard : Claim7 := { stood := { row := matchEndsUptoRow, standIns := [], harness := (true, "2826a9712f271bc45479c657b2bf5a7de75f8de47df1f9bc856d17e676b2f62f"), looks := false }, kinds := [], alts := [], laidByText := true, laidKinds := [.data, .data], laidTests := true, laidLooks := .later }
def MatchEndsUptoCardSaid : Prop := Claim7.holds Tryd.pinned (.plain (OpenSpec.upto matchEndsSpec)) matchEndsUptoCard

/-- THE SECOND FORM's CARD OF 'larderlaw9.MatchGlob'. -/
def matchGlobUptoCard : Claim7 := { stood := { row := matchGlobUptoRow, standIns := [], harness := (true, "2826a9712f271bc45479c657b2bf5a7de75f8de47df1f9bc856d17e676b2f62f"), looks := false }, kinds := [], alts := [], laidByText := true, laidKinds := [.data, .data], laidTests := true, laidLooks := .later }
def MatchGlobUptoCardSaid : Prop := Claim7.holds Tryd.pinned (.plain (OpenSpec.upto matchGlobSpec)) matchGlobUptoCard

/-- THE SECOND FORM's CARD OF 'larderlaw9.MatchWindow'. -/
def matchWindowUptoCard : Claim7 := { stood := { row := matchWindowUptoRow, standIns := [], harness := (true, "2826a9712f271bc45479c657b2bf5a7de75f8de47df1f9bc856d17e676b2f62f"), looks := false }, kinds := [], alts := [], laidByText := true, laidKinds := [.data, .data], laidTests := true, laidLooks := .later }
def MatchWindowUptoCardSaid : Prop := Claim7.holds Tryd.pinned (.plain (OpenSpec.upto matchWindowSpec)) matchWindowUptoCard

/-- THE SECOND FORM's CARD OF 'larderlaw9.MatchFills'. -/
def matchFillsUptoCard : Claim7 := { stood := { row := matchFillsUptoRow, standIns := [], harness := (true, "2826a9712f271bc45479c657b2bf5a7de75f8de47df1f9bc856d17e676b2f62f"), looks := false }, kinds := [], alts := [], laidByText := true, laidKinds := [.data, .data], laidTests := true, laidLooks := .later }
def MatchFillsUptoCardSaid : Prop := Claim7.holds Tryd.pinned (.plain (OpenSpec.upto matchFillsSpec)) matchFillsUptoCard
end Rows
end Go.Proofs.YtdflblegdfpdpaaDoor
