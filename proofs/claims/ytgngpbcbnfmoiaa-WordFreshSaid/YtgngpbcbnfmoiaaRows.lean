/-
  No cell of these rows narrows 'for every input' (looked for: loops, veiled, ifaces, maps, wideKeys, modest, calm, conditions, laid).
  DERIVED. THE GIVEN ROWS OF THIS SEAT. 11 by the template 'for every input the law returns true; each argument reads behind the call as it read before'; 0 by the template 'total and deterministic' (their statements: YtgngpbcbnfmoiaaTotals.lean).
  GIVEN WITH THE SEED: the statements are not yours to turn. If you find one false, say at which input.
  Laid BY PROGRAM, IN A SANDBOX (cutbox-rows.mjs): the forced cells as the released guide's own fill.sh prints them over the translation 391ab83861ecd85b… (all of the seat's roots in one cut). By AI agents, Wed Nov 11 2026. No macro, syntax, notation, axiom, sorry.
-/
import Derived.Test.YtgngpbcbnfmoiaaChecked
import GoSem.Claim
import GoSem.ClaimJoined
import GoSem.ClaimMapViews
import Derived.JoinedTies
import Derived.KernelRfl
namespace Go.Proofs.Ytgngpbcbnfmoiaa
/- THE CELL 'sum', in the pinned program and in every row, IS THE sha256 OF THE DUMP (.gsa) THAT YtgngpbcbnfmoiaaProg.lean LOADS. Nothing in Lean hashes anything: it is a label: what it is worth is what the hold of that sum in a sandbox is worth. -/
noncomputable def Try.pinned : Pinned := { name := "ytgngpbcbnfmoiaa", sum := "391ab83861ecd85b637dc91b1b9406c3d779434052f7a1ee16a2d50c5bb59834", checked := Try.checked }
namespace Rows
def none {H : Type} : Left H := { results := [], args := [] }

/-- 'larderlaw1.WordBurst': WHATEVER THE INPUT: true; the input reads as it did. -/
def wordBurstSpec : ChangeSpec := { name := "wordBurst", fn := fun _ => fun
  | [d] => { results := [.lit (.bool true)], args := [d] }
  | _ => none }
def wordBurstRow : OpenClaim := { program := "ytgngpbcbnfmoiaa", sum := "391ab83861ecd85b637dc91b1b9406c3d779434052f7a1ee16a2d50c5bb59834", func := "larder/larderlaw1.WordBurst", spec := "wordBurst", apart := false }
def WordBurstSaid : Prop := wordBurstRow.holds Try.pinned (OpenSpec.ofChange wordBurstSpec)

/-- ITS FALSE NEIGHBOUR: 'it returns false'. Refute it at one input. -/
def wordBurstWrong : ChangeSpec := { name := "wordBurst", fn := fun _ => fun
  | [d] => { results := [.lit (.bool false)], args := [d] }
  | _ => none }
def WordBurstWrongFalsely : Prop := wordBurstRow.holds Try.pinned (OpenSpec.ofChange wordBurstWrong)

/-- 'larderlaw1.WordApart': WHATEVER THE INPUT: true; the input reads as it did. -/
def wordApartSpec : ChangeSpec := { name := "wordApart", fn := fun _ => fun
  | [d] => { results := [.lit (.bool true)], args := [d] }
  | _ => none }
def wordApartRow : OpenClaim := { program := "ytgngpbcbnfmoiaa", sum := "391ab83861ecd85b637dc91b1b9406c3d779434052f7a1ee16a2d50c5bb59834", func := "larder/larderlaw1.WordApart", spec := "wordApart", apart := false }
def WordApartSaid : Prop := wordApartRow.holds Try.pinned (OpenSpec.ofChange wordApartSpec)

/-- ITS FALSE NEIGHBOUR: 'it returns false'. Refute it at one input. -/
def wordApartWrong : ChangeSpec := { name := "wordApart", fn := fun _ => fun
  | [d] => { results := [.lit (.bool false)], args := [d] }
  | _ => none }
def WordApartWrongFalsely : Prop := wordApartRow.holds Try.pinned (OpenSpec.ofChange wordApartWrong)

/-- 'larderlaw1.WordTurns': WHATEVER THE INPUT: true; the input reads as it did. -/
def wordTurnsSpec : ChangeSpec := { name := "wordTurns", fn := fun _ => fun
  | [d] => { results := [.lit (.bool true)], args := [d] }
  | _ => none }
def wordTurnsRow : OpenClaim := { program := "ytgngpbcbnfmoiaa", sum := "391ab83861ecd85b637dc91b1b9406c3d779434052f7a1ee16a2d50c5bb59834", func := "larder/larderlaw1.WordTurns", spec := "wordTurns", apart := false }
def WordTurnsSaid : Prop := wordTurnsRow.holds Try.pinned (OpenSpec.ofChange wordTurnsSpec)

/-- ITS FALSE NEIGHBOUR: 'it returns false'. Refute it at one input. -/
def wordTurnsWrong : ChangeSpec := { name := "wordTurns", fn := fun _ => fun
  | [d] => { results := [.lit (.bool false)], args := [d] }
  | _ => none }
def WordTurnsWrongFalsely : Prop := wordTurnsRow.holds Try.pinned (OpenSpec.ofChange wordTurnsWrong)

/-- 'larderlaw1.WordFresh': WHATEVER THE INPUT: true; the input reads as it did. -/
def wordFreshSpec : ChangeSpec := { name := "wordFresh", fn := fun _ => fun
  | [d] => { results := [.lit (.bool true)], args := [d] }
  | _ => none }
def wordFreshRow : OpenClaim := { program := "ytgngpbcbnfmoiaa", sum := "391ab83861ecd85b637dc91b1b9406c3d779434052f7a1ee16a2d50c5bb59834", func := "larder/larderlaw1.WordFresh", spec := "wordFresh", recurses := true, apart := false }
def WordFreshSaid : Prop := wordFreshRow.holds Try.pinned (OpenSpec.ofChange wordFreshSpec)

/-- ITS FALSE NEIGHBOUR: 'it returns false'. Refute it at one input. -/
def wordFreshWrong : ChangeSpec := { name := "wordFresh", fn := fun _ => fun
  | [d] => { results := [.lit (.bool false)], args := [d] }
  | _ => none }
def WordFreshWrongFalsely : Prop := wordFreshRow.holds Try.pinned (OpenSpec.ofChange wordFreshWrong)

/-- 'larderlaw1.WordSpells': WHATEVER THE INPUT: true; the input reads as it did. -/
def wordSpellsSpec : ChangeSpec := { name := "wordSpells", fn := fun _ => fun
  | [d] => { results := [.lit (.bool true)], args := [d] }
  | _ => none }
def wordSpellsRow : OpenClaim := { program := "ytgngpbcbnfmoiaa", sum := "391ab83861ecd85b637dc91b1b9406c3d779434052f7a1ee16a2d50c5bb59834", func := "larder/larderlaw1.WordSpells", spec := "wordSpells", inPlace := ["math/bits.Add64"], apart := false }
def WordSpellsSaid : Prop := wordSpellsRow.holds Try.pinned (OpenSpec.ofChange wordSpellsSpec)

/-- ITS FALSE NEIGHBOUR: 'it returns false'. Refute it at one input. -/
def wordSpellsWrong : ChangeSpec := { name := "wordSpells", fn := fun _ => fun
  | [d] => { results := [.lit (.bool false)], args := [d] }
  | _ => none }
def WordSpellsWrongFalsely : Prop := wordSpellsRow.holds Try.pinned (OpenSpec.ofChange wordSpellsWrong)

/-- 'larderlaw1.WordPlace': WHATEVER THE INPUT: true; the input reads as it did. -/
def wordPlaceSpec : ChangeSpec := { name := "wordPlace", fn := fun _ => fun
  | [d] => { results := [.lit (.bool true)], args := [d] }
  | _ => none }
def wordPlaceRow : OpenClaim := { program := "ytgngpbcbnfmoiaa", sum := "391ab83861ecd85b637dc91b1b9406c3d779434052f7a1ee16a2d50c5bb59834", func := "larder/larderlaw1.WordPlace", spec := "wordPlace", inPlace := ["math/bits.Add64"], apart := false }
def WordPlaceSaid : Prop := wordPlaceRow.holds Try.pinned (OpenSpec.ofChange wordPlaceSpec)

/-- ITS FALSE NEIGHBOUR: 'it returns false'. Refute it at one input. -/
def wordPlaceWrong : ChangeSpec := { name := "wordPlace", fn := fun _ => fun
  | [d] => { results := [.lit (.bool false)], args := [d] }
  | _ => none }
def WordPlaceWrongFalsely : Prop := wordPlaceRow.holds Try.pinned (OpenSpec.ofChange wordPlaceWrong)

/-- 'larderlaw1.WordHeads': WHATEVER THE INPUT: true; the input reads as it did. -/
def wordHeadsSpec : ChangeSpec := { name := "wordHeads", fn := fun _ => fun
  | [d] => { results := [.lit (.bool true)], args := [d] }
  | _ => none }
def wordHeadsRow : OpenClaim := { program := "ytgngpbcbnfmoiaa", sum := "391ab83861ecd85b637dc91b1b9406c3d779434052f7a1ee16a2d50c5bb59834", func := "larder/larderlaw1.WordHeads", spec := "wordHeads", inPlace := ["math/bits.Add64"], recurses := true, apart := false }
def WordHeadsSaid : Prop := wordHeadsRow.holds Try.pinned (OpenSpec.ofChange wordHeadsSpec)

/-- ITS FALSE NEIGHBOUR: 'it returns false'. Refute it at one input. -/
def wordHeadsWrong : ChangeSpec := { name := "wordHeads", fn := fun _ => fun
  | [d] => { results := [.lit (.bool false)], args := [d] }
  | _ => none }
def WordHeadsWrongFalsely : Prop := wordHeadsRow.holds Try.pinned (OpenSpec.ofChange wordHeadsWrong)

/-- 'larderlaw1.WordPacks': WHATEVER THE INPUT: true; the input reads as it did. -/
def wordPacksSpec : ChangeSpec := { name := "wordPacks", fn := fun _ => fun
  | [d] => { results := [.lit (.bool true)], args := [d] }
  | _ => none }
def wordPacksRow : OpenClaim := { program := "ytgngpbcbnfmoiaa", sum := "391ab83861ecd85b637dc91b1b9406c3d779434052f7a1ee16a2d50c5bb59834", func := "larder/larderlaw1.WordPacks", spec := "wordPacks", inPlace := ["math/bits.Add64"], recurses := true, apart := false }
def WordPacksSaid : Prop := wordPacksRow.holds Try.pinned (OpenSpec.ofChange wordPacksSpec)

/-- ITS FALSE NEIGHBOUR: 'it returns false'. Refute it at one input. -/
def wordPacksWrong : ChangeSpec := { name := "wordPacks", fn := fun _ => fun
  | [d] => { results := [.lit (.bool false)], args := [d] }
  | _ => none }
def WordPacksWrongFalsely : Prop := wordPacksRow.holds Try.pinned (OpenSpec.ofChange wordPacksWrong)

/-- 'larderlaw1.WordNumbers': WHATEVER THE INPUT: true; the input reads as it did. -/
def wordNumbersSpec : ChangeSpec := { name := "wordNumbers", fn := fun _ => fun
  | [d] => { results := [.lit (.bool true)], args := [d] }
  | _ => none }
def wordNumbersRow : OpenClaim := { program := "ytgngpbcbnfmoiaa", sum := "391ab83861ecd85b637dc91b1b9406c3d779434052f7a1ee16a2d50c5bb59834", func := "larder/larderlaw1.WordNumbers", spec := "wordNumbers", inPlace := ["math/bits.Add64"], recurses := true, apart := false }
def WordNumbersSaid : Prop := wordNumbersRow.holds Try.pinned (OpenSpec.ofChange wordNumbersSpec)

/-- ITS FALSE NEIGHBOUR: 'it returns false'. Refute it at one input. -/
def wordNumbersWrong : ChangeSpec := { name := "wordNumbers", fn := fun _ => fun
  | [d] => { results := [.lit (.bool false)], args := [d] }
  | _ => none }
def WordNumbersWrongFalsely : Prop := wordNumbersRow.holds Try.pinned (OpenSpec.ofChange wordNumbersWrong)

/-- 'larderlaw1.WordSums': WHATEVER THE INPUT: true; the input reads as it did. -/
def wordSumsSpec : ChangeSpec := { name := "wordSums", fn := fun _ => fun
  | [d] => { results := [.lit (.bool true)], args := [d] }
  | _ => none }
def wordSumsRow : OpenClaim := { program := "ytgngpbcbnfmoiaa", sum := "391ab83861ecd85b637dc91b1b9406c3d779434052f7a1ee16a2d50c5bb59834", func := "larder/larderlaw1.WordSums", spec := "wordSums", inPlace := ["math/bits.Add64"], recurses := true, apart := false }
def WordSumsSaid : Prop := wordSumsRow.holds Try.pinned (OpenSpec.ofChange wordSumsSpec)

/-- ITS FALSE NEIGHBOUR: 'it returns false'. Refute it at one input. -/
def wordSumsWrong : ChangeSpec := { name := "wordSums", fn := fun _ => fun
  | [d] => { results := [.lit (.bool false)], args := [d] }
  | _ => none }
def WordSumsWrongFalsely : Prop := wordSumsRow.holds Try.pinned (OpenSpec.ofChange wordSumsWrong)

/-- 'larderlaw1.WordAll': WHATEVER THE INPUT: true; the input reads as it did. -/
def wordAllSpec : ChangeSpec := { name := "wordAll", fn := fun _ => fun
  | [d] => { results := [.lit (.bool true)], args := [d] }
  | _ => none }
def wordAllRow : OpenClaim := { program := "ytgngpbcbnfmoiaa", sum := "391ab83861ecd85b637dc91b1b9406c3d779434052f7a1ee16a2d50c5bb59834", func := "larder/larderlaw1.WordAll", spec := "wordAll", inPlace := ["math/bits.Add64"], recurses := true, apart := false }
def WordAllSaid : Prop := wordAllRow.holds Try.pinned (OpenSpec.ofChange wordAllSpec)

/-- ITS FALSE NEIGHBOUR: 'it returns false'. Refute it at one input. -/
def wordAllWrong : ChangeSpec := { name := "wordAll", fn := fun _ => fun
  | [d] => { results := [.lit (.bool false)], args := [d] }
  | _ => none }
def WordAllWrongFalsely : Prop := wordAllRow.holds Try.pinned (OpenSpec.ofChange wordAllWrong)

/- THE SECOND FORM. 'bulk': how many values and letters a reading holds, each counted each time it is reached (what is shared counts as often as it is met; a slice's spare places count too). A statement '..UptoSaid' is the law's where the arguments, and the package variables that the reading takes, are together of bulk at most 1048576: NARROWER than '..Said'. Prove '..Said' where nothing that the law and all that it calls make is longer than what came in: it says more and counts as full. Else prove '..UptoSaid'. A law counts once. -/
mutual
def uptoBulk {H : Type} : DataW H → Nat
  | .lit (.string bytes) => bytes.length + 1
  | .lit _ => 1
  | .nil => 1
  | .ptr d => uptoBulk d + 1
  | .slice elems spare => uptoBulkAll elems + uptoBulkAll spare + 1
  | .agg parts => uptoBulkAll parts + 1
  | .iface _ d => uptoBulk d + 1
  | .map entries => uptoBulkEntries entries + 1
  | .held _ => 1
def uptoBulkAll {H : Type} : List (DataW H) → Nat
  | [] => 0
  | d :: r => uptoBulk d + uptoBulkAll r
def uptoBulkEntries {H : Type} : List (Lit × DataW H) → Nat
  | [] => 0
  | x :: r => uptoBulkEntry x + uptoBulkEntries r
def uptoBulkEntry {H : Type} : Lit × DataW H → Nat
  | (.string bytes, d) => bytes.length + uptoBulk d + 1
  | (_, d) => uptoBulk d + 1
 end
def uptoSmall : (H : Type) → List (DataW H) → Bool := fun _ ds => decide (uptoBulkAll ds ≤ 1048576)
def OpenSpec.upto (s : _root_.Go.ChangeSpec) : _root_.Go.OpenSpec := { _root_.Go.OpenSpec.ofChange s with cond := some uptoSmall }

/-- 'larderlaw1.WordBurst', WHERE WHAT IT READS IS OF BULK AT MOST 1048576: true; the input reads as it did. -/
def wordBurstUptoRow : OpenClaim := { program := "ytgngpbcbnfmoiaa", sum := "391ab83861ecd85b637dc91b1b9406c3d779434052f7a1ee16a2d50c5bb59834", func := "larder/larderlaw1.WordBurst", spec := "wordBurst", apart := false, narrowed := true }
def WordBurstUptoSaid : Prop := wordBurstUptoRow.holds Try.pinned (OpenSpec.upto wordBurstSpec)

/-- 'larderlaw1.WordApart', WHERE WHAT IT READS IS OF BULK AT MOST 1048576: true; the input reads as it did. -/
def wordApartUptoRow : OpenClaim := { program := "ytgngpbcbnfmoiaa", sum := "391ab83861ecd85b637dc91b1b9406c3d779434052f7a1ee16a2d50c5bb59834", func := "larder/larderlaw1.WordApart", spec := "wordApart", apart := false, narrowed := true }
def WordApartUptoSaid : Prop := wordApartUptoRow.holds Try.pinned (OpenSpec.upto wordApartSpec)

/-- 'larderlaw1.WordTurns', WHERE WHAT IT READS IS OF BULK AT MOST 1048576: true; the input reads as it did. -/
def wordTurnsUptoRow : OpenClaim := { program := "ytgngpbcbnfmoiaa", sum := "391ab83861ecd85b637dc91b1b9406c3d779434052f7a1ee16a2d50c5bb59834", func := "larder/larderlaw1.WordTurns", spec := "wordTurns", apart := false, narrowed := true }
def WordTurnsUptoSaid : Prop := wordTurnsUptoRow.holds Try.pinned (OpenSpec.upto wordTurnsSpec)

/-- 'larderlaw1.WordFresh', WHERE WHAT IT READS IS OF BULK AT MOST 1048576: true; the input reads as it did. -/
def wordFreshUptoRow : OpenClaim := { program := "ytgngpbcbnfmoiaa", sum := "391ab83861ecd85b637dc91b1b9406c3d779434052f7a1ee16a2d50c5bb59834", func := "larder/larderlaw1.WordFresh", spec := "wordFresh", recurses := true, apart := false, narrowed := true }
def WordFreshUptoSaid : Prop := wordFreshUptoRow.holds Try.pinned (OpenSpec.upto wordFreshSpec)

/-- 'larderlaw1.WordSpells', WHERE WHAT IT READS IS OF BULK AT MOST 1048576: true; the input reads as it did. -/
def wordSpellsUptoRow : OpenClaim := { program := "ytgngpbcbnfmoiaa", sum := "391ab83861ecd85b637dc91b1b9406c3d779434052f7a1ee16a2d50c5bb59834", func := "larder/larderlaw1.WordSpells", spec := "wordSpells", inPlace := ["math/bits.Add64"], apart := false, narrowed := true }
def WordSpellsUptoSaid : Prop := wordSpellsUptoRow.holds Try.pinned (OpenSpec.upto wordSpellsSpec)

/-- 'larderlaw1.WordPlace', WHERE WHAT IT READS IS OF BULK AT MOST 1048576: true; the input reads as it did. -/
def wordPlaceUptoRow : OpenClaim := { program := "ytgngpbcbnfmoiaa", sum := "391ab83861ecd85b637dc91b1b9406c3d779434052f7a1ee16a2d50c5bb59834", func := "larder/larderlaw1.WordPlace", spec := "wordPlace", inPlace := ["math/bits.Add64"], apart := false, narrowed := true }
def WordPlaceUptoSaid : Prop := wordPlaceUptoRow.holds Try.pinned (OpenSpec.upto wordPlaceSpec)

/-- 'larderlaw1.WordHeads', WHERE WHAT IT READS IS OF BULK AT MOST 1048576: true; the input reads as it did. -/
def wordHeadsUptoRow : OpenClaim := { program := "ytgngpbcbnfmoiaa", sum := "391ab83861ecd85b637dc91b1b9406c3d779434052f7a1ee16a2d50c5bb59834", func := "larder/larderlaw1.WordHeads", spec := "wordHeads", inPlace := ["math/bits.Add64"], recurses := true, apart := false, narrowed := true }
def WordHeadsUptoSaid : Prop := wordHeadsUptoRow.holds Try.pinned (OpenSpec.upto wordHeadsSpec)

/-- 'larderlaw1.WordPacks', WHERE WHAT IT READS IS OF BULK AT MOST 1048576: true; the input reads as it did. -/
def wordPacksUptoRow : OpenClaim := { program := "ytgngpbcbnfmoiaa", sum := "391ab83861ecd85b637dc91b1b9406c3d779434052f7a1ee16a2d50c5bb59834", func := "larder/larderlaw1.WordPacks", spec := "wordPacks", inPlace := ["math/bits.Add64"], recurses := true, apart := false, narrowed := true }
def WordPacksUptoSaid : Prop := wordPacksUptoRow.holds Try.pinned (OpenSpec.upto wordPacksSpec)

/-- 'larderlaw1.WordNumbers', WHERE WHAT IT READS IS OF BULK AT MOST 1048576: true; the input reads as it did. -/
def wordNumbersUptoRow : OpenClaim := { program := "ytgngpbcbnfmoiaa", sum := "391ab83861ecd85b637dc91b1b9406c3d779434052f7a1ee16a2d50c5bb59834", func := "larder/larderlaw1.WordNumbers", spec := "wordNumbers", inPlace := ["math/bits.Add64"], recurses := true, apart := false, narrowed := true }
def WordNumbersUptoSaid : Prop := wordNumbersUptoRow.holds Try.pinned (OpenSpec.upto wordNumbersSpec)

/-- 'larderlaw1.WordSums', WHERE WHAT IT READS IS OF BULK AT MOST 1048576: true; the input reads as it did. -/
def wordSumsUptoRow : OpenClaim := { program := "ytgngpbcbnfmoiaa", sum := "391ab83861ecd85b637dc91b1b9406c3d779434052f7a1ee16a2d50c5bb59834", func := "larder/larderlaw1.WordSums", spec := "wordSums", inPlace := ["math/bits.Add64"], recurses := true, apart := false, narrowed := true }
def WordSumsUptoSaid : Prop := wordSumsUptoRow.holds Try.pinned (OpenSpec.upto wordSumsSpec)

/-- 'larderlaw1.WordAll', WHERE WHAT IT READS IS OF BULK AT MOST 1048576: true; the input reads as it did. -/
def wordAllUptoRow : OpenClaim := { program := "ytgngpbcbnfmoiaa", sum := "391ab83861ecd85b637dc91b1b9406c3d779434052f7a1ee16a2d50c5bb59834", func := "larder/larderlaw1.WordAll", spec := "wordAll", inPlace := ["math/bits.Add64"], recurses := true, apart := false, narrowed := true }
def WordAllUptoSaid : Prop := wordAllUptoRow.holds Try.pinned (OpenSpec.upto wordAllSpec)

end Rows
end Go.Proofs.Ytgngpbcbnfmoiaa
