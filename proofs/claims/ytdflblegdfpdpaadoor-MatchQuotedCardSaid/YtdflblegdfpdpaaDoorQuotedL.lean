/- MatchQuoted at every argument that can be read as data. -/
import Derived.Test.YtdflblegdfpdpaaDoorQuotedW
namespace Go.Proofs.YtdflblegdfpdpaaDoor.QuotedL
open Go Go.RowKit Go.Proofs.YtdflblegdfpdpaaDoorW.PrintWords Go.Proofs.YtdflblegdfpdpaaDoor.Open Go.Proofs.YtdflblegdfpdpaaDoor.AskW Go.Proofs.YtdflblegdfpdpaaDoor.GlobW
theorem walk (y : List Int × List Int × Int) (ca : Array Value) (W : World) (hK : kTexts.K W y ca.toList) (hg : gTexts y) (hG : GL W) :
    Calls Tryd.prog 3 #[.agg ca] W fun e w' => e = .returned (.bool true) ∧ Below W.heap.size W w' := by
  obtain ⟨T, U, N⟩ := y
  obtain ⟨hT, hU, hN⟩ := hg
  obtain ⟨b0, b1, e0, ⟨At, ct, rfl, hct, hCt⟩, d0, d1, rfl, ⟨Au, cu, rfl, hcu, hCu⟩, h2⟩ := hK
  have h2 : d1 = [.int .i64 N] := h2
  subst h2
  obtain rfl : ca = #[.slice At T.length ct, .slice Au U.length cu, .int .i64 N] := by cases ca; simp_all
  exact QuotedW.quoted T U N At Au ct cu W (gBytes_in hT) (gBytes_in hU) hCt hCu hct hcu hG (wf_i64 hN)
end Go.Proofs.YtdflblegdfpdpaaDoor.QuotedL
