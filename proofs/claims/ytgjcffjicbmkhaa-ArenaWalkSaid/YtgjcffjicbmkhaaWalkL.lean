/- ArenaWalk: for every argument that can be read. -/
import Derived.Test.YtgjcffjicbmkhaaWalkW
namespace Go.Proofs.Ytgjcffjicbmkhaa.WalkL
open Go Go.RowKit Go.Proofs.YtgjcffjicbmkhaaW.PrintWords Go.Proofs.Ytgjcffjicbmkhaa.PF Go.Proofs.Ytgjcffjicbmkhaa.MemO
theorem walk (y : List S28 × List (Int × Int × Int)) (ca : Array Value) (W : World) (hK : kMem.K W y ca.toList) (hg : gMem y) :
    Calls Try.prog 4 #[.agg ca] W fun e w' => e = .returned (.bool true) ∧ Below W.heap.size W w' := by
  obtain ⟨l1, lw⟩ := y
  obtain ⟨c1, c2, hca, ⟨A1, n1, rfl, hn1, hC1⟩, ⟨A2, n2, rfl, hn2, hC2⟩⟩ := hK
  obtain rfl : ca = #[.slice A1 l1.length n1, .slice A2 lw.length n2] := by cases ca; simp_all
  have h1 := hg.1.1
  have h2 := hg.2.1
  exact WalkW.walk.calls l1 lw A1 A2 n1 n2 W hC1 hn1 (by simp only at h1; omega) hC2 hn2 (by simp only at h2; omega) (fun x hx => (hg.2.2 x hx).2.2)
end Go.Proofs.Ytgjcffjicbmkhaa.WalkL
