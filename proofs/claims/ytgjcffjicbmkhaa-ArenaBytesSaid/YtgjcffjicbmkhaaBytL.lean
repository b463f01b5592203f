/- ArenaBytes: for every argument that can be read. -/
import Derived.Test.YtgjcffjicbmkhaaBytW
namespace Go.Proofs.Ytgjcffjicbmkhaa.BytL
open Go Go.RowKit Go.Proofs.YtgjcffjicbmkhaaW.PrintWords Go.Proofs.Ytgjcffjicbmkhaa.PF Go.Proofs.Ytgjcffjicbmkhaa.BytO
theorem walk (y : Int × Int × List (Int × List Int) × Int) (ca : Array Value) (W : World) (hK : kRow.K W y ca.toList) (hg : gRow y) :
    Calls Try.prog 6 #[.agg ca] W fun e w' => e = .returned (.bool true) ∧ Below W.heap.size W w' := by
  obtain ⟨R, Q, lp, C⟩ := y
  obtain ⟨c1, c2, hca, hR, c3, c4, rfl, hQ, c5, c6, rfl, ⟨A, n, rfl, hn, hC⟩, hCut⟩ := hK
  obtain rfl : c1 = [.int .i64 R] := hR
  obtain rfl : c3 = [.int .i64 Q] := hQ
  obtain rfl : c6 = [.int .i64 C] := hCut
  obtain rfl : ca = #[.int .i64 R, .int .i64 Q, .slice A lp.length n, .int .i64 C] := by cases ca; simp_all
  have h1 := hg.2.2.1.1
  exact BytW.bytes.calls R Q C lp A n W hC hn (by simp only at h1; omega) (fun x hx => (hg.2.2.1.2 x hx).2)
end Go.Proofs.Ytgjcffjicbmkhaa.BytL
