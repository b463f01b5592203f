/- WordBurst: the machine's call answers true. -/
import Derived.Test.YtgngpbcbnfmoiaaBurstP
import Derived.Test.YtgngpbcbnfmoiaaArgsW
namespace Go.Proofs.Ytgngpbcbnfmoiaa.BurstL
open Go Go.RowKit Go.Proofs.YtgngpbcbnfmoiaaW.PrintWords Go.Proofs.Ytgngpbcbnfmoiaa.PA Go.Proofs.Ytgngpbcbnfmoiaa.ArgsW

theorem walk (y : List Int × Int × Int) (ca : Array Value) (W : World) (hK : kRun.K W y ca.toList) (hg : gBytes y.1 ∧ gI y.2.1 ∧ gU y.2.2) :
    Calls Try.prog 3 #[.agg ca] W fun e w' => e = .returned (.bool true) ∧ Below W.heap.size W w' := by
  obtain ⟨l, a, x⟩ := y
  obtain ⟨hl, ha, hx⟩ := hg
  obtain ⟨c0, c1, e0, hk0, hk1⟩ := hK
  obtain ⟨A, c, rfl, hlc, hC⟩ := bytes_cell hk0
  obtain ⟨c2, c3, rfl, hk2, hk3⟩ := hk1
  have h2 : c2 = [.int .i64 a] := hk2
  have h3 : c3 = [.int .u64 x] := hk3
  subst h2 h3
  obtain rfl : ca = #[.slice A l.length c, .int .i64 a, .int .u64 x] := by cases ca; simp_all
  obtain ⟨k, h⟩ := BurstP.WordBurst l a x (gBytes_in hl) (gBytes_len hl) (wf_i64 ha) (wf_u64 hx)
  exact larderlaw1_WordBurst.calls k A c l a x true W hC hlc h
end Go.Proofs.Ytgngpbcbnfmoiaa.BurstL
