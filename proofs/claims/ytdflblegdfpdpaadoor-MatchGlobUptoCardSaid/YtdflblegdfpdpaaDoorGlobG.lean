/- match.Glob as a given function of the print. -/
import Derived.Test.YtdflblegdfpdpaaDoorGlobW
namespace Go.Proofs.YtdflblegdfpdpaaDoor.PB
open Go Go.RowKit Go.Proofs.YtdflblegdfpdpaaDoorW.PrintWords Go.Proofs.YtdflblegdfpdpaaDoorW.PrintLast Go.Proofs.YtdflblegdfpdpaaDoorW.PrintMore Go.Proofs.YtdflblegdfpdpaaDoor.GlobS Go.Proofs.YtdflblegdfpdpaaDoor.GlobW
set_option linter.unusedVariables false
def goodGlob (p t : List Int) : Prop := (∀ x ∈ p, 0 ≤ x ∧ x < 256) ∧ p.length ≤ 1000000000000 ∧ (∀ x ∈ t, 0 ≤ x ∧ x < 256) ∧ t.length ≤ 140737488355328
instance (p t : List Int) : Decidable (goodGlob p t) := by unfold goodGlob; infer_instance
def match_Glob.f (p t : List Int) : Option Bool := if goodGlob p t then some (globL p t) else none
theorem match_Glob.calls (A0 : Option Addr) (c0 : Nat) (l0 : List Int) (A1 : Option Addr) (c1 : Nat) (l1 : List Int) (r : Bool) (w : World) (hG : GL w) (hr0 : Kd.C (Kd.int .u8) w A0 l0.length l0) (hc0 : l0.length ≤ c0) (hr1 : Kd.C (Kd.int .u8) w A1 l1.length l1) (hc1 : l1.length ≤ c1) (h : match_Glob.f l0 l1 = some r) :
    Calls Tryd.prog 14 #[.slice A0 l0.length c0, .slice A1 l1.length c1] w fun e w' => e = .returned (.bool r) ∧ Below w.heap.size w w' := by
  unfold match_Glob.f at h
  split at h
  · rename_i hg
    obtain ⟨h1, h2, h3, h4⟩ := hg
    obtain rfl := Option.some.inj h
    exact glob.calls A0 c0 l0 A1 c1 l1 w hr0 hc0 h1 h2 hr1 hc1 h3 h4 hG
  · cases h
end Go.Proofs.YtdflblegdfpdpaaDoor.PB
