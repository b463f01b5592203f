/- Layer 8: Is, Eq, EqLists walked for any lists. -/
import Derived.Test.YtfdkcnbkoagmiaaCmpR
import Derived.Test.YtfdkcnbkoagmiaaStrR
import Derived.Test.YtfdkcnbkoagmiaaRowU
import Derived.WalkMore
namespace Go.Proofs.Ytfdkcnbkoagmiaa.IsG
open Go Go.RowKit Go.Proofs.YtfdkcnbkoagmiaaW.PrintWords Go.Proofs.YtfdkcnbkoagmiaaW.PrintLast Go.Proofs.YtfdkcnbkoagmiaaW.PrintMore Go.Proofs.Ytfdkcnbkoagmiaa.PA Go.Proofs.Ytfdkcnbkoagmiaa.RowU
set_option linter.unusedVariables false
set_option maxRecDepth 100000

theorem eqG.calls {A0 A1 : Option Addr} {c0 c1 : Nat} {a b : List Int} {w : World} (h0 : (Kd.int .u8).C w A0 a.length a) (hc0 : a.length ≤ c0) (h1 : (Kd.int .u8).C w A1 b.length b) (hc1 : b.length ≤ c1) (hn : a.length ≤ 140737488355328) :
    Calls Try.prog 37 #[.slice A0 a.length c0, .slice A1 b.length c1] w fun e w' => e = .returned (.bool (decide (a = b))) ∧ Drawn0 w w' := by
  obtain ⟨k, hk⟩ := CmpR.eq a b hn
  exact larderref0_Eq.calls k A0 c0 a A1 c1 b _ w h0 hc0 h1 hc1 (hk k (Nat.le_refl _))
theorem listsG.calls {A0 A1 : Option Addr} {c0 c1 : Nat} {a b : List (List Int)} {w : World} (h0 : Kd.C (Kd.slice 5 (Kd.int .u8)) w A0 a.length a) (hc0 : a.length ≤ c0) (h1 : Kd.C (Kd.slice 5 (Kd.int .u8)) w A1 b.length b) (hc1 : b.length ≤ c1) (hn : a.length ≤ 140737488355328) (hm : b.length ≤ 140737488355328) (hx : ∀ x ∈ a, x.length ≤ 140737488355328) :
    Calls Try.prog 11 #[.slice A0 a.length c0, .slice A1 b.length c1] w fun e w' => e = .returned (.bool (decide (a = b))) ∧ Drawn0 w w' := by
  obtain ⟨k, hk⟩ := CmpR.lists a b hn hm hx
  exact larderref0_EqLists.calls k A0 c0 a A1 c1 b _ w h0 hc0 h1 hc1 (hk k (Nat.le_refl _))
set_option maxHeartbeats 4000000 in
theorem isG.calls (A : Option Addr) (c : Nat) (l s : List Int) (w : World) (hr : (Kd.int .u8).C w A l.length l) (hc : l.length ≤ c) (hs : ∀ x ∈ s, 0 ≤ x ∧ x < 256) (hn : l.length ≤ 140737488355328) (hm : s.length ≤ 140737488355328) :
    Calls Try.prog 27 #[.slice A l.length c, .string (strOfNums s)] w fun e w' => e = .returned (.bool (decide (l = s))) ∧ Below w.heap.size w w' := by
  have kb := StrR.conv_run w (strOfNums s)
  have hB := StrR.conv_below w (strOfNums s)
  have hg := StrR.conv_cap w s
  have hC := StrR.conv_C w s hs (by omega)
  have HE : Aside0 (Calls Try.prog 37 #[.slice A l.length c, .slice (some ⟨w.heap.size, 0, none⟩) s.length (grownCap w (strOfNums s).size 0 5)] (Lib.bytesWorld w 5 (strOfNums s)) fun e w' => e = .returned (.bool (decide (l = s))) ∧ Drawn0 (Lib.bytesWorld w 5 (strOfNums s)) w') := ⟨eqG.calls (Kd.C_below hr hB) hc hC hg hn⟩
  have HB := Aside0.mk hB
  have hsz := strOfNums_size s
  generalize hS : strOfNums s = S at *
  rw [hsz] at kb HE
  clear hB hr hg hC hn hm
  go_enter Try.func27, Try.ntmps27
  go_wp2_with (go_at_call 37; refine HE.out.mono ?_; rintro e w2 ⟨rfl, hd⟩; have HD := Aside0.mk hd; clear hd)
  go_ret
  exact ⟨rfl, below_next HB.out HD.out.below⟩
end Go.Proofs.Ytfdkcnbkoagmiaa.IsG
