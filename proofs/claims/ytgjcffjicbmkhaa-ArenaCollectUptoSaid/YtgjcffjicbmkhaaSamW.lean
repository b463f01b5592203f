/- larderlaw2.sameWords of equal lists. -/
import Derived.Test.YtgjcffjicbmkhaaPFx5
import Derived.Test.YtgjcffjicbmkhaaArQ
namespace Go.Proofs.Ytgjcffjicbmkhaa.SamW
open Go Go.RowKit Go.Proofs.YtgjcffjicbmkhaaW.PrintWords Go.Proofs.YtgjcffjicbmkhaaW.PrintLast Go.Proofs.YtgjcffjicbmkhaaW.PrintMore Go.Proofs.Ytgjcffjicbmkhaa.PF Go.Proofs.Ytgjcffjicbmkhaa.RowU Go.Proofs.Ytgjcffjicbmkhaa.ArS
set_option linter.unusedVariables false

theorem same_loop (l : List Int) (hl : l.length ≤ 100000000000000) : ∀ (n i : Nat), l.length - i ≤ n → i ≤ l.length → larderlaw2_sameWords.l0 (n + 1) l l i = some true := by
  intro n
  induction n with
  | zero =>
    intro i h1 h2
    unfold larderlaw2_sameWords.l0
    rw [if_neg (by omega)]
  | succ n ih =>
    intro i h1 h2
    unfold larderlaw2_sameWords.l0
    by_cases hi : (i : Int) < l.length
    · rw [if_pos hi, if_pos (by omega), if_pos hi, if_pos rfl, show wrap64 ((i : Int) + 1) = ((i + 1 : Nat) : Int) by rw [ArW.w64_small _ (by omega) (by omega)]; omega]
      exact ih (i + 1) (by omega) (by omega)
    · rw [if_neg hi]
theorem same_f (l : List Int) (hl : l.length ≤ 100000000000000) : larderlaw2_sameWords.f (l.length + 1) l l = some true := by
  unfold larderlaw2_sameWords.f
  rw [if_pos rfl]
  exact same_loop l hl l.length 0 (by omega) (by omega)
/-- Words in a block of their own, as the printed contract reads them. -/
theorem words_read {W : World} {g cap : Nat} {l : List Nat} (h : WordsAt W g cap l) (hl : l.length ≤ 100000000000000) : Kd.C (Kd.int .u64) W (some ⟨g, 0, none⟩) (l.map (fun x : Nat => (x : Int))).length (l.map (fun x : Nat => (x : Int))) := by
  refine ⟨rfl, by rw [List.length_map]; omega, fun _ => ⟨_, rfl, fun j p hp => ?_⟩⟩
  rw [List.getElem?_map, Option.map_eq_some_iff] at hp
  obtain ⟨x, hx, rfl⟩ := hp
  refine ⟨[.int .u64 (x : Int)], rfl, rfl, fun i u hu => ?_⟩
  cases i with
  | zero =>
    simp at hu
    subst hu
    have := h.get j x hx
    rw [Addr.add_lit, show (Kd.int IntKind.u64).sz = 1 from rfl]
    simpa using this
  | succ i => simp at hu
theorem same_calls {W : World} {g1 c1 g2 c2 : Nat} {l : List Nat} (h1 : WordsAt W g1 c1 l) (h2 : WordsAt W g2 c2 l) (n : Nat) (hn : n = l.length) (hl : l.length ≤ 100000000000000) :
    Calls Try.prog 31 #[.slice (some ⟨g1, 0, none⟩) n c1, .slice (some ⟨g2, 0, none⟩) n c2] W fun e w' => e = .returned (.bool true) ∧ Below W.heap.size W w' := by
  subst hn
  have hc1 : l.length ≤ c1 := by obtain ⟨cur, _, _, k, _⟩ := h1; exact k
  have hc2 : l.length ≤ c2 := by obtain ⟨cur, _, _, k, _⟩ := h2; exact k
  have := larderlaw2_sameWords.calls ((l.map (fun x : Nat => (x : Int))).length + 1) (some ⟨g1, 0, none⟩) c1 (l.map (fun x : Nat => (x : Int))) (some ⟨g2, 0, none⟩) c2 (l.map (fun x : Nat => (x : Int))) true W (words_read h1 hl) (by rw [List.length_map]; exact hc1) (words_read h2 hl) (by rw [List.length_map]; exact hc2) (same_f _ (by rw [List.length_map]; exact hl))
  rw [List.length_map] at this
  exact this.mono fun e w' ⟨he, hd⟩ => ⟨he, hd.below⟩
end Go.Proofs.Ytgjcffjicbmkhaa.SamW
