/- The arena's contracts as the laws use them. -/
import Derived.Test.YtgjcffjicbmkhaaArU
import Derived.Test.YtgjcffjicbmkhaaTakS
namespace Go.Proofs.Ytgjcffjicbmkhaa.ArV
open Go Go.RowKit Go.Proofs.YtgjcffjicbmkhaaW.PrintWords Go.Proofs.YtgjcffjicbmkhaaW.PrintLast Go.Proofs.YtgjcffjicbmkhaaW.PrintMore Go.Proofs.Ytgjcffjicbmkhaa.PF Go.Proofs.Ytgjcffjicbmkhaa.RowU Go.Proofs.Ytgjcffjicbmkhaa.ArS Go.Proofs.Ytgjcffjicbmkhaa.ArM Go.Proofs.Ytgjcffjicbmkhaa.ArW Go.Proofs.Ytgjcffjicbmkhaa.ArX Go.Proofs.Ytgjcffjicbmkhaa.ArY Go.Proofs.Ytgjcffjicbmkhaa.ArZ Go.Proofs.Ytgjcffjicbmkhaa.GenM Go.Proofs.Ytgjcffjicbmkhaa.TakS
set_option linter.unusedVariables false

theorem within_calls (a : Int) (m : Nat) (h : 0 < m) (hm : m ≤ 1000000) : ∃ r : Nat, r < m ∧ larderlaw2_within.f a m = some (r : Int) ∧ ∀ w : World, Calls Try.prog 12 #[.int .i64 a, .int .i64 (m : Int)] w fun e w' => e = .returned (.int .i64 (r : Int)) ∧ Below w.heap.size w w' := by
  obtain ⟨r, h1, h2⟩ := within_ok a m h hm
  exact ⟨r, h2, h1, fun w => (larderlaw2_within.calls a m r w h1).mono fun e w' ⟨he, hd⟩ => ⟨he, hd.below⟩⟩
theorem set_yes {W : World} {g gw gf sz : Nat} {l : List Ob} (hA : ArAt W g gw gf sz l) {k : Nat} {o : Ob} (h : l[k]? = some o) (hg : o.gone = none) (i v : Nat) (hi : i < o.fields.length) (hv : v < 18446744073709551616) (p : Nat) (hp : p = place l k) :
    Calls Try.prog 13 #[.pointer (some ⟨g, 0, none⟩), .int .i64 (p : Int), .int .i64 (i : Int), .int .u64 (v : Int)] W fun e' w' => e' = .returned (.int .i64 0) ∧ ArAt w' g gw gf sz (l.set k (Ob.put o i v)) ∧ Upd (fun b => b = gw) W w' := by
  subst hp
  obtain ⟨cw, cf, fs, hA⟩ := hA
  exact (set.yes hA h hg i v hi hv).mono fun e w' ⟨he, h1, h2⟩ => ⟨he, ⟨cw, cf, fs, h1⟩, h2⟩
theorem set_far {W : World} {g gw gf sz : Nat} {l : List Ob} (hA : ArAt W g gw gf sz l) {k : Nat} {o : Ob} (h : l[k]? = some o) (hg : o.gone = none) (i v : Int) (hi : i < 0 ∨ o.fields.length ≤ i) (p : Nat) (hp : p = place l k) :
    Calls Try.prog 13 #[.pointer (some ⟨g, 0, none⟩), .int .i64 (p : Int), .int .i64 i, .int .u64 v] W fun e' w' => e' = .returned (.int .i64 24) ∧ Below W.heap.size W w' := by
  subst hp
  obtain ⟨cw, cf, fs, hA⟩ := hA
  exact set.far hA h hg i v hi
theorem get_yes {W : World} {g gw gf sz : Nat} {l : List Ob} (hA : ArAt W g gw gf sz l) {k : Nat} {o : Ob} (h : l[k]? = some o) (hg : o.gone = none) (i : Nat) (x : Nat) (hi : o.fields[i]? = some x) (p : Nat) (hp : p = place l k) :
    Calls Try.prog 16 #[.pointer (some ⟨g, 0, none⟩), .int .i64 (p : Int), .int .i64 (i : Int)] W fun e' w' => e' = .returned (.tuple #[.int .u64 (x : Int), .int .i64 0]) ∧ Below W.heap.size W w' := by
  subst hp
  obtain ⟨cw, cf, fs, hA⟩ := hA
  exact get.yes hA h hg i x hi
theorem object_yes {W : World} {g gw gf sz : Nat} {l : List Ob} (hA : ArAt W g gw gf sz l) {k : Nat} {o : Ob} (h : l[k]? = some o) (hg : o.gone = none) (p : Nat) (hp : p = place l k) (a b c : Nat) (h1 : o.kind = a) (h2 : o.refs = b) (h3 : o.fields.length = b + c) :
    Calls Try.prog 15 #[.pointer (some ⟨g, 0, none⟩), .int .i64 (p : Int)] W fun e w' => e = .returned (.tuple #[.int .i64 (a : Int), .int .i64 (b : Int), .int .i64 (c : Int), .int .i64 0]) ∧ Below W.heap.size W w' := by
  subst hp
  obtain ⟨cw, cf, fs, hA⟩ := hA
  have hr : o.raws = c := by unfold Ob.raws; omega
  have := object.yes hA h hg
  rw [h1, h2, hr] at this
  exact this
theorem object_bad {W : World} {g gw gf sz : Nat} {l : List Ob} (hA : ArAt W g gw gf sz l) {p e : Int} (h : Bad l p e) :
    Calls Try.prog 15 #[.pointer (some ⟨g, 0, none⟩), .int .i64 p] W fun e' w' => e' = .returned (.tuple #[.int .i64 0, .int .i64 0, .int .i64 0, .int .i64 e]) ∧ Below W.heap.size W w' := by
  obtain ⟨cw, cf, fs, hA⟩ := hA
  exact object.bad hA h
theorem _root_.Go.Proofs.Ytgjcffjicbmkhaa.GenM.GV.cell {T : TypeId} {W : World} {g n c : Nat} {l : List Value} (h : GV T W (.slice (some ⟨g, 0, none⟩) n c) l) (j : Nat) (x : Value) (hx : l[j]? = some x) : W.cell? ⟨g, j, none⟩ = some x := by
  obtain ⟨g', c', h1, h2⟩ := h.get j x hx
  simp at h1
  rw [h1.1]; exact h2
theorem _root_.Go.Proofs.Ytgjcffjicbmkhaa.GenM.GV.form {T : TypeId} {W : World} {v : Value} {l : List Value} (h : GV T W v l) (hl : 0 < l.length) : ∃ g c, v = .slice (some ⟨g, 0, none⟩) l.length c ∧ l.length ≤ c := by
  rcases h with ⟨_, rfl⟩ | ⟨g, c, rfl, h⟩
  · simp at hl
  · obtain ⟨cur, h1, h2, h3, h4⟩ := h
    exact ⟨g, c, rfl, h3⟩
theorem placesV_get (l : List S28) (n j : Nat) (hj : j < n) : ((List.range n).map fun k => Value.int .i64 (place (obsOf l) k : Int))[j]? = some (.int .i64 (place (obsOf l) j : Int)) := by
  rw [List.getElem?_map, List.getElem?_range hj]; rfl
end Go.Proofs.Ytgjcffjicbmkhaa.ArV
