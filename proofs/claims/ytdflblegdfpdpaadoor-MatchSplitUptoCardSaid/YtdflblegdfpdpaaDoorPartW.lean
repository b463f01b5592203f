/- The laws' parameter Parts, opened; its pieces' cells. -/
import Derived.Test.YtdflblegdfpdpaaDoorFitW
namespace Go.Proofs.YtdflblegdfpdpaaDoor.PartW
open Go Go.RowKit Go.Proofs.YtdflblegdfpdpaaDoorW.PrintWords Go.Proofs.YtdflblegdfpdpaaDoor.Open Go.Proofs.YtdflblegdfpdpaaDoor.AskW Go.Proofs.YtdflblegdfpdpaaDoor.WriteW Go.Proofs.YtdflblegdfpdpaaDoor.ClassS Go.Proofs.YtdflblegdfpdpaaDoor.GlobS Go.Proofs.YtdflblegdfpdpaaDoor.GlobT
set_option linter.unusedVariables false
def gMem (y : MemT) : Prop := gB y.1 ∧ gB y.2.1 ∧ gT y.2.2.1 ∧ gT y.2.2.2
theorem o_mem : Opens Tryd.prog 72 kMem gMem :=
  opens_struct Tryd.underlying72 rfl (by kernel_rfl) (fields2 rfl o_u8 (fields2 rfl o_u8 (fields2 rfl o_bool (fields1 rfl o_bool))))
def kMems : Kd (List MemT) := Kd.slice 72 kMem
def gMems (l : List MemT) : Prop := GoodL 4 gMem l
theorem o_mems : Opens Tryd.prog 33 kMems gMems := opens_slice Tryd.underlying33 (by kernel_rfl) (by kernel_rfl) o_mem
abbrev PieT := Int × Int × Bool × List MemT
/-- Do, B, Not, Members -/
def kPie : Kd PieT := Kd.pair (Kd.int .i64) (Kd.pair (Kd.int .u8) (Kd.pair Kd.bool kMems))
def gPie (y : PieT) : Prop := gI y.1 ∧ gB y.2.1 ∧ gT y.2.2.1 ∧ gMems y.2.2.2
theorem o_pie : Opens Tryd.prog 35 kPie gPie :=
  opens_struct Tryd.underlying35 rfl (by kernel_rfl) (fields2 rfl o_int (fields2 rfl o_u8 (fields2 rfl o_bool (fields1 rfl o_mems))))
def kPies : Kd (List PieT) := Kd.slice 35 kPie
def gPies (l : List PieT) : Prop := GoodL 40 gPie l
theorem o_pies : Opens Tryd.prog 30 kPies gPies := opens_slice Tryd.underlying30 (by kernel_rfl) (by kernel_rfl) o_pie
abbrev PartT := List PieT × List PieT × List Int
/-- P, Q, T -/
def kParts : Kd PartT := Kd.pair kPies (Kd.pair kPies kBytes)
def gParts (y : PartT) : Prop := gPies y.1 ∧ gPies y.2.1 ∧ gBytes y.2.2
theorem o_parts : Opens Tryd.prog 32 kParts gParts :=
  opens_struct Tryd.underlying32 rfl (by kernel_rfl) (fields2 rfl o_pies (fields2 rfl o_pies (fields1 rfl o_bytes)))
theorem parts_cells {W : World} {y : PartT} {cs : List Value} (h : kParts.K W y cs) : ∃ Ap cp Aq cq At ct, cs = [.slice Ap y.1.length cp, .slice Aq y.2.1.length cq, .slice At y.2.2.length ct] ∧
    y.1.length ≤ cp ∧ kPie.C W Ap y.1.length y.1 ∧ y.2.1.length ≤ cq ∧ kPie.C W Aq y.2.1.length y.2.1 ∧ y.2.2.length ≤ ct ∧ (Kd.int .u8).C W At y.2.2.length y.2.2 := by
  obtain ⟨b0, b1, rfl, ⟨Ap, cp, rfl, hp, hP⟩, c0, c1, rfl, ⟨Aq, cq, rfl, hq, hQ⟩, ⟨At, ct, rfl, ht, hT⟩⟩ := h
  exact ⟨Ap, cp, Aq, cq, At, ct, rfl, hp, hP, hq, hQ, ht, hT⟩
theorem pie_cells {w : World} {ad : Addr} {n : Nat} {l : List PieT} (h : kPie.C w (some ad) n l) (i : Nat) (y : PieT) (hy : l[i]? = some y) :
    ∃ A c, y.2.2.2.length ≤ c ∧ kMem.C w A y.2.2.2.length y.2.2.2 ∧ ∀ j u, ([.int .i64 y.1, .int .u8 y.2.1, .bool y.2.2.1, .slice A y.2.2.2.length c] : List Value)[j]? = some u → w.cell? ((ad.add (i * 4)).add j) = some u := by
  obtain ⟨hi, hp'⟩ := List.getElem?_eq_some_iff.1 hy
  have hn : l.length = n := h.1
  obtain ⟨ad', c, hh, hc, hK, hcells⟩ := Kd.C_get h y (i : Int) (by omega) (by omega)
  obtain rfl : ad = ad' := Option.some.inj hh
  rw [Int.toNat_natCast] at hK hcells
  have he : l.getD i y = y := by rw [List.getD_eq_getElem?_getD, hy]; rfl
  rw [he] at hK
  obtain ⟨b0, b1, rfl, h0, c0, c1, rfl, h1, d0, d1, rfl, h2, ⟨A, cc, rfl, hl, hC⟩⟩ := hK
  have a0 : b0 = [_] := h0
  have a1 : c0 = [_] := h1
  have a2 : d0 = [_] := h2
  subst a0 a1 a2
  refine ⟨A, cc, hl, hC, ?_⟩
  intro j u hu
  rw [HeldW.add_add]
  exact hcells j u hu
theorem good_mems {l : List MemT} (h : gMems l) : ∀ m ∈ l.map toM, goodMem m := by
  intro m hm
  obtain ⟨y, hy, rfl⟩ := List.mem_map.1 hm
  have := h.2 y hy
  exact ⟨wf_u8 this.1, wf_u8 this.2.1⟩
theorem in_spell {b : Int} (pl : Bool) (hb : 0 ≤ b ∧ b < 256) : ∀ x ∈ spellL b pl, 0 ≤ x ∧ x < 256 := by
  intro x hx
  unfold spellL at hx
  split at hx
  · simp only [List.mem_cons, List.not_mem_nil, or_false] at hx; omega
  · simp only [List.mem_cons, List.not_mem_nil, or_false] at hx; omega
theorem in_mems (ms : List Mem) (h : ∀ m ∈ ms, goodMem m) : ∀ x ∈ memsL ms, 0 ≤ x ∧ x < 256 := by
  intro x hx
  obtain ⟨m, hm, hx⟩ := List.mem_flatMap.1 hx
  unfold memL at hx
  rcases List.mem_append.1 hx with hx | hx
  · exact in_spell _ (h m hm).1 x hx
  · split at hx
    · rcases List.mem_cons.1 hx with rfl | hx
      · decide
      · exact in_spell _ (h m hm).2 x hx
    · cases hx
theorem in_write (x : Pie) (hb : 0 ≤ x.b ∧ x.b < 256) (h : ∀ m ∈ x.ms, goodMem m) : ∀ c ∈ writeL x, 0 ≤ c ∧ c < 256 := by
  intro c hc
  unfold writeL at hc
  split at hc
  · simp at hc; omega
  split at hc
  · simp at hc; omega
  split at hc
  · simp at hc; omega
  · rcases List.mem_append.1 hc with hc | hc
    · rcases List.mem_append.1 hc with hc | hc
      · rcases List.mem_append.1 hc with hc | hc
        · simp at hc; omega
        · split at hc
          · simp at hc; omega
          · cases hc
      · exact in_mems _ h c hc
    · simp at hc; omega

/-- A class fits one byte, and that it names. -/
theorem class_pieces (b : Int) (neg : Bool) (l : List MemT) : piecesL (writeL (toP 3 b neg l)) = [⟨false, classQ (toP 3 b neg l)⟩] := by
  have := pieces_write (toP 3 b neg l) []
  rw [List.append_nil] at this
  rw [this]
  have e : piecesL [] = [] := by rw [piecesL]
  rw [e]
  rfl
theorem class_one (b : Int) (neg : Bool) (l : List MemT) (hg : gMems l) (c : Int) (hc : 0 ≤ c ∧ c < 256) : globL (writeL (toP 3 b neg l)) [c] = fitsL (toP 3 b neg l) c := by
  unfold globL
  rw [class_pieces, fits_set rfl, ← has_class (toP 3 b neg l) (good_mems hg) c hc]
  simp [fits]
theorem class_none (b : Int) (neg : Bool) (l : List MemT) : globL (writeL (toP 3 b neg l)) [] = false := by
  unfold globL
  rw [class_pieces, fits_set_nil rfl]
theorem class_two (b : Int) (neg : Bool) (l : List MemT) : globL (writeL (toP 3 b neg l)) [97, 98] = false := by
  unfold globL
  rw [class_pieces, fits_set rfl]
  simp [fits]
end Go.Proofs.YtdflblegdfpdpaaDoor.PartW
