/- The laws' parameters of layer 9, opened; the package's variables. -/
import Derived.Test.YtdflblegdfpdpaaDoorOpen
import Derived.Test.YtdflblegdfpdpaaDoorProg
import Derived.Test.YtdflblegdfpdpaaDoorPieceW
import Derived.KernelRfl
import Derived.Lib.LaidTab
import Derived.Lib.LaidU8
namespace Go.Proofs.YtdflblegdfpdpaaDoor.AskW
open Go Go.RowKit Go.Proofs.YtdflblegdfpdpaaDoorW.PrintWords Go.Proofs.YtdflblegdfpdpaaDoor.Open Go.Proofs.YtdflblegdfpdpaaDoor.GlobW

def kBytes : Kd (List Int) := Kd.slice 5 (Kd.int .u8)
def gBytes (l : List Int) : Prop := GoodL 1 (fun x => (Lit.int .u8 x).wf = true) l
def gI (x : Int) : Prop := (Lit.int .i64 x).wf = true
def gB (x : Int) : Prop := (Lit.int .u8 x).wf = true
def gT (b : Bool) : Prop := b = b
theorem o_u8 : Opens Tryd.prog 5 (Kd.int .u8) gB := opens_int Tryd.underlying5 (by kernel_rfl)
theorem o_int : Opens Tryd.prog 3 (Kd.int .i64) gI := opens_int Tryd.underlying3 (by kernel_rfl)
theorem o_i64 : Opens Tryd.prog 2 (Kd.int .i64) gI := opens_int Tryd.underlying2 (by kernel_rfl)
theorem o_bool : Opens Tryd.prog 4 Kd.bool gT := fun F => ⟨(opens_bool Tryd.underlying4 (by kernel_rfl) F).sz, fun hf h hw => by
  obtain ⟨y, hy, _⟩ := (opens_bool (P := Tryd.prog) Tryd.underlying4 (by kernel_rfl) F).op hf h hw
  exact ⟨y, hy, rfl⟩⟩
theorem o_bytes : Opens Tryd.prog 22 kBytes gBytes := opens_slice Tryd.underlying22 (by kernel_rfl) (by kernel_rfl) o_u8

/-- Far, Score, Open -/
def kBound : Kd (Int × Int × Bool) := Kd.pair (Kd.int .i64) (Kd.pair (Kd.int .i64) Kd.bool)
def gBound (y : Int × Int × Bool) : Prop := gI y.1 ∧ gI y.2.1 ∧ gT y.2.2
theorem o_bound : Opens Tryd.prog 41 kBound gBound :=
  show Opens Tryd.prog 41 (Kd.pair (Kd.int .i64) (Kd.pair (Kd.int .i64) Kd.bool)) (fun y => gI y.1 ∧ gI y.2.1 ∧ gT y.2.2) from opens_struct Tryd.underlying41 rfl (by kernel_rfl) (fields2 rfl o_int (fields2 rfl o_i64 (fields1 rfl o_bool)))
/-- Far, Text, Open -/
def kLex : Kd (Int × List Int × Bool) := Kd.pair (Kd.int .i64) (Kd.pair kBytes Kd.bool)
def gLex (y : Int × List Int × Bool) : Prop := gI y.1 ∧ gBytes y.2.1 ∧ gT y.2.2
theorem o_lex : Opens Tryd.prog 43 kLex gLex :=
  show Opens Tryd.prog 43 (Kd.pair (Kd.int .i64) (Kd.pair kBytes Kd.bool)) (fun y => gI y.1 ∧ gBytes y.2.1 ∧ gT y.2.2) from opens_struct Tryd.underlying43 rfl (by kernel_rfl) (fields2 rfl o_int (fields2 rfl o_bytes (fields1 rfl o_bool)))
abbrev AskT := Int × List Int × List Int × Int × Int × Int × (Int × Int × Bool) × (Int × Int × Bool) × (Int × List Int × Bool) × (Int × List Int × Bool)
/-- Do, P, T, I, J, N, Lo, Hi, From, Upto -/
def kAsk : Kd AskT := Kd.pair (Kd.int .i64) (Kd.pair kBytes (Kd.pair kBytes (Kd.pair (Kd.int .i64) (Kd.pair (Kd.int .i64) (Kd.pair (Kd.int .i64) (Kd.pair kBound (Kd.pair kBound (Kd.pair kLex kLex))))))))
def gAsk (y : AskT) : Prop := gI y.1 ∧ gBytes y.2.1 ∧ gBytes y.2.2.1 ∧ gI y.2.2.2.1 ∧ gI y.2.2.2.2.1 ∧ gI y.2.2.2.2.2.1 ∧ gBound y.2.2.2.2.2.2.1 ∧ gBound y.2.2.2.2.2.2.2.1 ∧ gLex y.2.2.2.2.2.2.2.2.1 ∧ gLex y.2.2.2.2.2.2.2.2.2
theorem o_ask : Opens Tryd.prog 45 kAsk gAsk :=
  opens_struct Tryd.underlying45 rfl (by kernel_rfl) (fields2 rfl o_int (fields2 rfl o_bytes (fields2 rfl o_bytes (fields2 rfl o_i64 (fields2 rfl o_i64 (fields2 rfl o_int (fields2 rfl o_bound (fields2 rfl o_bound (fields2 rfl o_lex (fields1 rfl o_lex))))))))))
def kAsks : Kd (List AskT) := Kd.slice 45 kAsk
def gAsks (l : List AskT) : Prop := GoodL 208 gAsk l
theorem o_asksl : Opens Tryd.prog 58 kAsks gAsks := opens_slice Tryd.underlying58 (by kernel_rfl) (by kernel_rfl) o_ask
theorem o_asks : Opens Tryd.prog 60 kAsks gAsks :=
  opens_struct Tryd.underlying60 rfl (by kernel_rfl) (fields1 rfl o_asksl)
/-- T, U, N -/
def kTexts : Kd (List Int × List Int × Int) := Kd.pair kBytes (Kd.pair kBytes (Kd.int .i64))
def gTexts (y : List Int × List Int × Int) : Prop := gBytes y.1 ∧ gBytes y.2.1 ∧ gI y.2.2
theorem o_texts : Opens Tryd.prog 24 kTexts gTexts :=
  opens_struct Tryd.underlying24 rfl (by kernel_rfl) (fields2 rfl o_bytes (fields2 rfl o_bytes (fields1 rfl o_int)))

theorem wf_u8 {x : Int} (h : (Lit.int .u8 x).wf = true) : 0 ≤ x ∧ x < 256 := by
  simp [Lit.wf, IntKind.min, IntKind.max, IntKind.signed, IntKind.bits] at h; omega
theorem wf_i64 {x : Int} (h : (Lit.int .i64 x).wf = true) : -9223372036854775808 ≤ x ∧ x < 9223372036854775808 := by
  simp [Lit.wf, IntKind.min, IntKind.max, IntKind.signed, IntKind.bits] at h; omega
theorem gBytes_in {l : List Int} (h : gBytes l) : ∀ c ∈ l, 0 ≤ c ∧ c < 256 := fun c hc => wf_u8 (h.2 c hc)
theorem gBytes_len {l : List Int} (h : gBytes l) : l.length ≤ 140737488351232 := by have := h.1; omega

/-- An Ask's cells. -/
theorem ask_cells {W : World} {y : AskT} {cs : List Value} (h : kAsk.K W y cs) : ∃ Ap cp At ct A3 c3 A4 c4, cs = [.int .i64 y.1, .slice Ap y.2.1.length cp, .slice At y.2.2.1.length ct, .int .i64 y.2.2.2.1, .int .i64 y.2.2.2.2.1, .int .i64 y.2.2.2.2.2.1, .int .i64 y.2.2.2.2.2.2.1.1, .int .i64 y.2.2.2.2.2.2.1.2.1, .bool y.2.2.2.2.2.2.1.2.2, .int .i64 y.2.2.2.2.2.2.2.1.1, .int .i64 y.2.2.2.2.2.2.2.1.2.1, .bool y.2.2.2.2.2.2.2.1.2.2, .int .i64 y.2.2.2.2.2.2.2.2.1.1, .slice A3 y.2.2.2.2.2.2.2.2.1.2.1.length c3, .bool y.2.2.2.2.2.2.2.2.1.2.2, .int .i64 y.2.2.2.2.2.2.2.2.2.1, .slice A4 y.2.2.2.2.2.2.2.2.2.2.1.length c4, .bool y.2.2.2.2.2.2.2.2.2.2.2] ∧
    y.2.1.length ≤ cp ∧ (Kd.int .u8).C W Ap y.2.1.length y.2.1 ∧ y.2.2.1.length ≤ ct ∧ (Kd.int .u8).C W At y.2.2.1.length y.2.2.1 ∧ y.2.2.2.2.2.2.2.2.1.2.1.length ≤ c3 ∧ (Kd.int .u8).C W A3 y.2.2.2.2.2.2.2.2.1.2.1.length y.2.2.2.2.2.2.2.2.1.2.1 ∧ y.2.2.2.2.2.2.2.2.2.2.1.length ≤ c4 ∧ (Kd.int .u8).C W A4 y.2.2.2.2.2.2.2.2.2.2.1.length y.2.2.2.2.2.2.2.2.2.2.1 := by
  obtain ⟨b0, b1, e0, h0, d0, d1, rfl, h1, f0, f1, rfl, h2, g0, g1, rfl, h3, i0, i1, rfl, h4, j0, j1, rfl, h5, k0, k1, rfl, h6, l0, l1, rfl, h7, m0, m1, rfl, h8, h9⟩ := h
  obtain ⟨Ap, cp, rfl, hp, hP⟩ := h1
  obtain ⟨At, ct, rfl, ht, hT⟩ := h2
  obtain ⟨n0, n1, rfl, p0, q0, q1, rfl, p1, p2⟩ := h6
  obtain ⟨r0, r1, rfl, s0, t0, t1, rfl, s1, s2⟩ := h7
  obtain ⟨u0, u1, rfl, v0, x0, x1, rfl, ⟨A3, c3, rfl, hc3, hC3⟩, v2⟩ := h8
  obtain ⟨y0, y1, rfl, z0, w0, w1, rfl, ⟨A4, c4, rfl, hc4, hC4⟩, z2⟩ := h9
  have a0 : b0 = [_] := h0
  have a3 : g0 = [_] := h3
  have a4 : i0 = [_] := h4
  have a5 : j0 = [_] := h5
  have b6 : n0 = [_] := p0
  have b7 : q0 = [_] := p1
  have b8 : q1 = [_] := p2
  have c6 : r0 = [_] := s0
  have c7 : t0 = [_] := s1
  have c8 : t1 = [_] := s2
  have d6 : u0 = [_] := v0
  have d8 : x1 = [_] := v2
  have e6 : y0 = [_] := z0
  have e8 : w1 = [_] := z2
  subst a0 a3 a4 a5 b6 b7 b8 c6 c7 c8 d6 d8 e6 e8
  exact ⟨Ap, cp, At, ct, A3, c3, A4, c4, e0, hp, hP, ht, hT, hc3, hC3, hc4, hC4⟩

theorem gNothing : Tryd.prog.globalNamed "larder/match.nothing" = some 0 := by kernel_rfl
theorem gEverything : Tryd.prog.globalNamed "larder/match.everything" = some 1 := by kernel_rfl
theorem tNothing : (Tryd.prog.globals[0]?).map (·.type) = some 67 := by kernel_rfl
theorem tEverything : (Tryd.prog.globals[1]?).map (·.type) = some 67 := by kernel_rfl
theorem cQ : Tryd.prog.cellsOf 67 = 4 := by kernel_rfl
theorem cU : Tryd.prog.cellsOf 65 = 1 := by kernel_rfl
/-- What the row's list gives. -/
theorem gl {W : World} (h : laidMet Tryd.prog [("larder/match.nothing", Lib.tabData .u64 [0, 0, 0, 0]), ("larder/match.everything", Lib.tabData .u64 [18446744073709551615, 18446744073709551615, 18446744073709551615, 18446744073709551615])] W) : GL W := by
  have h0 : Lib.TabIs Tryd.prog W "larder/match.nothing" .u64 [0, 0, 0, 0] := Lib.tabIs_of_head gNothing tNothing Tryd.underlying67 Tryd.underlying65 cU cQ h
  obtain ⟨g', t', cs, fuel, p, hg', ht', hvar, hd⟩ := Lib.laidMet.reads h (n := "larder/match.everything") (List.mem_cons_of_mem _ (List.mem_cons_self ..))
  obtain rfl := Option.some.inj (gEverything.symm.trans hg')
  obtain rfl := Option.some.inj (tEverything.symm.trans ht')
  have h1 : Lib.TabIs Tryd.prog W "larder/match.everything" .u64 [18446744073709551615, 18446744073709551615, 18446744073709551615, 18446744073709551615] := by
    unfold Lib.TabIs
    rw [hvar]
    have := Lib.cells_of_tab Tryd.underlying67 Tryd.underlying65 cU cQ hd
    rw [← this]
  exact ⟨⟨h0.cell gNothing 0 (by decide), h0.cell gNothing 1 (by decide), h0.cell gNothing 2 (by decide), h0.cell gNothing 3 (by decide)⟩, h1.cell gEverything 0 (by decide), h1.cell gEverything 1 (by decide), h1.cell gEverything 2 (by decide), h1.cell gEverything 3 (by decide)⟩
end Go.Proofs.YtdflblegdfpdpaaDoor.AskW
