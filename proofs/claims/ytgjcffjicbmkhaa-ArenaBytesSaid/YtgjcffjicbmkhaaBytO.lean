/- ArenaBytes' parameter, opened; what its walk keeps. -/
import Derived.Test.YtgjcffjicbmkhaaMemO
import Derived.Test.YtgjcffjicbmkhaaFillL
import Derived.Test.YtgjcffjicbmkhaaRowB
namespace Go.Proofs.Ytgjcffjicbmkhaa.BytO
open Go Go.RowKit Go.Proofs.YtgjcffjicbmkhaaW.PrintWords Go.Proofs.YtgjcffjicbmkhaaW.PrintLast Go.Proofs.YtgjcffjicbmkhaaW.PrintMore Go.Proofs.Ytgjcffjicbmkhaa.Open Go.Proofs.Ytgjcffjicbmkhaa.PF Go.Proofs.Ytgjcffjicbmkhaa.MemO Go.Proofs.Ytgjcffjicbmkhaa.RowU Go.Proofs.Ytgjcffjicbmkhaa.ArS Go.Proofs.Ytgjcffjicbmkhaa.ArM Go.Proofs.Ytgjcffjicbmkhaa.ArW Go.Proofs.Ytgjcffjicbmkhaa.ArX Go.Proofs.Ytgjcffjicbmkhaa.ArY Go.Proofs.Ytgjcffjicbmkhaa.ArZ Go.Proofs.Ytgjcffjicbmkhaa.GenM Go.Proofs.Ytgjcffjicbmkhaa.ArV Go.Proofs.Ytgjcffjicbmkhaa.ArB Go.Proofs.Ytgjcffjicbmkhaa.ArC Go.Proofs.Ytgjcffjicbmkhaa.RowB Go.Proofs.Ytgjcffjicbmkhaa.TakS Go.Proofs.Ytgjcffjicbmkhaa.FillL
set_option linter.unusedVariables false
set_option maxRecDepth 100000

def gBytes (l : List Int) : Prop := GoodL 1 (fun x => (Lit.int .u8 x).wf = true) l
theorem o_u8 : Opens Try.prog 5 (Kd.int .u8) (fun x => (Lit.int .u8 x).wf = true) := opens_int Try.underlying5 (by kernel_rfl)
theorem o_bytes : Opens Try.prog 67 (Kd.slice 5 (Kd.int .u8)) gBytes := opens_slice Try.underlying67 (by kernel_rfl) (by kernel_rfl) o_u8
theorem wf_u8 {x : Int} (h : (Lit.int .u8 x).wf = true) : 0 ≤ x ∧ x < 256 := by
  simp [Lit.wf, IntKind.min, IntKind.max, IntKind.signed, IntKind.bits] at h; omega
/-- At, D -/
def kP : Kd (Int × List Int) := Kd.pair (Kd.int .i64) (Kd.slice 5 (Kd.int .u8))
theorem o_piece : Opens Try.prog 69 kP (fun y => gI y.1 ∧ gBytes y.2) :=
  opens_struct Try.underlying69 rfl (by kernel_rfl) (fields2 rfl o_int (fields1 rfl o_bytes))
/-- Refs, Raws, Pieces, Cut -/
def kRow : Kd (Int × Int × List (Int × List Int) × Int) := Kd.pair (Kd.int .i64) (Kd.pair (Kd.int .i64) (Kd.pair (Kd.slice 69 kP) (Kd.int .i64)))
def gRow (y : Int × Int × List (Int × List Int) × Int) : Prop := gI y.1 ∧ gI y.2.1 ∧ GoodL 32 (fun y => gI y.1 ∧ gBytes y.2) y.2.2.1 ∧ gI y.2.2.2
theorem o_row : Opens Try.prog 66 kRow gRow :=
  opens_struct Try.underlying66 rfl (by kernel_rfl) (fields2 rfl o_int (fields2 rfl o_int (fields2 rfl (opens_slice Try.underlying64 (by kernel_rfl) (by kernel_rfl) o_piece) (fields1 rfl o_int))))
theorem kP_open {w : World} {x : Int × List Int} {cs : List Value} (h : kP.K w x cs) : ∃ A c, cs = [.int .i64 x.1, .slice A x.2.length c] ∧ x.2.length ≤ c ∧ Kd.C (Kd.int .u8) w A x.2.length x.2 := by
  obtain ⟨c1, c2, rfl, h1, A, c, rfl, h2, h3⟩ := h
  obtain rfl : c1 = _ := h1
  exact ⟨A, c, rfl, h2, h3⟩
/-- One piece's cells. -/
theorem piece_at {W : World} {A : Option Addr} {l : List (Int × List Int)} (h : Kd.C kP W A l.length l) (i : Nat) (x : Int × List Int) (hx : l[i]? = some x) : ∃ ad B c, A = some ad ∧ W.cell? (ad.add (i * 2)) = some (.int .i64 x.1) ∧ W.cell? ⟨(ad.add (i * 2)).block, (ad.add (i * 2)).off + 1, none⟩ = some (.slice B x.2.length c) ∧ x.2.length ≤ c ∧ Kd.C (Kd.int .u8) W B x.2.length x.2 := by
  have hi := (List.getElem?_eq_some_iff.1 hx).1
  obtain ⟨ad, c, e, _, hK, hc0⟩ := Kd.C_get h (0, []) i (by omega) (by omega)
  have hc : ∀ j u, c[j]? = some u → W.cell? (ad.add (i * 2 + j)) = some u := hc0
  have hd : l.getD ((i : Int)).toNat (0, []) = x := by rw [Int.toNat_natCast, List.getD_eq_getElem?_getD, hx]; rfl
  rw [hd] at hK
  obtain ⟨B, c', rfl, h2, h3⟩ := kP_open hK
  exact ⟨ad, B, c', e, hc 0 _ rfl, by rw [← add_field _ _ 1 (by omega)]; exact hc 1 _ rfl, h2, h3⟩
/-- Bytes as naturals. -/
theorem byte_nat (l : List Int) (h : ∀ x ∈ l, 0 ≤ x ∧ x < 256) : ∃ bs : List Nat, l = bs.map (fun x : Nat => (x : Int)) ∧ ∀ c ∈ bs, c < 256 := by
  induction l with
  | nil => exact ⟨[], rfl, fun c hc => by simp at hc⟩
  | cons x l ih =>
    obtain ⟨bs, hb, hc⟩ := ih (fun y hy => h y (List.mem_cons_of_mem _ hy))
    obtain ⟨h0, h1⟩ := h x (List.mem_cons_self ..)
    obtain ⟨n, rfl⟩ := Int.eq_ofNat_of_zero_le h0
    refine ⟨n :: bs, by rw [hb]; rfl, fun c hc' => ?_⟩
    rcases List.mem_cons.1 hc' with rfl | h2
    · omega
    · exact hc c h2
theorem byte_cell {W : World} {A : Option Addr} {bs : List Nat} (h : Kd.C (Kd.int .u8) W A (bs.map (fun x : Nat => (x : Int))).length (bs.map (fun x : Nat => (x : Int)))) (i x : Nat) (hx : bs[i]? = some x) : ∃ ad, A = some ad ∧ W.cell? (ad.add i) = some (.int .u8 (x : Int)) := by
  have hi := (List.getElem?_eq_some_iff.1 hx).1
  obtain ⟨ad, c, e, _, hK, hc0⟩ := Kd.C_get h 0 i (by omega) (by rw [List.length_map]; omega)
  have hd : (bs.map (fun x : Nat => (x : Int))).getD ((i : Int)).toNat 0 = (x : Int) := by rw [Int.toNat_natCast, List.getD_eq_getElem?_getD, List.getElem?_map, hx]; rfl
  rw [hd] at hK
  have hc : ∀ j u, c[j]? = some u → W.cell? (ad.add (i * 1 + j)) = some u := hc0
  have hK' : c = [.int .u8 (x : Int)] := hK
  subst hK'
  have := hc 0 _ rfl
  rw [Nat.mul_one, Nat.add_zero] at this
  exact ⟨ad, e, this⟩
/-- copy of bytes onto a block of bytes. -/
theorem oper_copyB {o : Oper} {a : Act} {K : Act → World → Prop} {Q : Exit → Act → World → Prop} (w : World) (d s : Operand)
    (hop : o.op = Op.call { callee := Callee.builtin Builtin.copy, args := #[d, s], argTypes := #[67, 67] })
    (dp : Option Addr) (g off dLen dCap : Nat) (hd : a.eval d = .slice dp dLen dCap) (sp : Option Addr) (sLen sCap : Nat) (hs : a.eval s = .slice sp sLen sCap)
    (cap : Nat) (l : List Value) (hw : GenAt 5 w g cap l) (l2 : List Value) (hl2 : l2.length = sLen) (hle : sLen ≤ dLen) (hfit : off + dLen ≤ l.length) (hc : ∀ j y, l2[j]? = some y → ∃ ad, sp = some ad ∧ w.cell? (ad.add j) = some y) (h1 : ∀ y ∈ l2, y.oneCell' = true) (hdp : 0 < sLen → dp = some ⟨g, off, none⟩)
    (hK : ∀ w', GenAt 5 w' g cap (l.take off ++ l2 ++ l.drop (off + sLen)) → Upd (fun k => k = g) w w' → K (a.put o.dst (.int .i64 (sLen : Int))) w') :
    Oper.wp Try.prog o a w K Q := by
  have hsz : (Try.prog.info? 5).map (·.size) = some 1 := by kernel_rfl
  by_cases h0 : sLen = 0
  · subst h0
    obtain rfl : l2 = [] := List.eq_nil_of_length_eq_zero hl2
    have hrun := run_copy_none (P := Try.prog) w 67 67 o.type 5 dp sp dLen dCap 0 sCap Try.underlying67 hsz (Nat.zero_min _)
    unfold Oper.wp
    simp [execOp, hop, resolve, invoke, builtin, hd, hs, hrun, Result.andThen]
    refine hK w ?_ (Upd.refl _ w)
    simpa using hw
  · obtain rfl := hdp (by omega)
    obtain ⟨y0, hy0⟩ : ∃ y, l2[0]? = some y := ⟨_, List.getElem?_eq_getElem (by omega)⟩
    obtain ⟨ad, rfl, _⟩ := hc 0 y0 hy0
    obtain ⟨cur, k1, k2, k3, k4, k5⟩ := hw
    have hrun := run_copy_row (P := Try.prog) w 67 67 o.type 5 g off dLen dCap ad sLen sCap cur.toArray 5 l2 Try.underlying67 hsz k1 (by rw [hl2]; exact (Nat.min_eq_left hle).symm) (by
      intro j u hu
      obtain ⟨ad', h1, h2⟩ := hc j u hu
      obtain rfl := Option.some.inj h1
      exact h2) (by simp; omega) h1
    unfold Oper.wp
    simp [execOp, hop, resolve, invoke, builtin, hd, hs, hrun, Result.andThen, goInt, hl2]
    refine hK (w.setRow g (cur.take off ++ (l2 ++ cur.drop (off + sLen))).toArray) ?wa ?up
    case wa =>
      refine ⟨cur.take off ++ (l2 ++ cur.drop (off + sLen)), ?_, ?_, ?_, k4, ?_⟩
      · exact setRow_heap w g _ _ _ _ k1
      · simp; omega
      · simp; omega
      · have e1 : (cur.take off) = (l.take off) := by
          rw [← k5, List.take_take, Nat.min_eq_left (by omega)]
        have e2 : (cur.drop (off + sLen)).take (l.length - (off + sLen)) = (l.drop (off + sLen)) := by
          conv => rhs; rw [← k5, List.drop_take]
        have ll : (l.take off ++ l2 ++ l.drop (off + sLen)).length = off + (sLen + (l.length - (off + sLen))) := by simp; omega
        rw [ll, List.append_assoc, ← e1, ← e2]
        rw [List.take_append, List.take_append]
        congr 1
        · exact List.take_of_length_le (by simp; omega)
        · congr 1
          · exact List.take_of_length_le (by simp; omega)
          · congr 1
            simp
            omega
    case up => exact ⟨rfl, rfl, rfl, by simp [World.setRow], fun k hk hn => setRow_other w g k _ hn⟩
/-- A fresh object's bytes are 0. -/
theorem byte_new (k r s j : Nat) : Ob.byte (newOb k r s) j = 0 := by
  unfold Ob.byte
  have : (newOb k r s).fields.getD ((newOb k r s).refs + j / 8) 0 = 0 := by
    rw [List.getD_eq_getElem?_getD]
    show (List.replicate (r + s) 0)[_]?.getD 0 = 0
    rw [List.getElem?_replicate]
    split <;> rfl
  rw [this]
  simp [NumB.byteAt]
/-- What the bytes are behind a piece. -/
theorem byte_putBs (bs : List Nat) (hbs : ∀ c ∈ bs, c < 256) : ∀ {o : Ob} (f : Nat), o.ok → (∀ j, f ≤ j → j < f + bs.length → o.refs + j / 8 < o.fields.length) → ∀ i, Ob.byte (putBs o f bs) i = if f ≤ i ∧ i < f + bs.length then bs.getD (i - f) 0 else Ob.byte o i := by
  induction bs with
  | nil => intro o f _ _ i; rw [if_neg (fun h => by have h1 := h.1; have h2 := h.2; rw [List.length_nil] at h2; omega)]; rfl
  | cons c l ih =>
    intro o f ho hj i
    have hc := hbs c (List.mem_cons_self ..)
    have ho2 := putB_ok ho f c hc
    obtain ⟨s1, s2, s3, s4⟩ := putB_same o f c
    have hj0 := hj f (Nat.le_refl _) (by simp)
    show Ob.byte (putBs (Ob.putB o f c) (f + 1) l) i = _
    rw [ih (fun x hx => hbs x (List.mem_cons_of_mem _ hx)) (f + 1) ho2 (fun j h1 h2 => by rw [s2, s3]; exact hj j (by omega) (by simp; omega)) i]
    rw [byte_putB ho f c i hj0 hc]
    by_cases h1 : i = f
    · subst h1
      rw [if_neg (by omega), if_pos rfl, if_pos (by simp)]
      simp
    · rw [if_neg h1]
      by_cases h2 : f + 1 ≤ i ∧ i < f + 1 + l.length
      · rw [if_pos h2, if_pos (by simp; omega), show i - f = (i - (f + 1)) + 1 by omega]
        simp
      · rw [if_neg h2, if_neg (by simp; omega)]
theorem bytes_splice {o : Ob} (bs : List Nat) (hbs : ∀ c ∈ bs, c < 256) (f m : Nat) (ho : o.ok) (hfm : f + bs.length ≤ m) (hj : ∀ j, j < m → o.refs + j / 8 < o.fields.length) :
    (bytesV (Ob.byte o) m m).take f ++ bs.map (fun x : Nat => Value.int .u8 (x : Int)) ++ (bytesV (Ob.byte o) m m).drop (f + bs.length) = bytesV (Ob.byte (putBs o f bs)) m m := by
  have hb := byte_putBs bs hbs f ho (fun j _ h2 => hj j (by omega))
  apply List.ext_getElem?
  intro j
  by_cases hjm : j < m
  · rw [bytesV_get _ m m j hjm, if_pos hjm, hb j]
    by_cases h1 : j < f
    · rw [if_neg (by omega), List.append_assoc, List.getElem?_append_left (by rw [List.length_take, bytesV_len]; omega), List.getElem?_take, if_pos h1, bytesV_get _ m m j hjm, if_pos hjm]
    · by_cases h2 : j < f + bs.length
      · rw [if_pos ⟨by omega, h2⟩, List.append_assoc, List.getElem?_append_right (by rw [List.length_take, bytesV_len]; omega), List.length_take, bytesV_len, Nat.min_eq_left (by omega), List.getElem?_append_left (by rw [List.length_map]; omega), List.getElem?_map, List.getElem?_eq_getElem (by omega)]
        simp only [Option.map_some, List.getD_eq_getElem?_getD]
        rw [List.getElem?_eq_getElem (by omega)]
        rfl
      · rw [if_neg (by omega), List.getElem?_append_right (by simp [bytesV_len]; omega), List.getElem?_drop]
        have e : f + bs.length + (j - ((bytesV (Ob.byte o) m m).take f ++ bs.map (fun x : Nat => Value.int .u8 (x : Int))).length) = j := by simp [bytesV_len]; omega
        rw [e, bytesV_get _ m m j hjm, if_pos hjm]
  · rw [List.getElem?_eq_none (by simp [bytesV_len]; omega), List.getElem?_eq_none (by rw [bytesV_len]; omega)]
/-- The refs stay. -/
theorem field_putBs (bs : List Nat) : ∀ {o : Ob} (f i : Nat), i < o.refs → (putBs o f bs).fields[i]? = o.fields[i]? := by
  induction bs with
  | nil => intro o f i _; rfl
  | cons c l ih =>
    intro o f i hi
    show (putBs (Ob.putB o f c) (f + 1) l).fields[i]? = _
    rw [ih (f + 1) i (show i < (Ob.putB o f c).refs from hi)]
    show (o.fields.set (o.refs + f / 8) _)[i]? = _
    rw [List.getElem?_set_ne (by omega)]
end Go.Proofs.Ytgjcffjicbmkhaa.BytO
