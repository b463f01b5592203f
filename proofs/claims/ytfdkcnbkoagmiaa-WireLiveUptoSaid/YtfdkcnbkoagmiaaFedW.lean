/- Layer 8: fed walked. -/
import Derived.Test.YtfdkcnbkoagmiaaParF
import Derived.Test.YtfdkcnbkoagmiaaChkS
import Derived.Test.YtfdkcnbkoagmiaaCopL
namespace Go.Proofs.Ytfdkcnbkoagmiaa.FedW
open Go Go.RowKit Go.Proofs.YtfdkcnbkoagmiaaW.PrintWords Go.Proofs.YtfdkcnbkoagmiaaW.PrintLast Go.Proofs.YtfdkcnbkoagmiaaW.PrintMore Go.Proofs.Ytfdkcnbkoagmiaa.RowU Go.Proofs.Ytfdkcnbkoagmiaa.ArS Go.Proofs.Ytfdkcnbkoagmiaa.ArM Go.Proofs.Ytfdkcnbkoagmiaa.GenM Go.Proofs.Ytfdkcnbkoagmiaa.GenN Go.Proofs.Ytfdkcnbkoagmiaa.GenL Go.Proofs.Ytfdkcnbkoagmiaa.OwnL Go.Proofs.Ytfdkcnbkoagmiaa.ParM Go.Proofs.Ytfdkcnbkoagmiaa.ParD Go.Proofs.Ytfdkcnbkoagmiaa.ParF Go.Proofs.Ytfdkcnbkoagmiaa.ChkS
open Go.Proofs.Ytfdkcnbkoagmiaa.ParS (St PS)
open Go.Proofs.Ytfdkcnbkoagmiaa.LinS (inB)
set_option linter.unusedVariables false
set_option maxRecDepth 100000

/-- A list of values behind another. -/
theorem wpList_vals {ops : Array Oper} {rest : List Oper} {o : Oper} {a : Act} {Q : Exit → Act → World → Prop} (w : World) (hg : o.guard = none) (s x : Operand) (t T : TypeId)
    (hop : o.op = Op.call { callee := Callee.builtin Builtin.append, args := #[s, x], argTypes := #[t, t] })
    (ht : Try.prog.underlying t = some (.slice T)) (z : Value) (by_ : Nat) (hi : (Try.prog.info? T).map (fun i => (i.zero, i.size, i.bytes)) = some (some z, 1, by_)) (hz : z.cells.size = 1) (hby : by_ ≤ 100)
    (v : Value) (l : List Value) (hs : a.eval s = v) (hv : GV T w v l) (xv : Value) (ys : List Value) (hx : a.eval x = xv) (hxv : GV T w xv ys) (h1 : ∀ u ∈ ys, u.oneCell' = true) (hb : l.length + ys.length ≤ 1000000000)
    (hK : ∀ v' w', GrewL T w w' v v' l ys → wpList Try.prog ops Q rest (a.put o.dst v') w') :
    wpList Try.prog ops Q (o :: rest) a w := by
  refine wpList_plain hg fun K hK' => ?_
  have hget := hxv.get
  rcases hxv with ⟨rfl, rfl⟩ | ⟨g, cap, rfl, hgen⟩
  · exact oper_gen0 w s x t T hop ht z by_ hi v l hs hv none 0 hx (fun v' w' r => hK' _ _ (hK v' w' r))
  · by_cases h0 : 0 < ys.length
    · refine oper_genl w s x t T hop ht z by_ hi hz hby v l hs hv ⟨g, 0, none⟩ cap ys hx (fun j u hu => ?_) h1 h0 hb (fun v' w' r => hK' _ _ (hK v' w' r))
      rw [Addr.add_lit, Nat.zero_add]
      exact hgen.get j u hu
    · obtain rfl : ys = [] := List.length_eq_zero_iff.1 (by omega)
      exact oper_gen0 w s x t T hop ht z by_ hi v l hs hv (some ⟨g, 0, none⟩) cap hx (fun v' w' r => hK' _ _ (hK v' w' r))
theorem El.append {α : Type} {R : Rel α} : ∀ {w : World} {vs us : List Value} {xs ys : List α} {O Ox : Nat → Nat}, El R w vs xs O → El R w us ys Ox → El R w (vs ++ us) (xs ++ ys) (fun a => O a + Ox a) := by
  intro w vs
  induction vs with
  | nil => intro us xs ys O Ox h hx; cases xs with
    | nil =>
      have e : (fun a => O a + Ox a) = Ox := funext fun a => by rw [h a, Nat.zero_add]
      rw [e]
      exact hx
    | cons x xs => exact h.elim
  | cons v vs ih => intro us xs ys O Ox h hx; cases xs with
    | nil => exact h.elim
    | cons x xs =>
      obtain ⟨O1, O2, h1, h2, h3⟩ := h
      exact ⟨O1, _, h1, ih h2 hx, fun a => by have := h3 a; dsimp only; omega⟩
theorem LAt.growL {α : Type} {R : Rel α} {T : TypeId} (hF : Fit R) {w w' : World} {v v' : Value} {vs us : List Value} {xs ys : List α} {O1 O2 : Nat → Nat} (h1 : El R w vs xs O1) (h2 : El R w us ys O2) (hd : ∀ a, oc v a + O1 a + O2 a ≤ 1) (hg : GrewL T w w' v v' vs us) :
    ∃ O', LAt T R w' v' (xs ++ ys) O' ∧ (∀ a, O' a ≤ 1) ∧ ∀ a, a < w.heap.size → O' a ≤ oc v a + O1 a + O2 a := by
  obtain ⟨g1, g2, g3⟩ := hg
  have hnS : ∀ a, O1 a ≠ 0 ∨ O2 a ≠ 0 → ¬ v.ownBlock = some a := fun a ha hk => by
    have := hd a
    unfold oc at this
    rw [if_pos hk] at this
    omega
  refine ⟨fun a => oc v' a + (O1 a + O2 a), ⟨vs ++ us, _, g1, El.append (h1.upd hF g3 (fun a ha => hnS a (.inl ha))) (h2.upd hF g3 (fun a ha => hnS a (.inr ha))), fun a => rfl⟩, fun a => ?_, fun a ha => ?_⟩
  · have hda := hd a
    by_cases hz : oc v' a = 0
    · dsimp only; omega
    · rcases g2 a (oc_ne hz) with hb | hb
      · have h1 : oc v a = 1 := by unfold oc; rw [if_pos hb]
        have := oc_le v' a
        dsimp only
        omega
      · have e1 : O1 a = 0 := Decidable.not_not.1 fun hne => by have := h1.lt hF hne; omega
        have e2 : O2 a = 0 := Decidable.not_not.1 fun hne => by have := h2.lt hF hne; omega
        have := oc_le v' a
        dsimp only
        omega
  · by_cases hz : oc v' a = 0
    · dsimp only; omega
    · rcases g2 a (oc_ne hz) with hb | hb
      · have h1 : oc v a = 1 := by unfold oc; rw [if_pos hb]
        have := oc_le v' a
        dsimp only
        omega
      · omega
theorem num.calls (e : Int) (w : World) : Calls Try.prog 10 #[.int .i64 e] w fun en w' => en = .returned (.int .i64 e) ∧ w' = w := by
  go_enter Try.func10, Try.ntmps10
  go_wp2_with fail
  go_ret
  exact ⟨rfl, rfl⟩
theorem within.calls (k : Int) (w : World) : Calls Try.prog 7 #[.int .i64 k, .int .i64 64] w fun en w' => en = .returned (.int .i64 (win k)) ∧ w' = w := by
  have h1 : -(64 : Int) < Int.tmod k 64 := Int.lt_tmod_of_pos k (by decide)
  have h2 : Int.tmod k 64 < 64 := Int.tmod_lt_of_pos _ (by decide)
  have hw : wrap64 (Int.tmod k 64 + 64) = Int.tmod k 64 + 64 := by unfold wrap64; omega
  have h3 : 0 ≤ Int.tmod (Int.tmod k 64 + 64) 64 := Int.tmod_nonneg _ (by omega)
  have h4 : Int.tmod (Int.tmod k 64 + 64) 64 < 64 := Int.tmod_lt_of_pos _ (by decide)
  have hw2 : wrap64 (Int.tmod (Int.tmod k 64 + 64) 64) = Int.tmod (Int.tmod k 64 + 64) 64 := by unfold wrap64; omega
  unfold win
  clear h1 h2 h3 h4
  go_enter Try.func7, Try.ntmps7
  go_wp2_with fail
  go_ret
  first | exact ⟨rfl, rfl⟩ | exact ⟨by simp [hw, hw2], rfl⟩
theorem C_take {w : World} {A : Option Addr} {l : List Int} (h : (Kd.int .u8).C w A l.length l) {n : Nat} (hn : n ≤ l.length) : (Kd.int .u8).C w A (l.take n).length (l.take n) := by
  obtain ⟨h1, h2, h3⟩ := h
  refine ⟨rfl, by rw [List.length_take]; omega, fun h0 => ?_⟩
  rw [List.length_take] at h0
  obtain ⟨ad, e, hc⟩ := h3 (by omega)
  refine ⟨ad, e, fun j p hp => hc j p ?_⟩
  rw [List.getElem?_take] at hp
  split at hp
  · exact hp
  · cases hp
theorem C_drop {w : World} {g o : Nat} {l : List Int} (h : (Kd.int .u8).C w (some ⟨g, o, none⟩) l.length l) {n : Nat} (hn : n ≤ l.length) : (Kd.int .u8).C w (some ⟨g, o + n, none⟩) (l.drop n).length (l.drop n) := by
  obtain ⟨h1, h2, h3⟩ := h
  refine ⟨rfl, by rw [List.length_drop]; omega, fun h0 => ?_⟩
  rw [List.length_drop] at h0
  obtain ⟨ad, e, hc⟩ := h3 (by omega)
  obtain rfl := Option.some.inj e
  refine ⟨_, rfl, fun j p hp => ?_⟩
  rw [List.getElem?_drop] at hp
  obtain ⟨cs, c1, c2, c3⟩ := hc (n + j) p hp
  refine ⟨cs, c1, c2, fun i u hu => ?_⟩
  have := c3 i u hu
  rw [Addr.add_lit] at this ⊢
  rw [show (Kd.int .u8).sz = 1 from rfl] at this ⊢
  rw [show o + n + (j * 1 + i) = o + ((n + j) * 1 + i) by omega]
  exact this
theorem oc_one {v : Value} {k : Nat} (hk : v.ownBlock = some k) : oc v k = 1 := by unfold oc; rw [if_pos hk]
/-- What fed has in memory: the parser, what is told, the errors, the bytes that are left. -/
structure FM (W wr : World) (gp gd : Nat) (q : PS) (va vc vx : Value) (Oa Oc Oo : Nat → Nat) (vo : Value) (ol : List (List (List Int))) (Ot : Nat → Nat) (ve : Value) (el : List Int) (o : Nat) (r : List Int) : Prop where
  pm : PM wr gp q va vc vx Oa Oc Oo
  ro : CmR wr vo ol Ot
  re : GV 3 wr ve (el.map (Value.int .i64))
  cd : (Kd.int .u8).C wr (some ⟨gd, o, none⟩) r.length r
  one : ∀ a, PO gp Oa Oc Oo a + Ot a + oc ve a + (if a = gd then 1 else 0) ≤ 1
  new : ∀ a, PO gp Oa Oc Oo a + Ot a + oc ve a ≠ 0 → W.heap.size ≤ a
  gd0 : W.heap.size ≤ gd ∧ gd < wr.heap.size
  bel : Below W.heap.size W wr
variable {W wr : World} {gp gd : Nat} {q : PS} {va vc vx : Value} {Oa Oc Oo : Nat → Nat} {vo : Value} {ol : List (List (List Int))} {Ot : Nat → Nat} {ve : Value} {el : List Int} {o : Nat} {r : List Int}
theorem C_upd {w w' : World} {A : Option Addr} {l : List Int} {S : Nat → Prop} (h : (Kd.int .u8).C w A l.length l) (hu : Upd S w w') (hA : ∀ ad, A = some ad → ¬ S ad.block ∧ ad.block < w.heap.size) : (Kd.int .u8).C w' A l.length l := by
  obtain ⟨h1, h2, h3⟩ := h
  refine ⟨h1, h2, fun h0 => ?_⟩
  obtain ⟨ad, e, hc⟩ := h3 h0
  obtain ⟨a1, a2⟩ := hA ad e
  refine ⟨ad, e, fun j p hp => ?_⟩
  obtain ⟨cs, c1, c2, c3⟩ := hc j p hp
  refine ⟨cs, c1, c2, fun i u hu' => ?_⟩
  have eb : (ad.add (j * (Kd.int .u8).sz + i)).block = ad.block := by unfold Addr.add; split <;> rfl
  exact (ParF.Upd.cell (a := ad.add (j * (Kd.int .u8).sz + i)) hu (by rw [eb]; exact a2) (by rw [eb]; exact a1)).trans (c3 i u hu')
/-- Behind a Feed. -/
theorem FM.fed (h : FM W wr gp gd q va vc vx Oa Oc Oo vo ol Ot ve el o r) {w2 : World} {q' : PS} {vt : Value} {ot : List (List (List Int))} (hf : FQ wr w2 (PO gp Oa Oc Oo) gp q' vt ot) :
    ∃ va' vc' vx' Oa' Oc' Oo' Ott, FM W w2 gp gd q' va' vc' vx' Oa' Oc' Oo' vo ol Ot ve el o r ∧ CmR w2 vt ot Ott ∧ (∀ a, PO gp Oa' Oc' Oo' a + Ot a + oc ve a + (if a = gd then 1 else 0) + Ott a ≤ 1) ∧ ∀ a, Ott a ≠ 0 → W.heap.size ≤ a := by
  obtain ⟨va', vc', vx', Oa', Oc', Oo', Ott, f1, f2, f3, f4, f5⟩ := hf
  have ho := h.one
  have hs := f5.size
  have hx : ∀ a, Ot a + oc ve a + (if a = gd then 1 else 0) ≠ 0 → ¬ PO gp Oa Oc Oo a ≠ 0 := fun a ha hn => by have := ho a; omega
  have hlt : ∀ a, Ot a + oc ve a + (if a = gd then 1 else 0) ≠ 0 → a < wr.heap.size := fun a ha => by
    by_cases e1 : Ot a = 0
    · by_cases e2 : oc ve a = 0
      · by_cases e3 : a = gd
        · subst e3; exact h.gd0.2
        · rw [if_neg e3] at ha; omega
      · exact h.re.lt a (oc_ne e2)
    · exact CmR.fit.lt h.ro e1
  have hone : ∀ a, PO gp Oa' Oc' Oo' a + Ot a + oc ve a + (if a = gd then 1 else 0) + Ott a ≤ 1 := fun a => by
    have h3 := f3 a
    by_cases hl : a < wr.heap.size
    · have h4 := f4 a hl; have := ho a; omega
    · have : Ot a + oc ve a + (if a = gd then 1 else 0) = 0 := Decidable.not_not.1 fun hne => hl (hlt a hne)
      omega
  refine ⟨va', vc', vx', Oa', Oc', Oo', Ott, ⟨f1, CmR.fit.upd h.ro f5 (fun a ha => hx a (by omega)), h.re.upd f5 (fun k hk => hx k (by rw [oc_one hk]; omega)), C_upd h.cd f5 (fun ad e => by obtain rfl := Option.some.inj e; exact ⟨hx gd (by rw [if_pos rfl]; omega), h.gd0.2⟩), fun a => by have := hone a; omega, fun a ha => ?_, ⟨h.gd0.1, by have := h.gd0.2; omega⟩, Upd.to_below h.bel f5 h.bel.size (fun a ha => h.new a (by omega))⟩, f2, hone, fun a ha => ?_⟩
  · by_cases hl : a < wr.heap.size
    · have := f4 a hl; exact h.new a (by omega)
    · have := h.bel.size; omega
  · by_cases hl : a < wr.heap.size
    · have := f4 a hl; exact h.new a (by omega)
    · have := h.bel.size; omega
theorem FM.upd (h : FM W wr gp gd q va vc vx Oa Oc Oo vo ol Ot ve el o r) {w2 : World} (hb : Below wr.heap.size wr w2) : FM W w2 gp gd q va vc vx Oa Oc Oo vo ol Ot ve el o r := by
  have hu := Upd.of_below (S := fun _ => False) hb
  exact ⟨h.pm.upd hu (fun _ _ hf => hf), CmR.fit.upd h.ro hu (fun _ _ hf => hf), h.re.upd hu (fun _ _ hf => hf), C_upd h.cd hu (fun ad e => by obtain rfl := Option.some.inj e; exact ⟨fun hf => hf, h.gd0.2⟩), h.one, h.new, ⟨h.gd0.1, by have := h.gd0.2; have := hb.size; omega⟩, below_next h.bel hb⟩
/-- Behind the append of what was told. -/
theorem FM.app (h : FM W wr gp gd q va vc vx Oa Oc Oo vo ol Ot ve el o r) {vs us : List Value} {O1 O2 Ott : Nat → Nat} {vt v' : Value} {ot : List (List (List Int))} {w3 : World} (he : El RwR wr vs ol O1) (hO1 : ∀ a, Ot a = oc vo a + O1 a) (he2 : El RwR wr us ot O2) (hO2 : ∀ a, Ott a = oc vt a + O2 a)
    (hone : ∀ a, PO gp Oa Oc Oo a + Ot a + oc ve a + (if a = gd then 1 else 0) + Ott a ≤ 1) (hnew : ∀ a, Ott a ≠ 0 → W.heap.size ≤ a) (hg : GrewL 22 wr w3 vo v' vs us) : ∃ Ot', FM W w3 gp gd q va vc vx Oa Oc Oo v' (ol ++ ot) Ot' ve el o r := by
  obtain ⟨Ot', k1, k2, k3⟩ := LAt.growL RwR.fit he he2 (fun a => by have := hone a; rw [hO1, hO2] at this; omega) hg
  have k3' : ∀ a, a < wr.heap.size → Ot' a ≤ Ot a + Ott a := fun a ha => by have := k3 a ha; rw [hO1, hO2]; omega
  have hu := hg.2.2
  have hno : ∀ a, PO gp Oa Oc Oo a + oc ve a + (if a = gd then 1 else 0) ≠ 0 → ¬ vo.ownBlock = some a := fun a ha e => by
    have := hone a
    rw [hO1] at this
    unfold oc at this
    rw [if_pos e] at this
    unfold oc at ha
    omega
  have hlt : ∀ a, PO gp Oa Oc Oo a + oc ve a + (if a = gd then 1 else 0) ≠ 0 → a < wr.heap.size := fun a ha => by
    by_cases e1 : PO gp Oa Oc Oo a = 0
    · by_cases e2 : oc ve a = 0
      · by_cases e3 : a = gd
        · subst e3; exact h.gd0.2
        · rw [if_neg e3] at ha; omega
      · exact h.re.lt a (oc_ne e2)
    · exact h.pm.lt e1
  refine ⟨Ot', h.pm.upd hu (fun a ha => hno a (by omega)), k1, h.re.upd hu (fun k hk => hno k (by rw [oc_one hk]; omega)), C_upd h.cd hu (fun ad e => by obtain rfl := Option.some.inj e; exact ⟨hno gd (by rw [if_pos rfl]; omega), h.gd0.2⟩), fun a => ?_, fun a ha => ?_, ⟨h.gd0.1, by have := h.gd0.2; have := hu.size; omega⟩, Upd.to_below h.bel hu h.bel.size (fun a ha => h.new a (by rw [hO1]; unfold oc; rw [if_pos ha]; omega))⟩
  · by_cases hl : a < wr.heap.size
    · have := k3' a hl; have := hone a; omega
    · have : PO gp Oa Oc Oo a + oc ve a + (if a = gd then 1 else 0) = 0 := Decidable.not_not.1 fun hne => hl (hlt a hne)
      have := k2 a
      omega
  · by_cases hl : a < wr.heap.size
    · have := k3' a hl
      by_cases e : Ott a = 0
      · exact h.new a (by omega)
      · exact hnew a e
    · have := h.bel.size; omega
/-- Behind the append of an error. -/
theorem FM.err (h : FM W wr gp gd q va vc vx Oa Oc Oo vo ol Ot ve el o r) {w3 w4 : World} {v' : Value} {e : Int} (hb : Below wr.heap.size wr w3) (hg : Grew 3 w3 w4 ve v' (el.map (Value.int .i64)) (.int .i64 e)) : FM W w4 gp gd q va vc vx Oa Oc Oo vo ol Ot v' (el ++ [e]) o r := by
  have h3 := h.upd hb
  have hu := hg.upd
  have ho := h.one
  have hno : ∀ a, PO gp Oa Oc Oo a + Ot a + (if a = gd then 1 else 0) ≠ 0 → ¬ ve.ownBlock = some a := fun a ha e => by
    have := ho a
    unfold oc at this
    rw [if_pos e] at this
    omega
  have hlt : ∀ a, PO gp Oa Oc Oo a + Ot a + (if a = gd then 1 else 0) ≠ 0 → a < w3.heap.size := fun a ha => by
    by_cases e1 : PO gp Oa Oc Oo a = 0
    · by_cases e2 : Ot a = 0
      · by_cases e3 : a = gd
        · subst e3; exact h3.gd0.2
        · rw [if_neg e3] at ha; omega
      · exact CmR.fit.lt h3.ro e2
    · exact h3.pm.lt e1
  refine ⟨h3.pm.upd hu (fun a ha => hno a (by omega)), CmR.fit.upd h3.ro hu (fun a ha => hno a (by omega)), by have := hg.gv; rw [List.map_append]; exact this, C_upd h3.cd hu (fun ad e => by obtain rfl := Option.some.inj e; exact ⟨hno gd (by rw [if_pos rfl]; omega), h3.gd0.2⟩), fun a => ?_, fun a ha => ?_, ⟨h.gd0.1, by have := h3.gd0.2; have := hu.size; omega⟩, Upd.to_below h3.bel hu h3.bel.size (fun a ha => h.new a (by unfold oc; rw [if_pos ha]; omega))⟩
  · by_cases hz : oc v' a = 0
    · have := ho a; omega
    · have hv1 := oc_le v' a
      rcases hg.block a (oc_ne hz) with hb' | hb'
      · have : oc ve a = 1 := by unfold oc; rw [if_pos hb']
        have := ho a
        omega
      · have : PO gp Oa Oc Oo a + Ot a + (if a = gd then 1 else 0) = 0 := Decidable.not_not.1 fun hne => by have := hlt a hne; omega
        omega
  · by_cases hz : oc v' a = 0
    · exact h.new a (by omega)
    · rcases hg.block a (oc_ne hz) with hb' | hb'
      · exact h.new a (by unfold oc; rw [if_pos hb']; omega)
      · have := h3.bel.size; omega
theorem FM.cut (h : FM W wr gp gd q va vc vx Oa Oc Oo vo ol Ot ve el o r) {n : Nat} (hn : n ≤ r.length) : FM W wr gp gd q va vc vx Oa Oc Oo vo ol Ot ve el (o + n) (r.drop n) :=
  ⟨h.pm, h.ro, h.re, C_drop h.cd hn, h.one, h.new, h.gd0, h.bel⟩
end Go.Proofs.Ytfdkcnbkoagmiaa.FedW
