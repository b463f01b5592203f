/- One answer more waits: both tables have grown. No function of the program. -/
import Derived.Test.YtgngpbcbnfmoiaaFreM
import Derived.Lib.ConvBytes
import Derived.Laws.AppendOwn
namespace Go.Proofs.Ytgngpbcbnfmoiaa.LatS
open Go Go.RowKit Go.Proofs.YtgngpbcbnfmoiaaW.PrintWords Go.Proofs.YtgngpbcbnfmoiaaW.PrintLast Go.Proofs.YtgngpbcbnfmoiaaW.PrintMore Go.Proofs.Ytgngpbcbnfmoiaa.RowU Go.Proofs.Ytgngpbcbnfmoiaa.ArM Go.Proofs.Ytgngpbcbnfmoiaa.GenM Go.Proofs.Ytgngpbcbnfmoiaa.GenN Go.Proofs.Ytgngpbcbnfmoiaa.BokA Go.Proofs.Ytgngpbcbnfmoiaa.BokB Go.Proofs.Ytgngpbcbnfmoiaa.BokG Go.Proofs.Ytgngpbcbnfmoiaa.BokS Go.Proofs.Ytgngpbcbnfmoiaa.FreM
set_option linter.unusedVariables false
set_option maxRecDepth 100000

/-- An append in a drawn region. -/
theorem step_gen2 {ops : Array Oper} {o : Oper} {a : Act} {K : Act → World → Prop} {Q : Exit → Act → World → Prop} {E : Prop} (w : World) (hg : o.guard = none) (s x : Operand) (t T : TypeId)
    (hop : o.op = Op.call { callee := Callee.builtin Builtin.append, args := #[s, x], argTypes := #[t, t] })
    (ht : Try.prog.underlying t = some (.slice T)) (z : Value) (by_ : Nat) (hi : (Try.prog.info? T).map (fun i => (i.zero, i.size, i.bytes)) = some (some z, 1, by_)) (hz : z.cells.size = 1) (hby : by_ ≤ 100)
    (v : Value) (l : List Value) (hs : a.eval s = v) (hv : GV T w v l) (ad : Addr) (y : Value) (hx : a.eval x = .slice (some ad) 1 1) (hc : w.cell? ad = some y) (h1 : y.oneCell' = true) (hb : l.length ≤ 100000000)
    (hK : ∀ v' w', Grew T w w' v v' l y → K (a.put o.dst v') w') :
    if Region.wanted o (yielded ops a.tmps) = true then Oper.wp Try.prog o a w K Q else E := by
  rw [if_pos (by simp [Region.wanted, hg])]
  exact oper_gen2 w s x t T hop ht z by_ hi hz hby v l hs hv ad y hx hc h1 hb hK
theorem GU.lt {W : World} {u : Value} {l : List Value} (h : GU W u l) (b : Nat) (hb : u.ownBlock = some b) : b < W.heap.size := by
  obtain ⟨A, c, rfl, _, _, ⟨rfl, _⟩ | ⟨g, rfl, h, _⟩⟩ := h
  · cases hb
  · obtain rfl := Option.some.inj hb; exact h
theorem strSize (ls : List Int) : (strOfNums ls).size = ls.length := by
  show (ls.map fun n => UInt8.ofNat n.toNat).toArray.size = _
  simp
/-- The bytes of a list, in a new block. -/
theorem gu_bytes (w : World) (e : TypeId) (ls : List Int) (hb : ∀ x ∈ ls, 0 ≤ x ∧ x < 256) (hl : ls.length ≤ 200000000000000) (o : Obj) : GU ((Lib.bytesWorld w e (strOfNums ls)).alloc o) (.slice (some ⟨w.heap.size, 0, none⟩) (strOfNums ls).size (grownCap w (strOfNums ls).size 0 e)) (ls.map (Value.int .u8)) := by
  have hg : ls.length ≤ grownCap w (strOfNums ls).size 0 e := by rw [← strSize ls]; exact grownCap_ge w _ 0 e
  have hsz : w.heap.size < ((Lib.bytesWorld w e (strOfNums ls)).alloc o).heap.size := by
    have : ((Lib.bytesWorld w e (strOfNums ls)).alloc o).heap.size = (Lib.bytesWorld w e (strOfNums ls)).heap.size + 1 := by
      show ((Lib.bytesWorld w e (strOfNums ls)).heap.push o).size = _
      simp
    rw [this, Lib.bytesWorld_size]; omega
  refine ⟨_, grownCap w (strOfNums ls).size 0 e, by rw [strSize, List.length_map], by rw [List.length_map]; exact hg, by rw [List.length_map]; unfold maxLen; omega, .inr ⟨_, rfl, hsz, fun j x hj => ?_⟩⟩
  rw [List.getElem?_map] at hj
  obtain ⟨y, hy, rfl⟩ := Option.map_eq_some_iff.1 hj
  have hjl := (List.getElem?_eq_some_iff.1 hy).1
  have h1 := Lib.bytesWorld_cell w e (strOfNums ls) j (by rw [strSize]; exact hjl)
  have h2 := hb y (List.mem_of_getElem? hy)
  have h3 : ((strOfNums ls).data.toList.getD j 0).toNat = y.toNat := by
    simp [strOfNums, List.getD, hy]
    omega
  rw [h3, show ((y.toNat : Nat) : Int) = y by omega] at h1
  rw [World.cell?_alloc_lt _ _ _ (by rw [Lib.bytesWorld_size]; exact Nat.lt_succ_self _)]
  exact h1
/-- What stands behind an Add. -/
structure Ad (k : Nat) (Tt Te Th : TypeId) (W w' : World) (gh : Nat) (lo : Own) (v : Value) (l : List Value) (it : List It) (uT : Nat → Prop) : Prop where
  ex : ∃ lo' vg' vw' u, Pn k Tt Te w' lo' vg' vw' (it ++ [⟨v, u, l⟩]) ∧ w'.heap[gh]? = some (.cells #[vg', vw'] Th (0, 0)) ∧ lo' gh = none ∧ (∀ b, lo' b ≠ none → lo b ≠ none ∨ v.ownBlock = some b ∨ uT b ∨ W.heap.size ≤ b) ∧ (∀ b, lo' b ≠ none → b < w'.heap.size)
  upd : Upd (fun b => b = gh ∨ lo b ≠ none) W w'
theorem Pn.added {k : Nat} {Tt Te Th : TypeId} {W w1 w2 w3 w4 w5 w6 : World} {gh : Nat} {lo : Own} {vg vw vg' vw' v u : Value} {l : List Value} {it : List It} {uT : Nat → Prop} (h : Pn k Tt Te W lo vg vw it) (hd : W.heap[gh]? = some (.cells #[vg, vw] Th (0, 0))) (hgh : lo gh = none) (hlo : ∀ b, lo b ≠ none → b < W.heap.size)
    (u01 : Below W.heap.size W w1) (r12 : GV Tt w2 vg' (gs it ++ [v])) (b12 : ∀ b, vg'.ownBlock = some b → vg.ownBlock = some b ∨ w1.heap.size ≤ b) (u12 : Upd (fun b => vg.ownBlock = some b) w1 w2) (e23 : w3 = w2.setCell ⟨gh, 0, none⟩ vg') (u34 : Below w3.heap.size w3 w4)
    (r45 : GV Tt w5 vw' (us it ++ [u])) (b45 : ∀ b, vw'.ownBlock = some b → vw.ownBlock = some b ∨ w4.heap.size ≤ b) (u45 : Upd (fun b => vw.ownBlock = some b) w4 w5) (e56 : w6 = w5.setCell ⟨gh, 1, none⟩ vw')
    (hv : GV Te W v l) (hvn : ∀ b, v.ownBlock = some b → lo b = none ∧ b ≠ gh) (hu : GU w4 u l) (hun : ∀ b, u.ownBlock = some b → (w2.heap.size ≤ b ∨ (b < W.heap.size ∧ lo b = none ∧ uT b)) ∧ b ≠ gh ∧ v.ownBlock ≠ some b) (hl : l.length ≤ 200000000000000) :
    Ad k Tt Te Th W w6 gh lo v l it uT := by
  have s01 := u01.size
  have s12 := u12.size
  have s23 : w3.heap.size = w2.heap.size := by rw [e23]; simp [World.setCell]
  have s34 := u34.size
  have s45 := u45.size
  have s56 : w6.heap.size = w5.heap.size := by rw [e56]; simp [World.setCell]
  have lgh := cell_lt hd
  have gvg : ∀ b, vg.ownBlock = some b → lo b = some (k, 0) := h.gT
  have gvw : ∀ b, vw.ownBlock = some b → lo b = some (k, 1) := h.wT
  have lvg : ∀ b, vg.ownBlock = some b → b < W.heap.size := fun b hb => hlo b (by rw [gvg b hb]; simp)
  have lvw : ∀ b, vw.ownBlock = some b → b < W.heap.size := fun b hb => hlo b (by rw [gvw b hb]; simp)
  have lvg' : ∀ b, vg'.ownBlock = some b → b < w2.heap.size := fun b hb => r12.lt b hb
  have lv : ∀ b, v.ownBlock = some b → b < W.heap.size := fun b hb => hv.lt b hb
  have lu : ∀ b, u.ownBlock = some b → b < w4.heap.size := fun b hb => GU.lt hu b hb
  have lvw' : ∀ b, vw'.ownBlock = some b → b < w5.heap.size := fun b hb => r45.lt b hb
  have kinds : ∀ b, vg'.ownBlock = some b → lo b = some (k, 0) ∨ (W.heap.size ≤ b ∧ b < w2.heap.size ∧ lo b = none) := fun b hb => by
    rcases b12 b hb with h1 | h1
    · exact .inl (gvg b h1)
    · exact .inr ⟨by omega, lvg' b hb, Classical.byContradiction fun hne => by have := hlo b hne; omega⟩
  have kindw : ∀ b, vw'.ownBlock = some b → lo b = some (k, 1) ∨ (w4.heap.size ≤ b ∧ lo b = none) := fun b hb => by
    rcases b45 b hb with h1 | h1
    · exact .inl (gvw b h1)
    · exact .inr ⟨h1, Classical.byContradiction fun hne => by have := hlo b hne; omega⟩
  have ulo : ∀ b, u.ownBlock = some b → lo b = none := fun b hb => by
    rcases (hun b hb).1 with h1 | h1
    · exact Classical.byContradiction fun hne => by have := hlo b hne; omega
    · exact h1.2.1
  have ngw : ∀ b, vg'.ownBlock = some b → vw'.ownBlock = some b → False := fun b h1 h2 => by
    rcases kinds b h1 with h3 | ⟨h3, h3', h3''⟩ <;> rcases kindw b h2 with h4 | ⟨h4, h4'⟩
    · rw [h3] at h4; simp at h4
    · rw [h3] at h4'; simp at h4'
    · rw [h3''] at h4; cases h4
    · omega
  have ngv : ∀ b, vg'.ownBlock = some b → v.ownBlock = some b → False := fun b h1 h2 => by
    rcases kinds b h1 with h3 | ⟨h3, _, _⟩
    · rw [(hvn b h2).1] at h3; cases h3
    · have := lv b h2; omega
  have nwv : ∀ b, vw'.ownBlock = some b → v.ownBlock = some b → False := fun b h1 h2 => by
    rcases kindw b h1 with h3 | ⟨h3, _⟩
    · rw [(hvn b h2).1] at h3; cases h3
    · have := lv b h2; omega
  have ngu : ∀ b, vg'.ownBlock = some b → u.ownBlock = some b → False := fun b h1 h2 => by
    rcases kinds b h1 with h3 | ⟨h3, h3', _⟩
    · rw [ulo b h2] at h3; cases h3
    · rcases (hun b h2).1 with h4 | h4 <;> omega
  have nwu : ∀ b, vw'.ownBlock = some b → u.ownBlock = some b → False := fun b h1 h2 => by
    rcases kindw b h1 with h3 | ⟨h3, _⟩
    · rw [ulo b h2] at h3; cases h3
    · have := lu b h2; omega
  let lo1 := lo.put u (k, 3 + 2 * it.length)
  let lo2 := lo1.put v (k, 2 + 2 * it.length)
  let lo3 := lo2.put vw' (k, 1)
  let lo4 := lo3.put vg' (k, 0)
  have val : ∀ b, lo4 b = if vg'.ownBlock = some b then some (k, 0) else if vw'.ownBlock = some b then some (k, 1) else if v.ownBlock = some b then some (k, 2 + 2 * it.length) else if u.ownBlock = some b then some (k, 3 + 2 * it.length) else lo b := fun b => rfl
  have t0 : ∀ b, vg'.ownBlock = some b → lo4 b = some (k, 0) := fun b hb => by rw [val, if_pos hb]
  have t1 : ∀ b, vw'.ownBlock = some b → lo4 b = some (k, 1) := fun b hb => by rw [val, if_neg (fun h1 => ngw b h1 hb), if_pos hb]
  have t2 : ∀ b, v.ownBlock = some b → lo4 b = some (k, 2 + 2 * it.length) := fun b hb => by rw [val, if_neg (fun h1 => ngv b h1 hb), if_neg (fun h1 => nwv b h1 hb), if_pos hb]
  have t3 : ∀ b, u.ownBlock = some b → lo4 b = some (k, 3 + 2 * it.length) := fun b hb => by rw [val, if_neg (fun h1 => ngu b h1 hb), if_neg (fun h1 => nwu b h1 hb), if_neg (hun b hb).2.2, if_pos hb]
  have hle : ∀ b t, lo b = some (k, t) → lo4 b = some (k, t) := fun b t hb => by
    rw [val]
    by_cases c1 : vg'.ownBlock = some b
    · rw [if_pos c1]
      rcases kinds b c1 with h1 | ⟨_, _, h1⟩ <;> rw [hb] at h1
      · exact h1.symm
      · cases h1
    rw [if_neg c1]
    by_cases c2 : vw'.ownBlock = some b
    · rw [if_pos c2]
      rcases kindw b c2 with h1 | ⟨_, h1⟩ <;> rw [hb] at h1
      · exact h1.symm
      · cases h1
    rw [if_neg c2, if_neg (fun c3 => by rw [(hvn b c3).1] at hb; cases hb), if_neg (fun c4 => by rw [ulo b c4] at hb; cases hb)]
    exact hb
  have U13 : Upd (fun b => b = gh ∨ vg.ownBlock = some b) w1 w3 := by
    rw [e23]; exact (u12.mono (fun b h => .inr h)).put (.inl (.inl rfl)) _ _
  have U46 : Upd (fun b => b = gh ∨ vw.ownBlock = some b) w4 w6 := by
    rw [e56]; exact (u45.mono (fun b h => .inr h)).put (.inl (.inl rfl)) _ _
  have U03 : Upd (fun b => b = gh ∨ vg.ownBlock = some b) W w3 := (Upd.of_below u01).trans U13
  have U36 : Upd (fun b => b = gh ∨ vw.ownBlock = some b) w3 w6 := (Upd.of_below u34).trans U46
  have U06 : Upd (fun b => b = gh ∨ vg.ownBlock = some b ∨ vw.ownBlock = some b) W w6 := (U03.mono (fun b h => h.elim .inl (fun h => .inr (.inl h)))).trans (U36.mono (fun b h => h.elim .inl (fun h => .inr (.inr h))))
  have hd1 := blk_below hd u01
  have ngg : ¬ vg.ownBlock = some gh := fun e => by rw [gvg gh e] at hgh; cases hgh
  have ngw0 : ¬ vw.ownBlock = some gh := fun e => by rw [gvw gh e] at hgh; cases hgh
  have hd2 := blk_upd hd1 u12 ngg
  have hd3 : w3.heap[gh]? = some (.cells #[vg', vw] Th (0, 0)) := by rw [e23]; exact blk_set hd2 0 vg'
  have hd4 := blk_below hd3 u34
  have hd5 := blk_upd hd4 u45 ngw0
  have hd6 : w6.heap[gh]? = some (.cells #[vg', vw'] Th (0, 0)) := by rw [e56]; exact blk_set hd5 1 vw'
  refine ⟨⟨lo4, vg', vw', u, ?_, hd6, ?_, fun b hb => ?_, fun b hb => ?_⟩, U06.mono (fun b hb => ?_)⟩
  · refine Pn.add (S := fun b => b = gh ∨ vg.ownBlock = some b ∨ vw.ownBlock = some b) h U06 (fun b t hb h2 => ?_) hle ?_ ?_ t0 t1 (hv.upd U06 (fun b hb => ?_)) (hu.upd U46 (fun b hb => ?_)) t2 t3 hl
    · rintro (rfl | h1 | h1)
      · rw [hgh] at hb; cases hb
      · rw [gvg b h1] at hb; simp at hb; omega
      · rw [gvw b h1] at hb; simp at hb; omega
    · have r3 : GV Tt w3 vg' (gs it ++ [v]) := by
        refine r12.upd (S := fun b => b = gh) (by rw [e23]; exact Upd.put (S := fun b => b = gh) (Upd.refl _ _) (.inl rfl) _ _) (fun b hb e => ?_)
        subst e
        rcases kinds b hb with h1 | h1
        · rw [hgh] at h1; cases h1
        · omega
      refine r3.upd U36 (fun b hb => ?_)
      rintro (rfl | h1)
      · rcases kinds b hb with h2 | h2
        · rw [hgh] at h2; cases h2
        · omega
      · rcases kinds b hb with h2 | h2
        · rw [gvw b h1] at h2; simp at h2
        · have := lvw b h1; omega
    · refine r45.upd (S := fun b => b = gh) (by rw [e56]; exact Upd.put (S := fun b => b = gh) (Upd.refl _ _) (.inl rfl) _ _) (fun b hb e => ?_)
      subst e
      rcases kindw b hb with h1 | h1
      · rw [hgh] at h1; cases h1
      · omega
    · rintro (h1 | h1 | h1)
      · exact (hvn b hb).2 h1
      · have h2 := gvg b h1; rw [(hvn b hb).1] at h2; cases h2
      · have h2 := gvw b h1; rw [(hvn b hb).1] at h2; cases h2
    · rintro (h1 | h1)
      · exact (hun b hb).2.1 h1
      · have h2 := gvw b h1; rw [ulo b hb] at h2; cases h2
  · rw [val, if_neg (fun c => ?_), if_neg (fun c => ?_), if_neg (fun c => (hvn gh c).2 rfl), if_neg (fun c => (hun gh c).2.1 rfl)]
    · exact hgh
    · rcases kindw gh c with h1 | h1
      · rw [hgh] at h1; cases h1
      · omega
    · rcases kinds gh c with h1 | h1
      · rw [hgh] at h1; cases h1
      · omega
  · rw [val] at hb
    by_cases c1 : vg'.ownBlock = some b
    · rcases kinds b c1 with h1 | h1
      · exact .inl (by rw [h1]; simp)
      · exact .inr (.inr (.inr h1.1))
    rw [if_neg c1] at hb
    by_cases c2 : vw'.ownBlock = some b
    · rcases kindw b c2 with h1 | h1
      · exact .inl (by rw [h1]; simp)
      · exact .inr (.inr (.inr (by omega)))
    rw [if_neg c2] at hb
    by_cases c3 : v.ownBlock = some b
    · exact .inr (.inl c3)
    rw [if_neg c3] at hb
    by_cases c4 : u.ownBlock = some b
    · rcases (hun b c4).1 with h1 | h1
      · exact .inr (.inr (.inr (by omega)))
      · exact .inr (.inr (.inl h1.2.2))
    rw [if_neg c4] at hb
    exact .inl hb
  · rw [val] at hb
    by_cases c1 : vg'.ownBlock = some b
    · have := lvg' b c1; omega
    rw [if_neg c1] at hb
    by_cases c2 : vw'.ownBlock = some b
    · have := lvw' b c2; omega
    rw [if_neg c2] at hb
    by_cases c3 : v.ownBlock = some b
    · have := lv b c3; omega
    rw [if_neg c3] at hb
    by_cases c4 : u.ownBlock = some b
    · have := lu b c4; omega
    rw [if_neg c4] at hb
    have := hlo b hb; omega
  · rcases hb with h1 | h1 | h1
    · exact .inl h1
    · exact .inr (by rw [gvg b h1]; simp)
    · exact .inr (by rw [gvw b h1]; simp)
end Go.Proofs.Ytgngpbcbnfmoiaa.LatS
