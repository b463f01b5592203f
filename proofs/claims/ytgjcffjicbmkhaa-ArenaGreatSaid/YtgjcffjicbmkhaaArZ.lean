/- The arena's Moved, Image, Clear, Take. -/
import Derived.Test.YtgjcffjicbmkhaaArY
import Derived.Test.YtgjcffjicbmkhaaNumB
import Derived.Laws.CopyOwn
import Derived.StillTailTactics
namespace Go.Proofs.Ytgjcffjicbmkhaa.ArZ
open Go Go.RowKit Go.Proofs.YtgjcffjicbmkhaaW.PrintWords Go.Proofs.YtgjcffjicbmkhaaW.PrintLast Go.Proofs.YtgjcffjicbmkhaaW.PrintMore Go.Proofs.Ytgjcffjicbmkhaa.RowU Go.Proofs.Ytgjcffjicbmkhaa.ArS Go.Proofs.Ytgjcffjicbmkhaa.ArM Go.Proofs.Ytgjcffjicbmkhaa.ArW Go.Proofs.Ytgjcffjicbmkhaa.ArX Go.Proofs.Ytgjcffjicbmkhaa.ArY
set_option linter.unusedVariables false
set_option maxRecDepth 100000

set_option maxHeartbeats 1600000 in
theorem moved.no {W : World} {g gw gf sz : Nat} {l : List Ob} (hA : ArAt W g gw gf sz l) {k : Nat} {o : Ob} (h : l[k]? = some o) (hg : o.gone = none) :
    Calls Try.prog 25 #[.pointer (some ⟨g, 0, none⟩), .int .i64 (place l k : Int)] W fun e w' => e = .returned (.tuple #[.int .i64 0, .bool false, .int .i64 0]) ∧ Below W.heap.size W w' := by
  obtain ⟨cw, cf, fs, hA⟩ := hA
  have HB := Aside0.mk (begins.yes hA h)
  have hok := hA.ok o (List.mem_of_getElem? h)
  have hx := words_head h
  have hag := and_gone o.head (Ob.head_lt hok)
  have hh := Ob.head_whole hg
  have hlo : o.head < 9223372036854775808 := by have := hok.k2; have := hok.r1; have := hok.s1; omega
  rw [if_pos hlo] at hag
  have hpl := place_lt h
  have HA := Aside0.mk hA
  have HX := Aside0.mk hx
  obtain ⟨p, hp⟩ : ∃ p, p = place l k := ⟨_, rfl⟩
  rw [← hp] at HX HB hpl
  rw [← hp]
  generalize o.head = x at *
  clear h hA hp hx hh hok hlo hg
  go_enter Try.func25, Try.ntmps25
  go_wp2_with fail
  refine HB.out.mono ?_
  rintro e w2 ⟨rfl, hb⟩
  have H2 := Aside0.mk hb
  have HA2 := Aside0.mk (HA.out.upd (S := none_) (Upd.of_below hb) (fun h => h) (fun h => h) (fun h => h))
  have a1 := HA2.out.c1
  have hc := HA2.out.ws.get _ _ HX.out
  clear hb HB
  go_wp2_with fail
  go_ret3
  exact ⟨rfl, H2.out⟩
set_option maxHeartbeats 1600000 in
theorem moved.yes {W : World} {g gw gf sz : Nat} {l : List Ob} (hA : ArAt W g gw gf sz l) {k : Nat} {o : Ob} {t : Nat} (h : l[k]? = some o) (hg : o.gone = some t) :
    Calls Try.prog 25 #[.pointer (some ⟨g, 0, none⟩), .int .i64 (place l k : Int)] W fun e w' => e = .returned (.tuple #[.int .i64 (t : Int), .bool true, .int .i64 0]) ∧ Below W.heap.size W w' := by
  obtain ⟨cw, cf, fs, hA⟩ := hA
  have HB := Aside0.mk (begins.yes hA h)
  have hok := hA.ok o (List.mem_of_getElem? h)
  have hx := words_head h
  have hag := and_gone o.head (Ob.head_lt hok)
  have hh := Ob.head_gone hg
  have hlo : ¬ o.head < 9223372036854775808 := by omega
  have ht := hok.g1 t hg
  rw [if_neg hlo] at hag
  have hgb := NumB.gone_bits t (by omega)
  rw [← hh] at hgb
  have hw1 : wrap64 (t : Int) = t := w64_small _ (by omega) (by omega)
  have hw2 : IntKind.i64.wrap (t : Int) = t := by rw [IntKind.wrap_i64]; omega
  have hpl := place_lt h
  have HA := Aside0.mk hA
  have HX := Aside0.mk hx
  obtain ⟨p, hp⟩ : ∃ p, p = place l k := ⟨_, rfl⟩
  rw [← hp] at HX HB hpl
  rw [← hp]
  generalize o.head = x at *
  clear h hA hp hx hh hok hlo hg ht
  go_enter Try.func25, Try.ntmps25
  go_wp2_with fail
  refine HB.out.mono ?_
  rintro e w2 ⟨rfl, hb⟩
  have H2 := Aside0.mk hb
  have HA2 := Aside0.mk (HA.out.upd (S := none_) (Upd.of_below hb) (fun h => h) (fun h => h) (fun h => h))
  have a1 := HA2.out.c1
  have hc := HA2.out.ws.get _ _ HX.out
  clear hb HB
  go_wp2_with fail
  go_ret3
  exact ⟨rfl, H2.out⟩
set_option maxHeartbeats 1600000 in
theorem moved.bad {W : World} {g gw gf sz : Nat} {l : List Ob} (hA : ArAt W g gw gf sz l) (p : Int) (h : ¬ ∃ q : Nat, p = q ∧ begins l q) :
    Calls Try.prog 25 #[.pointer (some ⟨g, 0, none⟩), .int .i64 p] W fun e w' => e = .returned (.tuple #[.int .i64 0, .bool false, .int .i64 23]) ∧ Below W.heap.size W w' := by
  obtain ⟨cw, cf, fs, hA⟩ := hA
  have HB := Aside0.mk (begins.no hA p h)
  clear hA h
  go_enter Try.func25, Try.ntmps25
  go_wp2_with fail
  refine HB.out.mono ?_
  rintro e w2 ⟨rfl, hb⟩
  have H2 := Aside0.mk hb
  clear hb HB
  go_wp2_with fail
  go_ret3
  exact ⟨rfl, H2.out⟩
/-- append of words onto no list. -/
theorem wpList_clone {ops : Array Oper} {rest : List Oper} {o : Oper} {a : Act} {Q : Exit → Act → World → Prop} (w : World) (hg : o.guard = none) (s x : Operand)
    (hop : o.op = Op.call { callee := Callee.builtin Builtin.append, args := #[s, x], argTypes := #[34, 34] })
    (hs : a.eval s = .slice none 0 0) (ad : Addr) (n c : Nat) (l2 : List Nat) (hx : a.eval x = .slice (some ad) n c) (hl2 : l2.length = n) (hc : ∀ j y, l2[j]? = some y → w.cell? (ad.add j) = some (u64 y))
    (h0 : 0 < n) (hb : n ≤ 100000000)
    (hK : ∀ g' cap' w', w.heap.size ≤ g' → WordsAt w' g' cap' l2 → Below w.heap.size w w' → wpList Try.prog ops Q rest (a.put o.dst (.slice (some ⟨g', 0, none⟩) n cap')) w') :
    wpList Try.prog ops Q (o :: rest) a w := by
  obtain ⟨i, hi, z0, z1, z2⟩ := infoU
  refine wpList_append_grows w hg s x 34 hop 36 i (.int .u64 0) 1 8 Try.underlying34 hi z0 z1 z2 rfl (by decide) none 0 0 [] hs (fun _ => ⟨rfl, rfl⟩) (by simp) (fun b hb1 => (by cases hb1)) ad n c (l2.map u64) hx (by simp [hl2]) ?_ ?_ (by omega) (by unfold maxLen; omega) (by omega) ?_
  · intro j u hu
    rw [List.getElem?_map, Option.map_eq_some_iff] at hu
    obtain ⟨y, hy, rfl⟩ := hu
    exact hc j y hy
  · intro u hu; obtain ⟨y, _, rfl⟩ := List.mem_map.1 hu; rfl
  · intro v' w' ho hgr
    obtain ⟨g', cap', rfl, hg', hwa⟩ := WordsAt.of_own (l := l2) (by simpa using ho) (by omega) (by omega)
    rw [hl2]
    exact hK g' cap' w' hg' hwa ((Upd.of_grown (S := none_) hgr (fun k hk => by cases hk)).below _ (Nat.le_refl _) (fun i hi => hi.elim))
set_option maxHeartbeats 1600000 in
theorem image.calls {W : World} {g gw gf sz : Nat} {l : List Ob} (hA : ArAt W g gw gf sz l) :
    Calls Try.prog 17 #[.pointer (some ⟨g, 0, none⟩)] W fun e w' => ∃ gi ci, e = .returned (.slice (some ⟨gi, 0, none⟩) (used l) ci) ∧ WordsAt w' gi ci (words l) ∧ W.heap.size ≤ gi ∧ Below W.heap.size W w' := by
  obtain ⟨cw, cf, fs, hA⟩ := hA
  have a1 := hA.c1
  have hu : used l ≤ 1048576 := Nat.le_trans hA.fit hA.sz1
  have hu0 : 0 < used l := used_pos l
  have HC : Aside0 (∀ j y, (words l)[j]? = some y → W.cell? ((⟨gw, 0, none⟩ : Addr).add j) = some (u64 y)) := ⟨fun j y hy => by have := hA.ws.get j y hy; simpa [Addr.add_lit, u64] using this⟩
  obtain ⟨u, hue⟩ : ∃ u, u = used l := ⟨_, rfl⟩
  have HU : Aside0 ((words l).length = u) := ⟨hue.symm⟩
  rw [← hue] at a1 hu hu0
  rw [← hue]
  clear hA hue
  go_enter Try.func17, Try.ntmps17
  go_wp2_with ((with_reducible refine gate_builtin (b := .append) (xs := #[.const (.slice none 0 0), .tmp 6]) rfl ?_); at_builtin; refine wpList_clone _ rfl (.const (.slice none 0 0)) (.tmp 6) rfl rfl ⟨gw, 0, none⟩ u cw (words l) rfl HU.out HC.out hu0 (by omega) ?_; intro gi ci w' hgi hwa hb; have HO := Aside0.mk hwa; have HG := Aside0.mk hgi; have HB := Aside0.mk hb; clear hwa hgi hb)
  go_ret
  exact ⟨gi, ci, rfl, HO.out, HG.out, HB.out⟩
theorem clear_ar (W W2 : World) (g n gw cw gf m cf : Nat) (hd : HdAt W g n gw 0 cw gf m cf ∨ ∃ k, HdAt W g n gw k cw gf m cf) (h1 : 1 ≤ n) (h2 : n ≤ 1048576)
    (hW2 : W2 = (W.setCell ⟨g, 1, none⟩ (.slice (some ⟨W.heap.size, 0, none⟩) 1 1)).setCell ⟨g, 2, none⟩ (.slice (some ⟨W.heap.size + 1, 0, none⟩) 1 1)) :
    ArAt ((W2.alloc (.cells (madeCells #[.int .u64 0] 1) 36)).alloc (.cells (madeCells #[.int .u64 0] 1) 36)) g W.heap.size (W.heap.size + 1) n [] ∧ Upd (fun k => k = g) W ((W2.alloc (.cells (madeCells #[.int .u64 0] 1) 36)).alloc (.cells (madeCells #[.int .u64 0] 1) 36)) := by
  obtain ⟨k, hd⟩ : ∃ k, HdAt W g n gw k cw gf m cf := by
    rcases hd with h | h
    · exact ⟨0, h⟩
    · exact h
  have hlt := hd.lt
  have d2 : HdAt W2 g n W.heap.size 1 1 (W.heap.size + 1) 1 1 := hW2 ▸ (hd.set1 W.heap.size 1 1).set2 (W.heap.size + 1) 1 1
  have s0 : W2.heap.size = W.heap.size := by rw [hW2]; simp [World.setCell]
  have u2 : Upd (fun k => k = g) W W2 := hW2 ▸ ((Upd.refl (fun k => k = g) W).put (.inl rfl) _ _).put (.inl rfl) _ _
  clear hW2 hd
  have hm := words_made W2 1 (by unfold maxLen; omega)
  have hm2 := words_made (W2.alloc (.cells (madeCells #[.int .u64 0] 1) 36)) 1 (by unfold maxLen; omega)
  have hb2 : Below (W2.alloc (.cells (madeCells #[.int .u64 0] 1) 36)).heap.size (W2.alloc (.cells (madeCells #[.int .u64 0] 1) 36)) ((W2.alloc (.cells (madeCells #[.int .u64 0] 1) 36)).alloc (.cells (madeCells #[.int .u64 0] 1) 36)) := below_alloc (Below.refl _ _) _
  have s1 : (W2.alloc (.cells (madeCells #[.int .u64 0] 1) 36)).heap.size = W.heap.size + 1 := by simp [s0]
  rw [s1] at hm2
  rw [s0] at hm
  have hm1 := hm.below hb2
  have u3 := (u2.alloc (.cells (madeCells #[.int .u64 0] 1) 36)).alloc (.cells (madeCells #[.int .u64 0] 1) 36)
  have d3 := d2.upd (((Upd.refl none_ W2).alloc (.cells (madeCells #[.int .u64 0] 1) 36)).alloc (.cells (madeCells #[.int .u64 0] 1) 36)) (fun h => h)
  refine ⟨⟨1, 1, [0], d3, hm1, hm2, Bits.start, by simp, by rw [used_nil]; exact h1, h2, by decide, by omega, by omega, by omega⟩, u3⟩
set_option maxHeartbeats 1600000 in
theorem clear.calls {W : World} {g gw gf sz : Nat} {l : List Ob} (hA : ArAt W g gw gf sz l) :
    Calls Try.prog 65 #[.pointer (some ⟨g, 0, none⟩)] W fun e w' => e = .returned (.tuple #[]) ∧ ∃ gw' gf', ArAt w' g gw' gf' sz [] ∧ W.heap.size ≤ gw' ∧ W.heap.size ≤ gf' ∧ Upd (fun k => k = g) W w' := by
  obtain ⟨cw, cf, fs, hA⟩ := hA
  have hmk : ∀ u : World, (Instr.makeSlice 34 (.int .i64 1) (.int .i64 1)).run Try.prog u = .ok (.slice (some ⟨u.heap.size, 0, none⟩) 1 1) (u.alloc (.cells (madeCells #[.int .u64 0] 1) 36)) := fun u => make_u64 1 (by omega) u
  have hlt := hA.hdAt.lt
  have HA := Aside0.mk hA
  have hz := hA.sz1
  have h1 : 1 ≤ sz := by have := hA.fit; have := used_pos l; omega
  have b1 := hA.c1
  have f1 := hA.fz 1
  have b2 := hA.c2
  have f2 := hA.fz 2
  clear hA
  go_enter Try.func65, Try.ntmps65
  go_wp2_with fail
  go_end0
  obtain ⟨r1, r2⟩ := clear_ar W _ g sz gw cw gf fs.length cf (.inr ⟨_, HA.out.hdAt⟩) h1 hz rfl
  exact ⟨rfl, _, _, r1, Nat.le_refl _, by omega, r2⟩
end Go.Proofs.Ytgjcffjicbmkhaa.ArZ
