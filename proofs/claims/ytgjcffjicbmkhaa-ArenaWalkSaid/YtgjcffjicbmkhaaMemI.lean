/- What ArenaMemory keeps from step to step. No function of the program. -/
import Derived.Test.YtgjcffjicbmkhaaFillL
import Derived.Test.YtgjcffjicbmkhaaArT
import Derived.Test.YtgjcffjicbmkhaaMemO
namespace Go.Proofs.Ytgjcffjicbmkhaa.MemI
open Go Go.RowKit Go.Proofs.YtgjcffjicbmkhaaW.PrintWords Go.Proofs.YtgjcffjicbmkhaaW.PrintLast Go.Proofs.YtgjcffjicbmkhaaW.PrintMore Go.Proofs.Ytgjcffjicbmkhaa.PF Go.Proofs.Ytgjcffjicbmkhaa.RowU Go.Proofs.Ytgjcffjicbmkhaa.ArS Go.Proofs.Ytgjcffjicbmkhaa.ArM Go.Proofs.Ytgjcffjicbmkhaa.ArX Go.Proofs.Ytgjcffjicbmkhaa.ArY Go.Proofs.Ytgjcffjicbmkhaa.GenM Go.Proofs.Ytgjcffjicbmkhaa.TakS Go.Proofs.Ytgjcffjicbmkhaa.FillL
set_option linter.unusedVariables false
set_option maxRecDepth 100000

/-- A list of words of its own, as a value. -/
def ownV (h n : Nat) : Value := .slice (some ⟨h, 0, none⟩) n n
def heldV (l : List S28) (hs : List Nat) : List Value := List.zipWith (fun x h => ownV h (x.f1.toNat + x.f2.toNat)) l hs
theorem heldV_get (l : List S28) (hs : List Nat) (j : Nat) (k r s h : Nat) (h1 : l[j]? = some ⟨k, r, s⟩) (h2 : hs[j]? = some h) : (heldV l hs)[j]? = some (ownV h (r + s)) := by
  unfold heldV
  rw [List.getElem?_zipWith, h1, h2]
  simp
theorem heldV_len (l : List S28) (hs : List Nat) (h : hs.length ≤ l.length) : (heldV l hs).length = hs.length := by
  unfold heldV
  rw [List.length_zipWith]
  omega
theorem heldV_snoc (l : List S28) (hs : List Nat) (k r s h : Nat) (h1 : l[hs.length]? = some ⟨k, r, s⟩) : heldV l (hs ++ [h]) = heldV l hs ++ [ownV h (r + s)] := by
  have hl := (List.getElem?_eq_some_iff.1 h1).1
  apply List.ext_getElem?
  intro j
  unfold heldV
  rw [List.getElem?_zipWith]
  rcases Nat.lt_trichotomy j hs.length with hj | hj | hj
  · rw [List.getElem?_append_left hj, List.getElem?_append_left (by rw [List.length_zipWith]; omega), List.getElem?_zipWith]
  · subst hj
    rw [List.getElem?_append_right (Nat.le_refl _), Nat.sub_self, h1, List.getElem?_append_right (by rw [List.length_zipWith]; omega), List.length_zipWith, show hs.length - min l.length hs.length = 0 by omega]
    simp
  · rw [List.getElem?_append_right (by omega), List.getElem?_append_right (by rw [List.length_zipWith]; omega), List.length_zipWith]
    have e1 : ([h] : List Nat)[j - hs.length]? = none := List.getElem?_eq_none (by simp; omega)
    rw [e1]
    have e2 : ([ownV h (r + s)] : List Value)[j - min l.length hs.length]? = none := List.getElem?_eq_none (by simp; omega)
    rw [e2]
    cases l[j]? <;> rfl
structure Mem (Wf wr : World) (l : List S28) (g gw gf : Nat) (va vh : Value) (obs : List Ob) (hs : List Nat) : Prop where
  ar : ArAt wr g gw gf (used (obsOf l)) obs
  at_ : GV 3 wr va (placesV l l.length)
  hv : GV 34 wr vh (heldV l hs)
  hl : hs.length ≤ l.length
  ws : ∀ (j h : Nat) (o : Ob), hs[j]? = some h → obs[j]? = some o → WordsAt wr h o.fields.length o.fields
  nd : ∀ i j h : Nat, hs[i]? = some h → hs[j]? = some h → i = j
  nw : ∀ h : Nat, h ∈ hs → h ≠ gw ∧ h ≠ gf ∧ Wf.heap.size ≤ h
  sh : ∀ (j k r s : Nat), l[j]? = some (⟨k, r, s⟩ : S28) → ∃ o : Ob, obs[j]? = some o ∧ o.kind = k ∧ o.refs = r ∧ o.fields.length = r + s ∧ o.gone = none
  pl : ∀ j : Nat, place obs j = place (obsOf l) j
  below : Below Wf.heap.size Wf wr
  g0 : Wf.heap.size ≤ g
  gw0 : Wf.heap.size ≤ gw
  gf0 : Wf.heap.size ≤ gf
  va0 : ∀ k, va.ownBlock = some k → Wf.heap.size ≤ k
  vh0 : ∀ k, vh.ownBlock = some k → Wf.heap.size ≤ k
  ln : obs.length = l.length
theorem gv_type {T : TypeId} {W : World} {v : Value} {lst : List Value} (h : GV T W v lst) (k : Nat) (hk : v.ownBlock = some k) : ∃ cs, W.heap[k]? = some (.cells cs T (0, 0)) := by
  rcases h with ⟨rfl, _⟩ | ⟨b, cap, hv, hb⟩
  · cases hk
  · rw [hv] at hk
    obtain rfl := Option.some.inj hk
    obtain ⟨cur, h1, _⟩ := hb
    exact ⟨_, h1⟩
theorem ne_type {W : World} {g1 g2 : Nat} {c1 c2 : Array Value} {T1 T2 : TypeId} {f1 f2 : Nat × Nat} (h1 : W.heap[g1]? = some (.cells c1 T1 f1)) (h2 : W.heap[g2]? = some (.cells c2 T2 f2)) (h : T1 ≠ T2) : g1 ≠ g2 := by
  rintro rfl
  have := h1.symm.trans h2
  simp at this
  exact h this.2.1
theorem ar_hd {W : World} {g gw gf sz : Nat} {l : List Ob} (h : ArAt W g gw gf sz l) : ∃ cs, W.heap[g]? = some (.cells cs 112 (0, 0)) := by
  obtain ⟨cw, cf, fs, h⟩ := h
  exact ⟨_, h.hd⟩
theorem wd_type {W : World} {g cap : Nat} {l : List Nat} (h : WordsAt W g cap l) : ∃ cs, W.heap[g]? = some (.cells cs 36 (0, 0)) := by
  obtain ⟨cur, h1, _⟩ := h
  exact ⟨_, h1⟩
theorem Mem.move {Wf wr w' : World} {l : List S28} {g gw gf : Nat} {va vh : Value} {obs : List Ob} {hs : List Nat} (h : Mem Wf wr l g gw gf va vh obs hs) (hb : Below wr.heap.size wr w') : Mem Wf w' l g gw gf va vh obs hs :=
  ⟨h.ar.below hb, h.at_.upd (S := none_) (Upd.of_below hb) (fun _ _ h => h), h.hv.upd (S := none_) (Upd.of_below hb) (fun _ _ h => h), h.hl, fun j b o h1 h2 => (h.ws j b o h1 h2).below hb, h.nd, h.nw, h.sh, h.pl, below_next h.below hb, h.g0, h.gw0, h.gf0, h.va0, h.vh0, h.ln⟩
/-- A list of words more. -/
theorem Mem.grow {Wf wr w1 w2 w3 : World} {l : List S28} {g gw gf : Nat} {va vh v3 : Value} {hs : List Nat} (h : Mem Wf wr l g gw gf va vh (obsOf l) hs) {k r s : Nat} (hx : l[hs.length]? = some ⟨k, r, s⟩) (hsm : r + s ≤ maxLen)
    (hw1 : w1 = wr.alloc (.cells (madeCells #[.int .u64 0] (r + s)) 36)) (hw2 : Below w1.heap.size w1 w2)
    (hgv : GV 34 w3 v3 (heldV l hs ++ [ownV wr.heap.size (r + s)])) (hown : ∀ b, v3.ownBlock = some b → (vh.ownBlock = some b ∨ w2.heap.size ≤ b)) (hu : Upd (fun b => vh.ownBlock = some b) w2 w3) :
    Mem Wf w3 l g gw gf va v3 (obsOf l) (hs ++ [wr.heap.size]) := by
  have b1 : Below wr.heap.size wr w1 := hw1 ▸ below_alloc (Below.refl _ _) _
  have b2 : Below wr.heap.size wr w2 := below_next b1 hw2
  have hm := h.move b2
  have hnew : WordsAt w1 wr.heap.size (r + s) (List.replicate (r + s) 0) := hw1 ▸ words_made wr (r + s) hsm
  have hnew2 := hnew.below hw2
  have hvt := fun k hk => gv_type hm.hv k hk
  have nar := gv_not_ar hm.hv hm.ar (by decide) (by decide)
  have hlt : ∀ b, b ∈ hs → b < wr.heap.size := by
    intro b hb
    obtain ⟨j, hj⟩ := List.getElem?_of_mem hb
    have hjl := (List.getElem?_eq_some_iff.1 hj).1
    have hjl2 : j < (obsOf l).length := by simp [obsOf]; have := h.hl; omega
    exact (h.ws j b _ hj (List.getElem?_eq_getElem hjl2)).lt
  have hni : ∀ b l2, WordsAt w2 b (r + s) l2 ∨ (∃ cap, WordsAt w2 b cap l2) → ¬ vh.ownBlock = some b := by
    intro b l2 hb hk
    obtain ⟨cs, hcs⟩ := hvt b hk
    obtain ⟨cs2, hcs2⟩ : ∃ cs, w2.heap[b]? = some (.cells cs 36 (0, 0)) := by
      rcases hb with hb | ⟨cap, hb⟩
      · exact wd_type hb
      · exact wd_type hb
    exact ne_type hcs hcs2 (by decide) rfl
  have hsz2 : wr.heap.size ≤ w2.heap.size := b2.size
  refine ⟨hm.ar.upd hu (fun hh => nar _ hh (.inl rfl)) (fun hh => nar _ hh (.inr (.inl rfl))) (fun hh => nar _ hh (.inr (.inr rfl))), ?_, ?_, ?_, ?_, ?_, ?_, h.sh, h.pl, ?_, h.g0, h.gw0, h.gf0, h.va0, ?_, h.ln⟩
  · refine hm.at_.upd hu (fun b hb hb2 => ?_)
    obtain ⟨cs, hcs⟩ := gv_type hm.at_ b hb
    obtain ⟨cs2, hcs2⟩ := hvt b hb2
    exact ne_type hcs hcs2 (by decide) rfl
  · rw [heldV_snoc l hs k r s _ hx]; exact hgv
  · have := (List.getElem?_eq_some_iff.1 hx).1
    rw [List.length_append, List.length_singleton]; omega
  · intro j b o h1 h2
    by_cases hj : j < hs.length
    · rw [List.getElem?_append_left hj] at h1
      have h3 := hm.ws j b o h1 h2
      exact h3.upd hu (hni b _ (.inr ⟨_, h3⟩))
    · have hje : j = hs.length := by
        have h4 := (List.getElem?_eq_some_iff.1 h1).1
        rw [List.length_append, List.length_singleton] at h4
        omega
      subst hje
      rw [List.getElem?_append_right (Nat.le_refl _), Nat.sub_self] at h1
      obtain rfl : wr.heap.size = b := by simpa using h1
      have ho : o = newOb k r s := by
        unfold obsOf at h2
        rw [List.getElem?_map, hx] at h2
        have := Option.some.inj h2
        rw [← this]; simp [obOf]
      rw [ho]
      have hfl : (newOb k r s).fields = List.replicate (r + s) 0 := rfl
      rw [hfl, List.length_replicate]
      exact hnew2.upd hu (hni _ _ (.inl hnew2))
  · intro i j b h1 h2
    have key : ∀ i, (hs ++ [wr.heap.size])[i]? = some b → (i < hs.length ∧ b < wr.heap.size) ∨ (i = hs.length ∧ b = wr.heap.size) := by
      intro i hi
      by_cases hj : i < hs.length
      · rw [List.getElem?_append_left hj] at hi
        exact .inl ⟨hj, hlt b (List.mem_of_getElem? hi)⟩
      · have h4 := (List.getElem?_eq_some_iff.1 hi).1
        rw [List.length_append, List.length_singleton] at h4
        obtain rfl : i = hs.length := by omega
        rw [List.getElem?_append_right (Nat.le_refl _), Nat.sub_self] at hi
        exact .inr ⟨rfl, by simpa using hi.symm⟩
    rcases key i h1 with ⟨a1, a2⟩ | ⟨a1, a2⟩ <;> rcases key j h2 with ⟨c1, c2⟩ | ⟨c1, c2⟩
    · rw [List.getElem?_append_left a1] at h1
      rw [List.getElem?_append_left c1] at h2
      exact h.nd i j b h1 h2
    · omega
    · omega
    · omega
  · intro b hb
    rcases List.mem_append.1 hb with hb | hb
    · exact h.nw b hb
    · rw [List.mem_singleton.1 hb]
      obtain ⟨l1, l2, l3⟩ := ArT.ArAt.lt3 h.ar
      exact ⟨by omega, by omega, h.below.size⟩
  · exact Upd.to_below (below_next h.below b2) hu (Nat.le_trans h.below.size hsz2) h.vh0
  · intro b hb
    rcases hown b hb with h1 | h1
    · exact h.vh0 b h1
    · exact Nat.le_trans h.below.size (Nat.le_trans hsz2 h1)
/-- One field changed, in the arena and in the list. -/
theorem Mem.put {Wf wr w2 : World} {l : List S28} {g gw gf : Nat} {va vh : Value} {obs : List Ob} {hs : List Nat} (h : Mem Wf wr l g gw gf va vh obs hs) {j b f x : Nat} {o : Ob} (hb : hs[j]? = some b) (ho : obs[j]? = some o) (hf : f < o.fields.length) (hx : x < 18446744073709551616)
    (hA : ArAt w2 g gw gf (used (obsOf l)) (obs.set j (Ob.put o f x))) (hu : Upd (fun b => b = gw) wr w2) :
    Mem Wf (w2.setCell ⟨b, f, none⟩ (.int .u64 (x : Int))) l g gw gf va vh (obs.set j (Ob.put o f x)) hs := by
  obtain ⟨hne1, hne2, hb0⟩ := h.nw b (List.mem_of_getElem? hb)
  have hw := h.ws j b o hb ho
  obtain ⟨cs, hcs⟩ := wd_type hw
  obtain ⟨cg, hcg⟩ := ar_hd h.ar
  have hng : g ≠ b := ne_type hcg hcs (by decide)
  have hgw : ∀ {T : TypeId} {v : Value} {lst : List Value}, GV T wr v lst → T ≠ 36 → T ≠ 112 → ∀ k, v.ownBlock = some k → ¬ (k = gw ∨ k = b) := by
    intro T v lst hv h1 h2 k hk
    obtain ⟨c1, hc1⟩ := gv_type hv k hk
    rintro (h3 | h3)
    · exact gv_not_ar hv h.ar h2 h1 k hk (.inr (.inl h3))
    · subst h3; exact ne_type hc1 hcs h1 rfl
  have hu2 : Upd (fun k => k = gw ∨ k = b) wr (w2.setCell ⟨b, f, none⟩ (.int .u64 (x : Int))) := (hu.mono (fun i hi => .inl hi)).put (.inl (.inr rfl)) _ _
  have hu3 : Upd (fun k => k = b) w2 (w2.setCell ⟨b, f, none⟩ (.int .u64 (x : Int))) := (Upd.refl (fun k => k = b) w2).put (.inl rfl) _ _
  have hol := (List.getElem?_eq_some_iff.1 ho).1
  refine ⟨hA.upd hu3 hng (fun hh => hne1 hh.symm) (fun hh => hne2 hh.symm), h.at_.upd hu2 (hgw h.at_ (by decide) (by decide)), h.hv.upd hu2 (hgw h.hv (by decide) (by decide)), h.hl, ?_, h.nd, h.nw, ?_, ?_, ?_, h.g0, h.gw0, h.gf0, h.va0, h.vh0, by rw [List.length_set]; exact h.ln⟩
  · intro i c o' h1 h2
    by_cases hij : i = j
    · subst hij
      obtain rfl : b = c := Option.some.inj (hb.symm.trans h1)
      rw [List.getElem?_set_self hol] at h2
      obtain rfl := Option.some.inj h2
      rw [Ob.put_len]
      exact (hw.upd hu hne1).set f hf x
    · rw [List.getElem?_set_ne (fun hh => hij hh.symm)] at h2
      have hcb : ¬ c = b := fun hh => hij (h.nd i j c h1 (hh ▸ hb))
      exact (h.ws i c o' h1 h2).upd hu2 (fun hh => by
        rcases hh with hh | hh
        · exact (h.nw c (List.mem_of_getElem? h1)).1 hh
        · exact hcb hh)
  · intro i k r s hi
    obtain ⟨o', h1, h2, h3, h4, h5⟩ := h.sh i k r s hi
    by_cases hij : j = i
    · subst hij
      obtain rfl : o = o' := Option.some.inj (ho.symm.trans h1)
      exact ⟨Ob.put o f x, List.getElem?_set_self hol, h2, h3, by rw [Ob.put_len]; exact h4, h5⟩
    · exact ⟨o', by rw [List.getElem?_set_ne hij]; exact h1, h2, h3, h4, h5⟩
  · intro i
    rw [place_set ho (Ob.put_len o f x)]
    exact h.pl i
  · refine Upd.to_below h.below hu2 h.below.size ?_
    rintro i (rfl | rfl)
    · exact h.gw0
    · exact hb0
/-- One field changed, in the arena alone (no lists are held). -/
theorem Mem.set0 {Wf wr w2 : World} {l : List S28} {g gw gf : Nat} {va vh : Value} {obs : List Ob} (h : Mem Wf wr l g gw gf va vh obs []) {j f x : Nat} {o : Ob} (ho : obs[j]? = some o)
    (hA : ArAt w2 g gw gf (used (obsOf l)) (obs.set j (Ob.put o f x))) (hu : Upd (fun b => b = gw) wr w2) : Mem Wf w2 l g gw gf va vh (obs.set j (Ob.put o f x)) [] := by
  have hol := (List.getElem?_eq_some_iff.1 ho).1
  refine ⟨hA, h.at_.upd hu (fun k hk hg => gv_not_ar h.at_ h.ar (by decide) (by decide) k hk (.inr (.inl hg))), h.hv.upd hu (fun k hk hg => gv_not_ar h.hv h.ar (by decide) (by decide) k hk (.inr (.inl hg))), h.hl, fun i b o' h1 _ => by simp at h1, fun i j h h1 _ => by simp at h1, fun h h1 => by simp at h1, ?_, ?_, ?_, h.g0, h.gw0, h.gf0, h.va0, h.vh0, by rw [List.length_set]; exact h.ln⟩
  · intro i k r s hi
    obtain ⟨o', h1, h2, h3, h4, h5⟩ := h.sh i k r s hi
    by_cases hij : j = i
    · subst hij
      obtain rfl : o = o' := Option.some.inj (ho.symm.trans h1)
      exact ⟨Ob.put o f x, List.getElem?_set_self hol, h2, h3, by rw [Ob.put_len]; exact h4, h5⟩
    · exact ⟨o', by rw [List.getElem?_set_ne hij]; exact h1, h2, h3, h4, h5⟩
  · intro i
    rw [place_set ho (Ob.put_len o f x)]
    exact h.pl i
  · exact Upd.to_below h.below hu h.below.size (fun i hi => by rw [hi]; exact h.gw0)
end Go.Proofs.Ytgjcffjicbmkhaa.MemI
