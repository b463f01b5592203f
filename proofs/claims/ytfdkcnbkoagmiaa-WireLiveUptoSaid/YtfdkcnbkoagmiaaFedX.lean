/- Layer 8: fed walked (printed by gen/mkfed.py). -/
import Derived.Test.YtfdkcnbkoagmiaaFedW
import Derived.Deep.DeepMust
namespace Go.Proofs.Ytfdkcnbkoagmiaa.FedX
open Go Go.RowKit Go.Proofs.YtfdkcnbkoagmiaaW.PrintWords Go.Proofs.YtfdkcnbkoagmiaaW.PrintLast Go.Proofs.YtfdkcnbkoagmiaaW.PrintMore Go.Proofs.Ytfdkcnbkoagmiaa.RowU Go.Proofs.Ytfdkcnbkoagmiaa.ArS Go.Proofs.Ytfdkcnbkoagmiaa.ArM Go.Proofs.Ytfdkcnbkoagmiaa.GenM Go.Proofs.Ytfdkcnbkoagmiaa.GenN Go.Proofs.Ytfdkcnbkoagmiaa.GenL Go.Proofs.Ytfdkcnbkoagmiaa.OwnL Go.Proofs.Ytfdkcnbkoagmiaa.ParM Go.Proofs.Ytfdkcnbkoagmiaa.ParD Go.Proofs.Ytfdkcnbkoagmiaa.ParF Go.Proofs.Ytfdkcnbkoagmiaa.ChkS Go.Proofs.Ytfdkcnbkoagmiaa.FedW
open Go.Proofs.Ytfdkcnbkoagmiaa.ParS (St PS)
open Go.Proofs.Ytfdkcnbkoagmiaa.LinS (inB)
set_option linter.unusedVariables false
set_option maxRecDepth 100000


structure FP (d ks : List Int) (q : PS) (r : List Int) (ol : List (List (List Int))) (el : List Int) (i : Nat) : Prop where
  inv : ParS.Inv q
  cur : inB q.cur
  out : q.out = []
  hd0 : 0 ≤ q.held
  hd : q.held + r.length ≤ d.length
  ri : inB r
  oll : ol.length + r.length ≤ d.length
  ell : el.length = i
  eq : i ≤ ks.length ∧ fedL ParS.new d ks = ((fedL q r (ks.drop i)).1, ol ++ (fedL q r (ks.drop i)).2.1, el ++ (fedL q r (ks.drop i)).2.2) ∨ i = ks.length + 1 ∧ fedL ParS.new d ks = (q, ol, el)
theorem feed_held (q : PS) (b : List Int) : (ParS.feed q b).held = (ParS.run q b).held := rfl
theorem FP.step {d ks : List Int} {q : PS} {r : List Int} {ol : List (List (List Int))} {el : List Int} {i n : Nat} (h : FP d ks q r ol el i) (hn : n ≤ r.length) (he : i + 1 ≤ ks.length ∧ fedL ParS.new d ks = ((fedL (ParS.feed q (r.take n)) (r.drop n) (ks.drop (i + 1))).1, (ol ++ (ParS.run q (r.take n)).out) ++ (fedL (ParS.feed q (r.take n)) (r.drop n) (ks.drop (i + 1))).2.1, (el ++ [(ParS.run q (r.take n)).broken]) ++ (fedL (ParS.feed q (r.take n)) (r.drop n) (ks.drop (i + 1))).2.2) ∨ i + 1 = ks.length + 1 ∧ fedL ParS.new d ks = (ParS.feed q (r.take n), ol ++ (ParS.run q (r.take n)).out, el ++ [(ParS.run q (r.take n)).broken])) :
    FP d ks (ParS.feed q (r.take n)) (r.drop n) (ol ++ (ParS.run q (r.take n)).out) (el ++ [(ParS.run q (r.take n)).broken]) (i + 1) := by
  have h1 := run_le (r.take n) (p := q) h.hd0
  rw [List.length_take, Nat.min_eq_left hn, h.out, List.length_nil] at h1
  have h2 := h.hd
  have h3 := h.oll
  refine ⟨h.inv.feed _, run_in (r.take n) h.cur (fun x hx => h.ri x (List.mem_of_mem_take hx)), rfl, h1.2.1, ?_, fun x hx => h.ri x (List.mem_of_mem_drop hx), ?_, by rw [List.length_append, h.ell, List.length_singleton], he⟩
  · rw [feed_held, List.length_drop]; omega
  · rw [List.length_append, List.length_drop]; omega
theorem FP.piece {d ks : List Int} {q : PS} {r : List Int} {ol : List (List (List Int))} {el : List Int} {i n : Nat} {k : Int} (h : FP d ks q r ol el i) (hk : ks[i]? = some k) (hn : n = min (win k).toNat r.length) :
    FP d ks (ParS.feed q (r.take n)) (r.drop n) (ol ++ (ParS.run q (r.take n)).out) (el ++ [(ParS.run q (r.take n)).broken]) (i + 1) := by
  have hi := (List.getElem?_eq_some_iff.1 hk).1
  refine h.step (by omega) (.inl ⟨by omega, ?_⟩)
  rcases h.eq with ⟨_, h2⟩ | ⟨h2, _⟩
  · rw [h2, LinW.drop_at hk]
    subst hn
    show (_, ol ++ ((ParS.run q _).out ++ _), el ++ ((ParS.run q _).broken :: _)) = _
    simp only [List.append_assoc, List.singleton_append]
    rfl
  · omega
theorem FP.last {d ks : List Int} {q : PS} {r : List Int} {ol : List (List (List Int))} {el : List Int} {i : Nat} (h : FP d ks q r ol el i) (hi : i = ks.length) :
    FP d ks (ParS.feed q r) [] (ol ++ (ParS.run q r).out) (el ++ [(ParS.run q r).broken]) (i + 1) := by
  have := h.step (n := r.length) (Nat.le_refl _) (.inr ⟨by omega, ?_⟩)
  · rw [List.take_length, List.drop_length] at this
    exact this
  · rcases h.eq with ⟨_, h2⟩ | ⟨h2, _⟩
    · rw [h2, List.drop_of_length_le (by omega), List.take_length]
      rfl
    · omega
theorem FM.empty {W wr : World} {gp gd : Nat} {q : PS} {va vc vx : Value} {Oa Oc Oo : Nat → Nat} {vo : Value} {ol : List (List (List Int))} {Ot : Nat → Nat} {ve : Value} {el : List Int} {o : Nat} {r : List Int} (h : FM W wr gp gd q va vc vx Oa Oc Oo vo ol Ot ve el o r) : FM W wr gp gd q va vc vx Oa Oc Oo vo ol Ot ve el o [] :=
  ⟨h.pm, h.ro, h.re, ⟨rfl, by simp, fun h0 => by simp at h0⟩, h.one, h.new, h.gd0, h.bel⟩
/-- What fed answers. -/
def FedA (W w' : World) (e : Ending) (d ks : List Int) : Prop := ∃ gp gd q va vc vx Oa Oc Oo vo ol Ot ve el o r, fedL ParS.new d ks = (q, ol, el) ∧ e = .returned (.tuple #[ptr gp, vo, ve]) ∧ FM W w' gp gd q va vc vx Oa Oc Oo vo ol Ot ve el o r
set_option maxHeartbeats 16000000 in
theorem fed.calls (A : Option Addr) (c : Nat) (d : List Int) (Aq : Option Addr) (cq : Nat) (cuts : List Int) (W : World) (hC : (Kd.int .u8).C W A d.length d) (hd : inB d) (hlen : d.length ≤ 70000000) (hQ : (Kd.int .i64).C W Aq cuts.length cuts) :
    Calls Try.prog 26 #[.slice A d.length c, .slice Aq cuts.length cq] W fun e w' => FedA W w' e d (cuts.take 4095) := by
  have HCO : Aside0 (∀ w', Below W.heap.size W w' → Calls Try.prog 33 #[.slice A d.length c] w' fun e w'' => ∃ g, e = .returned (.slice (some ⟨g, 0, none⟩) d.length d.length) ∧ w'.heap.size ≤ g ∧ BtR w'' (.slice (some ⟨g, 0, none⟩) d.length d.length) d (oc (.slice (some ⟨g, 0, none⟩) d.length d.length)) ∧ Below w'.heap.size w' w'') := ⟨fun w' hw => CopL.copyB.calls A c d w' (Kd.C_below hC hw) (by omega)⟩
  have HCU : Aside0 (∀ w', Below W.heap.size W w' → ∀ i, i < cuts.length → ∃ ad k, Aq = some ad ∧ w'.cell? (ad.add i) = some (.int .i64 k) ∧ cuts[i]? = some k) := ⟨fun w' hw i hi => by
    obtain ⟨ad, e, hc⟩ := (Kd.C_below hQ hw).2.2 (by omega)
    obtain ⟨cs, c1, c2, c3⟩ := hc i cuts[i] (List.getElem?_eq_getElem hi)
    have c4 : cs = [Value.int .i64 cuts[i]] := c2
    subst c4
    have := c3 0 _ rfl
    rw [show (Kd.int .i64).sz = 1 from rfl, Nat.mul_one, Nat.add_zero] at this
    exact ⟨ad, _, e, this, List.getElem?_eq_getElem hi⟩⟩
  have HD := Aside0.mk hd
  have HLD := Aside0.mk hlen
  have hkl : (cuts.take 4095).length = min 4095 cuts.length := List.length_take ..
  have HKL := Aside0.mk hkl
  clear hC hd hlen hQ hkl
  go_enter Try.func26, Try.ntmps26
  go_wp2_with (first | (go_at_call 12; refine (ParD.new.calls W).mono ?_; rintro e w1 ⟨rfl, k1, k2⟩; have K1 := Aside0.mk k1; have K2 := Aside0.mk k2; clear k1 k2) | (go_at_call 33; refine (HCO.out _ K2.out).mono ?_; rintro e w2 ⟨gd, rfl, k3, k4, k5⟩; have K3 := Aside0.mk (And.intro k3 (And.intro k4 k5)); clear k3 k4 k5))
  go_loopw [0, 8, 9, 10] (fun vd vo ve i wr => ∃ q r ol el va vc vx Oa Oc Oo Ot o, ∃ k : Nat, vd = .slice (some ⟨gd, o, none⟩) r.length r.length ∧ i = .int .i64 k ∧ Aside0 (FM W wr W.heap.size gd q va vc vx Oa Oc Oo vo ol Ot ve el o r ∧ FP d (cuts.take 4095) q r ol el k)) (fun _ _ _ i _ => 5000 - (intOf i).toNat)
  case atStart =>
    refine ⟨ParS.new, d, [], [], .slice none 0 0, .slice none 0 0, .slice none 0 0, fun _ => 0, fun _ => 0, fun _ => 0, fun _ => 0, 0, 0, rfl, rfl, ⟨⟨⟨K1.out.upd (S := fun _ => False) (Upd.of_below K3.out.2.2) (fun _ _ hf => hf), LAt.nil _ _ _, GV.nil _ _, K3.out.2.1.C.2.2, fun a => ?_, fun a ha => ?_, ⟨?_, ?_⟩, below_next K2.out K3.out.2.2⟩, ⟨ParS.inv_new, nil_in, rfl, Int.le_refl _, ?_, HD.out, by simp, rfl, .inl ⟨Nat.zero_le _, ?_⟩⟩⟩⟩⟩
    · have h1 := K3.out.1
      have h2 := K2.out.size
      have h4 : W.heap.size < w1.heap.size := cell_lt K1.out.hd
      unfold PO
      rw [oc_none]
      dsimp only
      by_cases e1 : a = W.heap.size
      · rw [if_pos e1, if_neg (by omega)]
        omega
      · rw [if_neg e1]
        split <;> omega
    · unfold PO at ha
      rw [oc_none] at ha
      dsimp only at ha
      by_cases e1 : a = W.heap.size
      · omega
      · rw [if_neg e1] at ha
        omega
    · have h1 := K3.out.1
      have h2 := K2.out.size
      omega
    · exact K3.out.2.1.1.lt gd rfl
    · show (0 : Int) + d.length ≤ d.length
      omega
    · rw [List.drop_zero]
      rfl
  case round =>
    obtain ⟨q, r, ol, el, va, vc, vx, Oa, Oc, Oo, Ot, o, k, rfl, rfl, HR⟩ := hrel
    rename World => wr
    have hkl := HKL.out
    have hdl := HLD.out
    by_cases hrun : k ≤ (cuts.take 4095).length
    · have h1' : (k : Int) ≤ (cuts.length : Int) := by omega
      have h2' : (k : Int) < 4096 := by omega
      have HM := Aside0.mk HR.out.1
      have hrl : r.length ≤ 70000000 := by have := HR.out.2.oll; omega
      have hoo := HR.out.2.oll
      have HEL : Aside0 (el.length ≤ 100000000) := ⟨by rw [HR.out.2.ell]; omega⟩
      obtain ⟨Ao, co, eo⟩ := HR.out.1.ro.slice
      obtain ⟨Ae, ce, ee⟩ := HR.out.1.re.slice
      rw [List.length_map] at ee
      by_cases hlast : k = (cuts.take 4095).length
      · have hfd := feed.calls HR.out.1.pm HR.out.2.inv HR.out.2.cur HR.out.2.out HR.out.2.hd0 (some ⟨gd, o, none⟩) r.length r HR.out.1.cd (fun x hx => HR.out.2.ri x (hx)) (fun ad e => by obtain rfl := Option.some.inj e; exact ⟨(by have := HR.out.1.one gd; rw [if_pos rfl] at this; omega : PO W.heap.size Oa Oc Oo gd = 0), HR.out.1.gd0.2⟩) (by omega) (by have := HR.out.2.hd; omega)
        have HFD := Aside0.mk hfd
        have HLEN : Aside0 (ol.length ≤ 70000000 ∧ (ParS.run q r).out.length ≤ 70000000) := ⟨by have := run_le r (p := q) HR.out.2.hd0; rw [HR.out.2.out, List.length_nil] at this; omega⟩
        have HP := Aside0.mk (HR.out.2.last hlast)
        have HMS : Aside0 (5000 - (k + 1) < 5000 - k) := ⟨by omega⟩
        have hcase : ¬ (k : Int) < (cuts.length : Int) ∨ (k : Int) < (cuts.length : Int) ∧ ¬ (k : Int) + 1 < 4096 := by omega
        subst eo ee
        clear hfd hlast hrl hoo hkl hdl hrun HR
        rcases hcase with h3 | ⟨h3, h4⟩
        · go_wp2_with (first | (go_at_call 13; go_must (refine HFD.out.mono ?_; rintro e w2 ⟨vt, rfl, hfq⟩; obtain ⟨va', vc', vx', Oa', Oc', Oo', Ott, m1, m2, m3, m4⟩ := HM.out.fed hfq; obtain ⟨vs, O1, g1, g2, g3⟩ := m1.ro; obtain ⟨us, O2, g4, g5, g6⟩ := m2; obtain ⟨At, ct, et⟩ := g4.slice; have HM2 := Aside0.mk (And.intro m1 (And.intro m3 m4)); have HE := Aside0.mk (And.intro g1 (And.intro g2 g3)); have HT := Aside0.mk (And.intro g4 (And.intro g5 g6)); have HLU : Aside0 (vs.length + us.length ≤ 1000000000) := (⟨by have e1 := g2.len; have e2 := g5.len; have := HLEN.out; omega⟩); subst et; clear hfq m1 m3 m4 g1 g2 g3 g4 g5 g6)) | ((with_reducible refine gate_builtin (b := .append) (xs := #[.tmp 61, .tmp 62]) rfl ?_); at_builtin; refine wpList_vals _ rfl (.tmp 61) (.tmp 62) 36 22 rfl Try.underlying36 (.slice none 0 0) 24 (by kernel_rfl) rfl (by decide) _ vs rfl HE.out.1 _ us rfl HT.out.1 (HT.out.2.1.one RwR.fit) HLU.out ?_; intro v3 w3 hr3; obtain ⟨Ot3, m5⟩ := HM2.out.1.app HE.out.2.1 HE.out.2.2 HT.out.2.1 HT.out.2.2 HM2.out.2.1 HM2.out.2.2 hr3; have HM3 := Aside0.mk m5; clear hr3 m5) | (go_at_call 10; refine (num.calls _ _).mono ?_; rintro e w5 ⟨rfl, rfl⟩) | ((with_reducible refine gate_builtin (b := .append) (xs := #[.tmp 64, .tmp 67]) rfl ?_); at_builtin; refine wpList_gen2 _ rfl (.tmp 64) (.tmp 67) 23 3 rfl Try.underlying23 (.int .i64 0) 8 (by kernel_rfl) rfl (by decide) _ (el.map (Value.int .i64)) rfl ?hv ⟨_, 0, none⟩ (.int .i64 (ParS.run q r).broken) rfl ?hc rfl ?hb ?_; (case hv => exact HM3.out.re.upd (S := none_) (Upd.of_below (below_alloc (Below.refl _ _) _)) (fun _ _ h => h)); (case hc => exact cell_one_new _ _ _ 0 _ rfl); (case hb => rw [List.length_map]; exact HEL.out); intro v4 w4 hr4; have HM4 := Aside0.mk (HM3.out.err (below_alloc (Below.refl _ _) _) hr4); clear hr4))
          exact ⟨⟨ParS.feed q r, [], _, _, _, _, _, _, _, _, _, o, k + 1, rfl, by rw [Int.natCast_succ], ⟨FM.empty HM4.out, HP.out⟩⟩, by have := HMS.out; simp only [intOf]; omega⟩
        · go_wp2_with (first | (go_at_call 13; go_must (refine HFD.out.mono ?_; rintro e w2 ⟨vt, rfl, hfq⟩; obtain ⟨va', vc', vx', Oa', Oc', Oo', Ott, m1, m2, m3, m4⟩ := HM.out.fed hfq; obtain ⟨vs, O1, g1, g2, g3⟩ := m1.ro; obtain ⟨us, O2, g4, g5, g6⟩ := m2; obtain ⟨At, ct, et⟩ := g4.slice; have HM2 := Aside0.mk (And.intro m1 (And.intro m3 m4)); have HE := Aside0.mk (And.intro g1 (And.intro g2 g3)); have HT := Aside0.mk (And.intro g4 (And.intro g5 g6)); have HLU : Aside0 (vs.length + us.length ≤ 1000000000) := (⟨by have e1 := g2.len; have e2 := g5.len; have := HLEN.out; omega⟩); subst et; clear hfq m1 m3 m4 g1 g2 g3 g4 g5 g6)) | ((with_reducible refine gate_builtin (b := .append) (xs := #[.tmp 61, .tmp 62]) rfl ?_); at_builtin; refine wpList_vals _ rfl (.tmp 61) (.tmp 62) 36 22 rfl Try.underlying36 (.slice none 0 0) 24 (by kernel_rfl) rfl (by decide) _ vs rfl HE.out.1 _ us rfl HT.out.1 (HT.out.2.1.one RwR.fit) HLU.out ?_; intro v3 w3 hr3; obtain ⟨Ot3, m5⟩ := HM2.out.1.app HE.out.2.1 HE.out.2.2 HT.out.2.1 HT.out.2.2 HM2.out.2.1 HM2.out.2.2 hr3; have HM3 := Aside0.mk m5; clear hr3 m5) | (go_at_call 10; refine (num.calls _ _).mono ?_; rintro e w5 ⟨rfl, rfl⟩) | ((with_reducible refine gate_builtin (b := .append) (xs := #[.tmp 64, .tmp 67]) rfl ?_); at_builtin; refine wpList_gen2 _ rfl (.tmp 64) (.tmp 67) 23 3 rfl Try.underlying23 (.int .i64 0) 8 (by kernel_rfl) rfl (by decide) _ (el.map (Value.int .i64)) rfl ?hv ⟨_, 0, none⟩ (.int .i64 (ParS.run q r).broken) rfl ?hc rfl ?hb ?_; (case hv => exact HM3.out.re.upd (S := none_) (Upd.of_below (below_alloc (Below.refl _ _) _)) (fun _ _ h => h)); (case hc => exact cell_one_new _ _ _ 0 _ rfl); (case hb => rw [List.length_map]; exact HEL.out); intro v4 w4 hr4; have HM4 := Aside0.mk (HM3.out.err (below_alloc (Below.refl _ _) _) hr4); clear hr4))
          exact ⟨⟨ParS.feed q r, [], _, _, _, _, _, _, _, _, _, o, k + 1, rfl, by rw [Int.natCast_succ], ⟨FM.empty HM4.out, HP.out⟩⟩, by have := HMS.out; simp only [intOf]; omega⟩
      · have hkk : k < (cuts.take 4095).length := by omega
        obtain ⟨ad, kv, rfl, hx, hkv⟩ := HCU.out wr HR.out.1.bel k (by omega)
        have hks : (cuts.take 4095)[k]? = some kv := by rw [List.getElem?_take, if_pos (by omega)]; exact hkv
        have h3 : (k : Int) < (cuts.length : Int) := by omega
        have h4 : (k : Int) + 1 < 4096 := by omega
        have h5 : (0 : Int) ≤ (k : Int) := by omega
        obtain ⟨m, hm⟩ : ∃ m : Nat, m = (win kv).toNat := ⟨_, rfl⟩
        have hwm : win kv = (m : Int) := by have := win_le kv; omega
        have HWI : Aside0 (Calls Try.prog 7 #[.int .i64 kv, .int .i64 64] wr fun en w' => en = .returned (.int .i64 (m : Int)) ∧ w' = wr) := ⟨by rw [← hwm]; exact within.calls kv wr⟩
        have HMS : Aside0 (5000 - (k + 1) < 5000 - k) := ⟨by omega⟩
        by_cases hmr : m < r.length
        · have hfd := feed.calls HR.out.1.pm HR.out.2.inv HR.out.2.cur HR.out.2.out HR.out.2.hd0 (some ⟨gd, o, none⟩) r.length (r.take m) (C_take HR.out.1.cd (by omega)) (fun x hx => HR.out.2.ri x (List.mem_of_mem_take hx)) (fun ad e => by obtain rfl := Option.some.inj e; exact ⟨(by have := HR.out.1.one gd; rw [if_pos rfl] at this; omega : PO W.heap.size Oa Oc Oo gd = 0), HR.out.1.gd0.2⟩) (by rw [List.length_take]; omega) (by have := HR.out.2.hd; omega)
          rw [List.length_take, Nat.min_eq_left (by omega)] at hfd
          have HFD := Aside0.mk hfd
          have HLEN : Aside0 (ol.length ≤ 70000000 ∧ (ParS.run q (r.take m)).out.length ≤ 70000000) := ⟨by have := run_le (r.take m) (p := q) HR.out.2.hd0; rw [HR.out.2.out, List.length_nil, List.length_take] at this; omega⟩
          have HP := Aside0.mk (HR.out.2.piece (n := m) hks (by omega))
          have hm1 : (m : Int) < (r.length : Int) := by omega
          have hm2 : ¬ r.length = m := by omega
          have HMR : Aside0 (m ≤ r.length) := ⟨by omega⟩
          have HDL : Aside0 ((r.drop m).length = r.length - m) := ⟨List.length_drop ..⟩
          subst eo ee
          clear hfd hlast hrl hoo hkl hdl hrun HR hkk hkv hks hm hwm
          go_wp2_with (first | (go_at_call 7; refine HWI.out.mono ?_; rintro e w6 ⟨rfl, rfl⟩) | (go_at_call 13; go_must (refine HFD.out.mono ?_; rintro e w2 ⟨vt, rfl, hfq⟩; obtain ⟨va', vc', vx', Oa', Oc', Oo', Ott, m1, m2, m3, m4⟩ := HM.out.fed hfq; obtain ⟨vs, O1, g1, g2, g3⟩ := m1.ro; obtain ⟨us, O2, g4, g5, g6⟩ := m2; obtain ⟨At, ct, et⟩ := g4.slice; have HM2 := Aside0.mk (And.intro m1 (And.intro m3 m4)); have HE := Aside0.mk (And.intro g1 (And.intro g2 g3)); have HT := Aside0.mk (And.intro g4 (And.intro g5 g6)); have HLU : Aside0 (vs.length + us.length ≤ 1000000000) := (⟨by have e1 := g2.len; have e2 := g5.len; have := HLEN.out; omega⟩); subst et; clear hfq m1 m3 m4 g1 g2 g3 g4 g5 g6)) | ((with_reducible refine gate_builtin (b := .append) (xs := #[.tmp 61, .tmp 62]) rfl ?_); at_builtin; refine wpList_vals _ rfl (.tmp 61) (.tmp 62) 36 22 rfl Try.underlying36 (.slice none 0 0) 24 (by kernel_rfl) rfl (by decide) _ vs rfl HE.out.1 _ us rfl HT.out.1 (HT.out.2.1.one RwR.fit) HLU.out ?_; intro v3 w3 hr3; obtain ⟨Ot3, m5⟩ := HM2.out.1.app HE.out.2.1 HE.out.2.2 HT.out.2.1 HT.out.2.2 HM2.out.2.1 HM2.out.2.2 hr3; have HM3 := Aside0.mk m5; clear hr3 m5) | (go_at_call 10; refine (num.calls _ _).mono ?_; rintro e w5 ⟨rfl, rfl⟩) | ((with_reducible refine gate_builtin (b := .append) (xs := #[.tmp 64, .tmp 67]) rfl ?_); at_builtin; refine wpList_gen2 _ rfl (.tmp 64) (.tmp 67) 23 3 rfl Try.underlying23 (.int .i64 0) 8 (by kernel_rfl) rfl (by decide) _ (el.map (Value.int .i64)) rfl ?hv ⟨_, 0, none⟩ (.int .i64 (ParS.run q (r.take m)).broken) rfl ?hc rfl ?hb ?_; (case hv => exact HM3.out.re.upd (S := none_) (Upd.of_below (below_alloc (Below.refl _ _) _)) (fun _ _ h => h)); (case hc => exact cell_one_new _ _ _ 0 _ rfl); (case hb => rw [List.length_map]; exact HEL.out); intro v4 w4 hr4; have HM4 := Aside0.mk (HM3.out.err (below_alloc (Below.refl _ _) _) hr4); clear hr4))
          exact ⟨⟨ParS.feed q (r.take m), r.drop m, _, _, _, _, _, _, _, _, _, o + m, k + 1, by rw [HDL.out], by rw [Int.natCast_succ], ⟨HM4.out.cut HMR.out, HP.out⟩⟩, by have := HMS.out; simp only [intOf]; omega⟩
        · have hfd := feed.calls HR.out.1.pm HR.out.2.inv HR.out.2.cur HR.out.2.out HR.out.2.hd0 (some ⟨gd, o, none⟩) r.length r HR.out.1.cd (fun x hx => HR.out.2.ri x (hx)) (fun ad e => by obtain rfl := Option.some.inj e; exact ⟨(by have := HR.out.1.one gd; rw [if_pos rfl] at this; omega : PO W.heap.size Oa Oc Oo gd = 0), HR.out.1.gd0.2⟩) (by omega) (by have := HR.out.2.hd; omega)
          have HFD := Aside0.mk hfd
          have HLEN : Aside0 (ol.length ≤ 70000000 ∧ (ParS.run q r).out.length ≤ 70000000) := ⟨by have := run_le r (p := q) HR.out.2.hd0; rw [HR.out.2.out, List.length_nil] at this; omega⟩
          have hp := HR.out.2.piece (n := r.length) hks (by omega)
          rw [List.take_length, List.drop_length] at hp
          have HP := Aside0.mk hp
          have hm1 : ¬ (m : Int) < (r.length : Int) := by omega
          subst eo ee
          clear hfd hlast hrl hoo hkl hdl hrun HR hkk hkv hks hm hwm hp
          go_wp2_with (first | (go_at_call 7; refine HWI.out.mono ?_; rintro e w6 ⟨rfl, rfl⟩) | (go_at_call 13; go_must (refine HFD.out.mono ?_; rintro e w2 ⟨vt, rfl, hfq⟩; obtain ⟨va', vc', vx', Oa', Oc', Oo', Ott, m1, m2, m3, m4⟩ := HM.out.fed hfq; obtain ⟨vs, O1, g1, g2, g3⟩ := m1.ro; obtain ⟨us, O2, g4, g5, g6⟩ := m2; obtain ⟨At, ct, et⟩ := g4.slice; have HM2 := Aside0.mk (And.intro m1 (And.intro m3 m4)); have HE := Aside0.mk (And.intro g1 (And.intro g2 g3)); have HT := Aside0.mk (And.intro g4 (And.intro g5 g6)); have HLU : Aside0 (vs.length + us.length ≤ 1000000000) := (⟨by have e1 := g2.len; have e2 := g5.len; have := HLEN.out; omega⟩); subst et; clear hfq m1 m3 m4 g1 g2 g3 g4 g5 g6)) | ((with_reducible refine gate_builtin (b := .append) (xs := #[.tmp 61, .tmp 62]) rfl ?_); at_builtin; refine wpList_vals _ rfl (.tmp 61) (.tmp 62) 36 22 rfl Try.underlying36 (.slice none 0 0) 24 (by kernel_rfl) rfl (by decide) _ vs rfl HE.out.1 _ us rfl HT.out.1 (HT.out.2.1.one RwR.fit) HLU.out ?_; intro v3 w3 hr3; obtain ⟨Ot3, m5⟩ := HM2.out.1.app HE.out.2.1 HE.out.2.2 HT.out.2.1 HT.out.2.2 HM2.out.2.1 HM2.out.2.2 hr3; have HM3 := Aside0.mk m5; clear hr3 m5) | (go_at_call 10; refine (num.calls _ _).mono ?_; rintro e w5 ⟨rfl, rfl⟩) | ((with_reducible refine gate_builtin (b := .append) (xs := #[.tmp 64, .tmp 67]) rfl ?_); at_builtin; refine wpList_gen2 _ rfl (.tmp 64) (.tmp 67) 23 3 rfl Try.underlying23 (.int .i64 0) 8 (by kernel_rfl) rfl (by decide) _ (el.map (Value.int .i64)) rfl ?hv ⟨_, 0, none⟩ (.int .i64 (ParS.run q r).broken) rfl ?hc rfl ?hb ?_; (case hv => exact HM3.out.re.upd (S := none_) (Upd.of_below (below_alloc (Below.refl _ _) _)) (fun _ _ h => h)); (case hc => exact cell_one_new _ _ _ 0 _ rfl); (case hb => rw [List.length_map]; exact HEL.out); intro v4 w4 hr4; have HM4 := Aside0.mk (HM3.out.err (below_alloc (Below.refl _ _) _) hr4); clear hr4))
          exact ⟨⟨ParS.feed q r, [], _, _, _, _, _, _, _, _, _, o, k + 1, rfl, by rw [Int.natCast_succ], ⟨FM.empty HM4.out, HP.out⟩⟩, by have := HMS.out; simp only [intOf]; omega⟩
    · have hk1 : k = (cuts.take 4095).length + 1 := by rcases HR.out.2.eq with ⟨h, _⟩ | ⟨h, _⟩ <;> omega
      have hfin : fedL ParS.new d (cuts.take 4095) = (q, ol, el) := by
        rcases HR.out.2.eq with ⟨h, _⟩ | ⟨_, h⟩
        · omega
        · exact h
      have HFIN := Aside0.mk hfin
      have hcase : ¬ (k : Int) ≤ (cuts.length : Int) ∨ (k : Int) ≤ (cuts.length : Int) ∧ ¬ (k : Int) < 4096 := by omega
      clear hk1 hfin hkl hdl hrun
      rcases hcase with h3 | ⟨h3, h4⟩
      · go_wp2_with fail
        go_ret3
        exact ⟨_, _, _, _, _, _, _, _, _, _, _, _, _, _, _, _, HFIN.out, rfl, HR.out.1⟩
      · go_wp2_with fail
        go_ret3
        exact ⟨_, _, _, _, _, _, _, _, _, _, _, _, _, _, _, _, HFIN.out, rfl, HR.out.1⟩
end Go.Proofs.Ytfdkcnbkoagmiaa.FedX
