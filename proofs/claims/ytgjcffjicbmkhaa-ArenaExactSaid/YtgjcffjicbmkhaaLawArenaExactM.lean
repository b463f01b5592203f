-- JOINED by tailmerge3.py: PFx6 FlipW XrS XrL7 XrT XrL8 XrL10 XrL11 XrL12 XrX XrY XrZ XrA LawArenaExact
import Derived.Test.YtgjcffjicbmkhaaLawArenaExactM2
import Derived.Test.YtgjcffjicbmkhaaPFx0
import Derived.Deep.CutBlock
import Derived.Deep.DeepCutAuto
import Derived.Deep.DeepMust
import Derived.Test.YtgjcffjicbmkhaaRows
import Derived.WalkKit
import Derived.ProofKit
import Derived.OpenShut
import Derived.ShutString
import Derived.ChangeOld
import Derived.Below
import Derived.SizedLaws

section
namespace Go.Proofs.Ytgjcffjicbmkhaa.PF
open Go.RowKit Go.Proofs.YtgjcffjicbmkhaaW.PrintWords Go.Proofs.YtgjcffjicbmkhaaW.PrintLast Go.Proofs.YtgjcffjicbmkhaaW.PrintMore
attribute [local go_sem] max2_int min2_int max_two min_two max_three min_three max_four min_four   -- for this text's walks alone
set_option linter.unusedVariables false
set_option linter.unusedSimpArgs false
def larderlaw2_flipped.l0 : Nat → List Int → List Int → Int → Option (List Int)
  | 0, _, _, _ => none
  | k + 1, x0, x3, x4 => if x4 < (x0.length : Int) then (if 0 ≤ x4 then (if x4 < (x3.length : Int) then (larderlaw2_flipped.l0 k x0 (x3.set (x4 : Int).toNat (Go.bits .xor .u8 (rd x0 x4) 85)) (wrap64 (x4 + 1))) else (none)) else (none)) else (some x3)
def larderlaw2_flipped.f (k : Nat) (l0 : List Int) : Option (List Int) := if 0 ≤ (l0.length : Int) then (if ((l0.length : Int) : Int).toNat ≤ 281474976710656 then (larderlaw2_flipped.l0 k l0 (List.replicate ((l0.length : Int) : Int).toNat 0) 0) else (none)) else (none)
theorem larderlaw2_flipped.mono_l : ∀ k, (∀ y0 y1 y2, LeO (larderlaw2_flipped.l0 k y0 y1 y2) (larderlaw2_flipped.l0 (k + 1) y0 y1 y2))
  | 0 => fun _ _ _ r h => by simp [larderlaw2_flipped.l0] at h
  | k + 1 => by
    have ih0 := larderlaw2_flipped.mono_l k
    · intro y0 y1 y2
      unfold larderlaw2_flipped.l0
      repeat' first
      | (with_reducible exact ih0 _ _ _)
      | (with_reducible exact LeO.refl _)
      | (with_reducible exact LeO.none _)
      | (with_reducible refine LeO.ite ?_ ?_)
      | (with_reducible refine LeO.bind ?_ (fun _ => ?_))
      | exact ih0 _ _ _
      | exact LeO.none _
      | refine LeO.ite ?_ ?_
      | refine LeO.bind ?_ (fun _ => ?_)
theorem larderlaw2_flipped.mono : ∀ a0 k, LeO (larderlaw2_flipped.f k a0) (larderlaw2_flipped.f (k + 1) a0) := by
  intro a0 k
  have ih0 := larderlaw2_flipped.mono_l k
  unfold larderlaw2_flipped.f
  repeat' first
      | (with_reducible exact ih0 _ _ _)
      | (with_reducible exact LeO.refl _)
      | (with_reducible exact LeO.none _)
      | (with_reducible refine LeO.ite ?_ ?_)
      | (with_reducible refine LeO.bind ?_ (fun _ => ?_))
      | exact ih0 _ _ _
      | exact LeO.none _
      | refine LeO.ite ?_ ?_
      | refine LeO.bind ?_ (fun _ => ?_)
set_option maxHeartbeats 8000000 in
set_option maxRecDepth 100000 in
theorem larderlaw2_flipped.calls (k : Nat) (A0 : Option Addr) (c0 : Nat) (l0 : List Int) (r : List Int) (w : World) (hr0 : Kd.C (Kd.int .u8) w A0 l0.length l0) (hc0 : l0.length ≤ c0) (h : larderlaw2_flipped.f k l0 = some r) :
    Calls Try.prog 60 #[.slice A0 l0.length c0] w fun e w' => ∃ v0_ : Value, e = .returned (v0_) ∧ Kd.R (Kd.int .u8) 5 w' w.heap.size (fun _ => True) v0_ r ∧ Below w.heap.size w w' := by
  have HR0 := Aside0.mk hr0
  have HC0 := Aside0.mk hc0
  clear hr0 hc0
  have HB := Aside0.mk (Below.refl w.heap.size w)
  have H : (if 0 ≤ (l0.length : Int) then (if ((l0.length : Int) : Int).toNat ≤ 281474976710656 then (larderlaw2_flipped.l0 k l0 (List.replicate ((l0.length : Int) : Int).toNat 0) 0) else (none)) else (none)) = some r := h
  clear h
  by_cases c2 : 0 ≤ (l0.length : Int)
  · rw [if_pos c2] at H
    have c2b0 := eq_true c2
    have c2b1 : decide (0 ≤ (l0.length : Int)) = true := decide_eq_true c2
    clear c2
    by_cases c3 : ((l0.length : Int) : Int).toNat ≤ 281474976710656
    · rw [if_pos c3] at H
      have c3b0 := eq_true c3
      have c3b1 : decide (((l0.length : Int) : Int).toNat ≤ 281474976710656) = true := decide_eq_true c3
      clear c3
      obtain ⟨y116, hy116⟩ : ∃ y_ : List Int, y_ = (List.replicate ((l0.length : Int) : Int).toNat 0) := ⟨_, rfl⟩
      replace H : (larderlaw2_flipped.l0 k l0 y116 0) = some r := by first | (rw [hy116]; with_reducible exact H) | (have H2_ := (Option.bind_some _ _).symm.trans H; rw [hy116]; with_reducible exact H2_) | (have H2_ := (Option.bind_some _ _).symm.trans H; with_reducible exact H2_) | with_reducible exact H | (rw [hy116]; exact H) | exact H
      have Ny116 := Aside0.mk hy116
      clear hy116
      have H' := Aside0.mk H
      clear H
      go_enter Try.func60, Try.ntmps60
      go_wp2_with (first | ((with_reducible refine gate_dst (N := 7) rfl ?_); refine Kd.R_make (Kd.int .u8) _ 5 rfl (N := 7) rfl 67 _ _ rfl (l0.length : Int) rfl rfl Try.underlying67 (.int .u8 0) 1 info5 rfl (by decide) (by omega) 0 (ok := fun _ => True) (okp := fun _ => True) rfl (fun _ hk => hk) trivial (of_decide_eq_true (by first | (with_reducible assumption) | assumption)) (Nat.le_trans (Nat.mul_le_mul_right _ (of_decide_eq_true (by first | (with_reducible assumption) | assumption) : (l0.length : Int).toNat ≤ 281474976710656)) (by omega)) (Below.refl _ _) (Nat.le_refl _) ?_; intro v117 w4 ho5 hb hg_ hnew_; clear hg_ hnew_; (first | rw [← Ny116.out] at ho5 | (simp only [Int.reduceToNat] at ho5; rw [← Ny116.out] at ho5)); have n0_ := Aside0.mk (Kd.R_lower ho5 (below_size (by repeat (first | (with_reducible first | exact HB.out | apply below_alloc | apply pw_below_drewN | apply below_drew1) | exact HB.out)))); have n1_ := Aside0.mk (below_step (by repeat (first | (with_reducible first | exact HB.out | apply below_alloc | apply pw_below_drewN | apply below_drew1) | exact HB.out)) hb); clear HB; have HO118 := n0_; have HB := n1_; clear n0_ n1_; clear hb ho5))
      go_loopg [4] k (fun kq v4 w' => ∃ (x3_1 : List Int) (x4_1 : Int), v4 = .int .i64 x4_1 ∧ Aside0 (larderlaw2_flipped.l0 kq l0 x3_1 x4_1 = some r) ∧ Aside0 (kq ≤ k) ∧ Aside0 (Kd.R (Kd.int .u8) 5 w' w.heap.size (fun _ => True) v117 x3_1) ∧ Aside0 (Below w.heap.size w w'))
      case atStart => exact ⟨(y116), (0), (by first | rfl | (simp; done) | (simp [*]; done)), H', ⟨Nat.le_refl _⟩, ⟨by (with_reducible repeat (first | apply Kd.R_alloc | apply Kd.R_drewN | apply Kd.R_drew)); exact HO118.out⟩, ⟨by repeat (first | (with_reducible first | exact HB.out | apply below_alloc | apply pw_below_drewN | apply below_drew1) | exact HB.out)⟩⟩
      case round =>
        clear H'
        try clear c2
        try clear c2b0
        try clear c2b1
        try clear p2
        try clear c3
        try clear c3b0
        try clear c3b1
        obtain ⟨x3_1, x4_1, rfl, HA, HK1, HO_3, HB⟩ := hrel
        cases gk with
        | zero => exact absurd HA.out (by simp [larderlaw2_flipped.l0])
        | succ k1 =>
          have H := HA.out
          clear HA
          simp only [larderlaw2_flipped.l0] at H
          by_cases c6 : x4_1 < (l0.length : Int)
          · rw [if_pos c6] at H
            have c6b0 : decide (x4_1 < (l0.length : Int)) = true := decide_eq_true c6
            clear c6
            by_cases c7 : 0 ≤ x4_1
            · rw [if_pos c7] at H
              have c7b0 : decide (0 ≤ x4_1) = true := decide_eq_true c7
              clear c7
              by_cases c8 : x4_1 < (x3_1.length : Int)
              · rw [if_pos c8] at H
                have c8b0 : decide (x4_1 < (x3_1.length : Int)) = true := decide_eq_true c8
                clear c8
                obtain ⟨y120, hy120⟩ : ∃ y_ : List Int, y_ = (x3_1.set (x4_1 : Int).toNat (Go.bits .xor .u8 (rd l0 x4_1) 85)) := ⟨_, rfl⟩
                replace H : (larderlaw2_flipped.l0 k1 l0 y120 (wrap64 (x4_1 + 1))) = some r := by first | (rw [hy120]; with_reducible exact H) | (have H2_ := (Option.bind_some _ _).symm.trans H; rw [hy120]; with_reducible exact H2_) | (have H2_ := (Option.bind_some _ _).symm.trans H; with_reducible exact H2_) | with_reducible exact H | (rw [hy120]; exact H) | exact H
                have Ny120 := Aside0.mk hy120
                clear hy120
                have H' := Aside0.mk H
                clear H
                have p119 : 0 ≤ (x4_1 : Int) := of_decide_eq_true (by first | (with_reducible assumption) | assumption)
                have q119 : x4_1 < (l0.length : Int) := of_decide_eq_true (by first | (with_reducible assumption) | assumption)
                obtain ⟨ad119, e119, hx119_0⟩ := Kd.at_int HR0.out x4_1 p119 q119
                cases e119
                replace hx119_0 := (HB.out.cell (World.block_lt_of_cell? w _ hx119_0)).trans hx119_0
                replace p119 := eq_true p119
                replace q119 := eq_true q119
                have p9 : 0 ≤ (x4_1 : Int) := of_decide_eq_true (by first | (with_reducible assumption) | assumption)
                have q9 : (x4_1 : Int) < ((x3_1.length : Int) : Int) := of_decide_eq_true (by first | (with_reducible assumption) | assumption)
                obtain ⟨go9, co9, eo9, gb9, gl9, cl9, HG9⟩ := Kd.R_form HO_3.out (by omega)
                (first | cases eo9 | (injection eo9 with ea_ en_ ec_; (first | subst ea_ | (injection ea_ with ea_; subst ea_)); subst ec_; clear en_))
                have GB9 := Aside0.mk gb9
                have GG9 := Aside0.mk HG9
                clear gb9 gl9 HG9
                obtain ⟨hx9_0, hf9_0⟩ := Kd.R_celln 0 HO_3.out (x4_1 : Int) p9 q9
                replace p9 := eq_true p9
                replace q9 := eq_true q9
                have HP10 := Kd.R_putg HO_3.out (x4_1 : Int) (Go.bits .xor .u8 (rd l0 x4_1) 85)
                go_wp2_with (first | ((with_reducible refine gate_store (t := 5) (p := 21) rfl ?_); refine store_event (t := 5) (p := 21) (v := ?vo_w11) (w1 := (wr.setCell ⟨go9, (x4_1 : Int).toNat, none⟩ (.int .u8 (Go.bits .xor .u8 (rd l0 x4_1) 85)))) ?hg ?ho ?hn ?hr ?_; (case ho => rfl); (case hg => rfl); (case hn => rfl); (case hr => first | (go_simp; done) | (go_simp; rfl)); intro w11 hw; have hg : wr.grownBy w11 (some go9) := (by rw [hw]; exact HP10.2); have hp_ : Kd.R (Kd.int .u8) 5 w11 w.heap.size (fun _ => True) (.slice (some ⟨go9, 0, none⟩) x3_1.length co9) y120 := (by rw [hw, Ny120.out]; exact HP10.1); clear HP10; have n0_ := Aside0.mk (hp_); have n1_ := Aside0.mk ((by rw [hw]; exact below_set (HB.out) GB9.out : Below w.heap.size w w11)); clear HO_3; clear HB; have HO_3 := n0_; have HB := n1_; clear n0_ n1_; clear hg hw hp_))
                go_roundg k1
                case measure => have := HK1.out; omega
                case rel => exact ⟨(y120), (wrap64 (x4_1 + 1)), (by first | rfl | (simp; done) | (simp [*]; done)), H', ⟨by have := HK1.out; omega⟩, ⟨by (with_reducible repeat (first | apply Kd.R_alloc | apply Kd.R_drewN | apply Kd.R_drew)); exact HO_3.out⟩, ⟨by repeat (first | (with_reducible first | exact HB.out | apply below_alloc | apply pw_below_drewN | apply below_drew1) | exact HB.out)⟩⟩
              · rw [if_neg c8] at H
                exact absurd H (by simp)
            · rw [if_neg c7] at H
              exact absurd H (by simp)
          · rw [if_neg c6] at H
            have c6b0 : decide (x4_1 < (l0.length : Int)) = false := decide_eq_false c6
            clear c6
            obtain rfl := Option.some.inj H
            go_wp2
            go_ret
            exact ⟨_, by first | rfl | (simp [errW_none, errW_some] <;> rfl) | (simp [*, errW_none, errW_some] <;> rfl), by (with_reducible repeat (first | apply Kd.R_alloc | apply Kd.R_drewN | apply Kd.R_drew)); exact HO_3.out, by repeat (first | (with_reducible first | exact HB.out | apply below_alloc | apply pw_below_drewN | apply below_drew1) | exact HB.out)⟩
    · rw [if_neg c3] at H
      exact absurd H (by simp)
  · rw [if_neg c2] at H
    exact absurd H (by simp)
end Go.Proofs.Ytgjcffjicbmkhaa.PF
end

section
namespace Go.Proofs.Ytgjcffjicbmkhaa.FlipW
open Go Go.RowKit Go.Proofs.YtgjcffjicbmkhaaW.PrintWords Go.Proofs.YtgjcffjicbmkhaaW.PrintLast Go.Proofs.YtgjcffjicbmkhaaW.PrintMore Go.Proofs.Ytgjcffjicbmkhaa.RowU Go.Proofs.Ytgjcffjicbmkhaa.ArM Go.Proofs.Ytgjcffjicbmkhaa.GenM Go.Proofs.Ytgjcffjicbmkhaa.PF Go.Proofs.Ytgjcffjicbmkhaa.MemO Go.Proofs.Ytgjcffjicbmkhaa.FreM Go.Proofs.Ytgjcffjicbmkhaa.XrG
set_option linter.unusedVariables false
set_option maxRecDepth 100000
def inB (l : List Int) : Prop := ∀ c ∈ l, 0 ≤ c ∧ c < 256
theorem wf8 {x : Int} (h : (Lit.int .u8 x).wf = true) : 0 ≤ x ∧ x < 256 := by
  simp [Lit.wf, IntKind.min, IntKind.max, IntKind.signed, IntKind.bits] at h; omega
theorem flip_ev (l : List Int) (hn : l.length ≤ 140737488355328) (d : Nat) : ∀ (i : Nat) (x3 : List Int), i + d = l.length → x3.length = l.length → inB x3 → ∃ r, Ev (fun k => larderlaw2_flipped.l0 k l x3 i) r ∧ r.length = l.length ∧ inB r := by
  induction d with
  | zero =>
    intro i x3 hi hl hb
    exact ⟨x3, Ev.step (f := fun _ => some x3) (fun k => by simp only [larderlaw2_flipped.l0]; rw [if_neg (by omega)]) (Ev.now _), hl, hb⟩
  | succ d ih =>
    intro i x3 hi hl hb
    obtain ⟨r, h1, h2, h3⟩ := ih (i + 1) (x3.set i (Go.bits .xor .u8 (rd l i) 85)) (by omega) (by rw [List.length_set]; exact hl) (fun c hc => by
      rcases List.mem_or_eq_of_mem_set hc with h | h
      · exact hb c h
      · subst h; exact wf8 (wf_bits _ _ _ _))
    have hw : wrap64 ((i : Int) + 1) = ((i + 1 : Nat) : Int) := by unfold wrap64; omega
    refine ⟨r, Ev.step (f := fun k => larderlaw2_flipped.l0 k l (x3.set i (Go.bits .xor .u8 (rd l i) 85)) ((i + 1 : Nat) : Int)) (fun k => ?_) h1, h2, h3⟩
    simp only [larderlaw2_flipped.l0]
    rw [if_pos (by omega), if_pos (by omega), if_pos (by omega), hw, Int.toNat_natCast]
theorem flip_ex (l : List Int) (hn : l.length ≤ 140737488351232) : ∃ r, Ev (fun k => larderlaw2_flipped.f k l) r ∧ r.length = l.length ∧ inB r := by
  obtain ⟨r, h1, h2, h3⟩ := flip_ev l (by omega) l.length 0 (List.replicate l.length 0) (by omega) (by simp) (fun c hc => by rw [List.mem_replicate] at hc; omega)
  refine ⟨r, Ev.congr (fun k => ?_) h1, h2, h3⟩
  unfold larderlaw2_flipped.f
  rw [if_pos (by omega), if_pos (by omega), Int.toNat_natCast]
  rfl
theorem nat_of (l : List Int) (h : inB l) : ∃ fl : List Nat, l = fl.map Int.ofNat ∧ ∀ c ∈ fl, c < 256 := by
  refine ⟨l.map Int.toNat, ?_, fun c hc => ?_⟩
  · rw [List.map_map]
    conv => lhs; rw [← List.map_id l]
    apply List.map_congr_left
    intro c hc
    have := h c hc
    show c = Int.ofNat c.toNat
    show c = (c.toNat : Int)
    omega
  · obtain ⟨x, hx, rfl⟩ := List.mem_map.1 hc
    have := h x hx
    omega
def Rd8 (w : World) (Ad : Option Addr) (bs : List Nat) : Prop := ∀ (i c : Nat), bs[i]? = some c → ∃ ad, Ad = some ad ∧ w.cell? (ad.add i) = some (.int .u8 (c : Int))
theorem Rd8.C {w : World} {Ad : Option Addr} {bs : List Nat} (h : Rd8 w Ad bs) (hn : bs.length ≤ 9000000000000000) : (Kd.int .u8).C w Ad (bs.map Int.ofNat).length (bs.map Int.ofNat) := by
  refine ⟨rfl, by rw [List.length_map]; omega, fun h0 => ?_⟩
  rw [List.length_map] at h0
  obtain ⟨ad, e, _⟩ := h 0 bs[0] (List.getElem?_eq_getElem h0)
  refine ⟨ad, e, fun j p hp => ⟨[.int .u8 p], rfl, rfl, fun i u hu => ?_⟩⟩
  cases i with
  | zero =>
    simp at hu
    subst hu
    rw [List.getElem?_map] at hp
    obtain ⟨y, hy, rfl⟩ := Option.map_eq_some_iff.1 hp
    obtain ⟨ad', e', hc⟩ := h j y hy
    rw [e] at e'
    obtain rfl := Option.some.inj e'
    show w.cell? (ad.add (j * 1 + 0)) = _
    rw [Nat.mul_one, Nat.add_zero]
    exact hc
  | succ i => simp at hu
theorem ints_b8 (fl : List Nat) : (fl.map Int.ofNat).map (Value.int .u8) = b8 fl := by unfold b8; rw [List.map_map]; rfl
def FlA (wq w' : World) (fl : List Nat) (nb : Nat) (e : Ending) : Prop := ∃ A c, e = .returned (.slice A nb c) ∧ GV 5 w' (.slice A nb c) (b8 fl) ∧ (∀ b, (Value.slice A nb c).ownBlock = some b → wq.heap.size ≤ b) ∧ Below wq.heap.size wq w'
theorem flip_calls (bs : List Nat) (hn : bs.length ≤ 140737488351232) (Ad : Option Addr) (cd : Nat) (hc : bs.length ≤ cd) : ∃ fl : List Nat, fl.length = bs.length ∧ (∀ c ∈ fl, c < 256) ∧ ∀ w, Rd8 w Ad bs → Calls Try.prog 60 #[.slice Ad bs.length cd] w fun e w' => FlA w w' fl bs.length e := by
  obtain ⟨r, h1, h2, h3⟩ := flip_ex (bs.map Int.ofNat) (by rw [List.length_map]; exact hn)
  obtain ⟨k, hk⟩ := Ev.rounds h1
  obtain ⟨fl, hfl, hf⟩ := nat_of r h3
  have hll : fl.length = bs.length := by rw [hfl, List.length_map, List.length_map] at h2; exact h2
  refine ⟨fl, hll, hf, fun w hw => ?_⟩
  have h5 := larderlaw2_flipped.calls k Ad cd (bs.map Int.ofNat) r w (hw.C (by omega)) (by rw [List.length_map]; exact hc) hk
  rw [List.length_map] at h5
  refine h5.mono ?_
  rintro e w' ⟨v, rfl, hR, hb⟩
  obtain ⟨g1, g2⟩ := gv_of_R hR
  rw [hfl, ints_b8] at g1
  obtain ⟨A, c, rfl⟩ := g1.slice
  have e : (b8 fl).length = bs.length := by unfold b8; rw [List.length_map, hll]
  rw [e] at g1 g2 ⊢
  exact ⟨A, c, rfl, g1, g2, hb⟩
theorem rd8_gv {w : World} {A : Option Addr} {nb c : Nat} {fl : List Nat} (h : GV 5 w (.slice A nb c) (b8 fl)) : Rd8 w A fl := by
  intro i x hx
  have h5 : (b8 fl)[i]? = some (.int .u8 (x : Int)) := by unfold b8; rw [List.getElem?_map, hx]; rfl
  obtain ⟨g, cap, e, hc⟩ := h.get i _ h5
  simp only [Value.slice.injEq] at e
  exact ⟨⟨g, 0, none⟩, e.1, by rw [Addr.add_lit, Nat.zero_add]; exact hc⟩
end Go.Proofs.Ytgjcffjicbmkhaa.FlipW
end

section
namespace Go.Proofs.Ytgjcffjicbmkhaa.XrS
open Go Go.RowKit Go.Proofs.YtgjcffjicbmkhaaW.PrintWords Go.Proofs.Ytgjcffjicbmkhaa.RowU Go.Proofs.Ytgjcffjicbmkhaa.ArS Go.Proofs.Ytgjcffjicbmkhaa.ArM Go.Proofs.Ytgjcffjicbmkhaa.GenM Go.Proofs.Ytgjcffjicbmkhaa.BokA Go.Proofs.Ytgjcffjicbmkhaa.ArP Go.Proofs.Ytgjcffjicbmkhaa.ArQ Go.Proofs.Ytgjcffjicbmkhaa.RfM Go.Proofs.Ytgjcffjicbmkhaa.RfV Go.Proofs.Ytgjcffjicbmkhaa.XrM Go.Proofs.Ytgjcffjicbmkhaa.XrN Go.Proofs.Ytgjcffjicbmkhaa.XrP Go.Proofs.Ytgjcffjicbmkhaa.XrG Go.Proofs.Ytgjcffjicbmkhaa.FlipW
set_option linter.unusedVariables false
set_option maxRecDepth 100000
variable {W wr w' : World} {gW : Nat} {q : XQ} {n : Nat}
theorem _root_.Go.Proofs.Ytgjcffjicbmkhaa.XrP.Keep.then2 {w'' : World} (h : Keep q gW wr w') (hk : Keep q gW w' w'') : Keep q gW wr w'' := Upd.trans h (hk.mono (fun b hb => hb.imp id (fun h1 => Nat.le_trans h.size h1)))
theorem rd8_at (h : XC W wr gW q n) {Ad : Option Addr} {bs : List Nat} (hr : Rd8 W Ad bs) : ∀ (i c : Nat), bs[i]? = some c → ∃ ad, Ad = some ad ∧ wr.cell? (ad.add i) = some (.int .u8 (c : Int)) ∧ ¬ q.mine gW (ad.add i).block := fun i c hc => by
  obtain ⟨ad, e, h1⟩ := hr i c hc
  have hlt := World.block_lt_of_cell? _ _ h1
  exact ⟨ad, e, (h.bel.cell hlt).trans h1, fun hm => by have := (h.old _ hm).1; omega⟩
theorem rd8_new (h : XC W wr gW q n) (hb : Below wr.heap.size wr w') {A : Option Addr} {nb c : Nat} {fl : List Nat} (hg : GV 5 w' (.slice A nb c) (b8 fl)) (ho : ∀ b, (Value.slice A nb c).ownBlock = some b → wr.heap.size ≤ b) : ∀ (i x : Nat), fl[i]? = some x → ∃ ad, A = some ad ∧ w'.cell? (ad.add i) = some (.int .u8 (x : Int)) ∧ ¬ q.mine gW (ad.add i).block := fun i x hx => by
  have h5 : (b8 fl)[i]? = some (.int .u8 (x : Int)) := by unfold b8; rw [List.getElem?_map, hx]; rfl
  obtain ⟨g, cap, e, hc⟩ := hg.get i _ h5
  simp only [Value.slice.injEq] at e
  refine ⟨⟨g, 0, none⟩, e.1, by rw [Addr.add_lit, Nat.zero_add]; exact hc, ?_⟩
  rw [Addr.add_lit]
  exact (h.fresh (ho g (by rw [e.1]; rfl))).1
theorem sb_second (h : XC W wr gW q n) (he : XE q) {k : Nat} (hk : k < 3) (ho : q.on k = true) {x y : Int} (hy : -9223372036854775808 ≤ y ∧ y < 9223372036854775808) {bs : List Nat} (hbs : ∀ c ∈ bs, c < 256) (hn : bs.length ≤ 9000000000000000) {w1 : World} {e1 : Ending} (hG : GvR W wr w1 gW q n k x y bs e1) :
    ∃ q1, XC W w1 gW q1 n ∧ q1.on = q.on ∧ q1.rg = q.rg ∧ (∀ i, i < 3 → q.on i = true → (q1.d i).g = (q.d i).g) ∧ ∀ w2, Below w1.heap.size w1 w2 → ∀ (Ad : Option Addr) (cd : Nat), Rd8 w2 Ad bs → Calls Try.prog 61 #[.pointer (some ⟨q.rg k, 0, none⟩), .int .i64 x, .int .i64 y, .slice Ad bs.length cd] w2 fun e w3 =>
      e = .returned (.int .i64 (ArP.stbR (q.d k).l x y bs).1) ∧ ∃ q2, XC W w3 gW q2 n ∧ XE q2 ∧ q2.on = q.on ∧ q2.rg = q.rg ∧ (∀ i, i < 3 → q.on i = true → (q2.d i).g = (q.d i).g) ∧ Keep q gW wr w3 ∧ ∀ b, q2.mine gW b → q.mine gW b ∨ wr.heap.size ≤ b := by
  obtain ⟨_, hkp, q1, h1, f1, f2, f3, f5, f4⟩ := hG
  have heo := he k hk ho
  refine ⟨q1, h1, f1, f2, fun i hi hoi => (f4 i hi hoi).2.1, fun w2 hb2 Ad cd hr => ?_⟩
  have h2 := h1.below hb2
  have hr2 := h2.rf k hk (by rw [f1]; exact ho)
  rw [f2, f3, (f4 k hk ho).1] at hr2
  refine (RfV.setBytes.calls hr2 (fun b hb => h2.lo_lt b hb) x y hy bs hbs Ad cd hr hn).mono ?_
  rintro e w3 ⟨rfl, es', heq, hR, hu⟩
  refine ⟨by rw [heo], putR q1 k q1.lo (q1.rv k) es', ?_, fun j hj hoj => ?_, f1, f2, fun i hi hoi => (f4 i hi hoi).2.1, (hkp.then (S := none_) (Upd.of_below hb2) (fun _ h => h.elim)).then hu (fun b ⟨t, ht⟩ => f5 b (.inr (.inl (by rw [ht]; simp)))), f5⟩
  · refine h2.r1 hk (by rw [f1]; exact ho) (by rw [f2, (f4 k hk ho).1]; exact hR) (fun _ _ h => h) (fun b hb => .inl hb) (fun b hb => Nat.lt_of_lt_of_le (h2.lo_lt b hb) hu.size) hu
  · show obs (if j = k then es' else q1.re j) = (q1.d j).l
    have hoj' : q.on j = true := by rw [← f1]; exact hoj
    rw [(f4 j hj hoj').2.2]
    by_cases c : j = k
    · subst c
      rw [if_pos rfl, if_pos rfl, heq, heo]
    · rw [if_neg c, if_neg c, f3]
      exact he j hj hoj'
end Go.Proofs.Ytgjcffjicbmkhaa.XrS
end

section
namespace Go.Proofs.Ytgjcffjicbmkhaa.XrL7
open Go Go.RowKit Go.Proofs.YtgjcffjicbmkhaaW.PrintWords Go.Proofs.YtgjcffjicbmkhaaW.PrintLast Go.Proofs.YtgjcffjicbmkhaaW.PrintMore Go.Proofs.Ytgjcffjicbmkhaa.RowU Go.Proofs.Ytgjcffjicbmkhaa.ArS Go.Proofs.Ytgjcffjicbmkhaa.ArM Go.Proofs.Ytgjcffjicbmkhaa.GenM Go.Proofs.Ytgjcffjicbmkhaa.GenN Go.Proofs.Ytgjcffjicbmkhaa.BokA Go.Proofs.Ytgjcffjicbmkhaa.BokB Go.Proofs.Ytgjcffjicbmkhaa.ArP Go.Proofs.Ytgjcffjicbmkhaa.ArQ Go.Proofs.Ytgjcffjicbmkhaa.RfM Go.Proofs.Ytgjcffjicbmkhaa.XrM Go.Proofs.Ytgjcffjicbmkhaa.XrN Go.Proofs.Ytgjcffjicbmkhaa.XrP Go.Proofs.Ytgjcffjicbmkhaa.XrW Go.Proofs.Ytgjcffjicbmkhaa.XrB Go.Proofs.Ytgjcffjicbmkhaa.BegW
set_option linter.unusedVariables false
set_option maxRecDepth 100000
variable {W wr w' : World} {gW : Nat} {q : XQ} {n : Nat}
set_option maxHeartbeats 16000000 in
theorem lists.calls (h : XC W wr gW q n) (hn9 : n ≤ 1000000) (he : XE q) (Bk Sr x y z : Int) (V : Nat) (Ad : Option Addr) (nb cd : Nat) (hon : q.on (mod3 Bk) = true) (hy : -9223372036854775808 ≤ y ∧ y < 9223372036854775808) (bs : List Nat) (hbs : ∀ c ∈ bs, c < 256) (hlb : bs.length ≤ 140737488351232) (hnb : nb = bs.length) (hcd : nb ≤ cd) (hrd : FlipW.Rd8 W Ad bs) :
    Calls Try.prog 48 #[.pointer (some ⟨gW, 0, none⟩), .agg #[.int .i64 7, .int .i64 Bk, .int .i64 Sr, .int .i64 x, .int .i64 y, .int .i64 z, .int .u64 (V : Int), .slice Ad nb cd]] wr fun e w' => StR W w' gW q (n + 1) e := by
  have H := Aside0.mk h
  obtain ⟨m, hm⟩ : ∃ m, m = mod3 Bk := ⟨_, rfl⟩
  have hm3 : m < 3 := by rw [hm]; exact mod3_lt Bk
  have HE := Aside0.mk (And.intro he hon)
  have HT : Aside0 (∀ w, Calls Try.prog 30 #[.int .i64 Bk] w fun e w' => e = .returned (.int .i64 (m : Int)) ∧ Drawn0 w w') := ⟨fun w => by rw [hm]; exact three_q Bk w⟩
  rw [← hm] at HE
  clear h he hon hm
  obtain ⟨fl, hfl1, hfl2, hfl3⟩ := FlipW.flip_calls bs hlb Ad cd (by rw [← hnb]; exact hcd)
  have HD := Aside0.mk (And.intro hbs (And.intro hlb (And.intro hnb (And.intro hrd (And.intro hfl1 (And.intro hfl2 hy))))))
  have HFL := Aside0.mk hfl3
  rw [← hnb] at HFL
  clear hy hbs hlb hnb hcd hrd hfl1 hfl2 hfl3
  go_enter Try.func48, Try.ntmps48
  go_upto_region 1 with ((with_reducible refine gate_dst (N := 3) rfl ?_); refine box_event ?hg (N := 3) ?hd (cs := #[.int .i64 7, .int .i64 Bk, .int .i64 Sr, .int .i64 x, .int .i64 y, .int .i64 z, .int .u64 (V : Int), .slice Ad nb cd]) (t := 80) ?hr ?_; (case hd => rfl); (case hg => rfl); (case hr => first | (go_simp; done) | (go_simp; rfl)); intro ga hga w1 hbox hb; have BA := Aside0.mk hbox; have HB := Aside0.mk hb; have GA := Aside0.mk hga; clear hbox hb hga)
  have H1 := Aside0.mk (H.out.below HB.out)
  have b1 : w1.cell? ⟨ga, 1, none⟩ = some (.int .i64 Bk) := (blk_cell BA.out 1).trans rfl
  have hpc : w1.cell? ⟨gW, m, none⟩ = some (.pointer (some ⟨(q.d m).g, 0, none⟩)) := by rw [H1.out.pc m hm3]; unfold pC; rw [if_pos HE.out.2]
  have hqc : w1.cell? ⟨gW, 3 + m, none⟩ = some (.pointer (some ⟨q.rg m, 0, none⟩)) := by rw [H1.out.qc m hm3]; unfold qC; rw [if_pos HE.out.2]
  have hmi : (m : Int) < 3 := by omega
  have hm0 : (0 : Int) ≤ m := by omega
  go_quiet (first | (go_at_call 30; (with_reducible refine (HT.out _).mono ?_); rintro e w' ⟨rfl, ⟨nd, rfl⟩⟩; (try first | exact ⟨rfl, _, World.drewN_drewN _ _ _⟩ | exact ⟨rfl, _, Eq.trans (World.drewN_drewN _ _ _) (congrArg (World.drewN _) (Nat.add_assoc _ _ _))⟩)))
  have hbd := pw_below_drewN (Below.refl w1.heap.size w1) nq
  have H2 := Aside0.mk (H1.out.below hbd)
  have BA2 := Aside0.mk (blk_below BA.out hbd)
  have HB2 := Aside0.mk (below_next HB.out hbd)
  have HNM : Aside0 (¬ (q.mine gW ga ∨ (w1.drewN nq).heap.size ≤ ga)) := ⟨by
    rintro (h1 | h1)
    · exact (H.out.fresh (b := ga) (by rw [GA.out]; exact Nat.le_refl _)).1 h1
    · have := cell_lt BA2.out; omega⟩
  clear hbd b1 hpc hqc H1 BA HB
  generalize w1.drewN nq = w2 at *
  have b0 : w2.cell? ⟨ga, 0, none⟩ = some (.int .i64 7) := (blk_cell BA2.out 0).trans rfl
  have HBX : Aside0 (∀ w, Keep q gW w2 w → w.cell? ⟨ga, 3, none⟩ = some (.int .i64 x) ∧ w.cell? ⟨ga, 4, none⟩ = some (.int .i64 y) ∧ w.cell? ⟨ga, 7, none⟩ = some (.slice Ad nb cd)) := ⟨fun w hk => by
    have h5 := blk_upd BA2.out hk HNM.out
    exact ⟨(blk_cell h5 3).trans rfl, (blk_cell h5 4).trans rfl, (blk_cell h5 7).trans rfl⟩⟩
  have HK0 := Aside0.mk (HBX.out w2 (Keep.below (Below.refl _ _)))
  have HRD : Aside0 (∀ wq, Below W.heap.size W wq → FlipW.Rd8 wq Ad bs) := ⟨fun wq hb i c hc => by
    obtain ⟨ad, e, h1⟩ := HD.out.2.2.2.1 i c hc
    exact ⟨ad, e, (hb.cell (World.block_lt_of_cell? _ _ h1)).trans h1⟩⟩
  have hnbf : fl.length = nb := by rw [HD.out.2.2.2.2.1]; exact HD.out.2.2.1.symm
  have HGC : Aside0 (∀ wq q0 w3 Af cf, XC W wq gW q0 n → q0.on = q.on → (∀ i, i < 3 → q.on i = true → (q0.d i).g = (q.d i).g) → Below wq.heap.size wq w3 → GV 5 w3 (.slice Af nb cf) (XrG.b8 fl) → (∀ b, (Value.slice Af nb cf).ownBlock = some b → wq.heap.size ≤ b) →
      Calls Try.prog 59 #[.pointer (some ⟨gW, 0, none⟩), .pointer (some ⟨(q.d m).g, 0, none⟩), .int .i64 x, .int .i64 y, .slice Af nb cf] w3 (fun e w' => XrG.GvR W w3 w' gW q0 n m x y fl e)) := ⟨fun wq q0 w3 Af cf h0 e1 e2 hb hg ho => by
    have h5 := XrG.given.calls (h0.below hb) hm3 (by rw [e1]; exact HE.out.2) x y fl HD.out.2.2.2.2.2.1 Af cf (XrS.rd8_new h0 hb hg ho) (by rw [HD.out.2.2.2.2.1]; exact HD.out.2.1)
    rw [hnbf, e2 m hm3 HE.out.2] at h5
    exact h5⟩
  have HGD : Aside0 (∀ wq q0, XC W wq gW q0 n → q0.on = q.on → (∀ i, i < 3 → q.on i = true → (q0.d i).g = (q.d i).g) →
      Calls Try.prog 59 #[.pointer (some ⟨gW, 0, none⟩), .pointer (some ⟨(q.d m).g, 0, none⟩), .int .i64 x, .int .i64 y, .slice Ad nb cd] wq (fun e w' => XrG.GvR W wq w' gW q0 n m x y bs e)) := ⟨fun wq q0 h0 e1 e2 => by
    have h5 := XrG.given.calls h0 hm3 (by rw [e1]; exact HE.out.2) x y bs HD.out.1 Ad cd (XrS.rd8_at h0 HD.out.2.2.2.1) HD.out.2.1
    rw [← HD.out.2.2.1, e2 m hm3 HE.out.2] at h5
    exact h5⟩
  have HN1 := Aside0.mk hnbf
  clear BA2 hnbf
  go_upto_region 17 with fail
  go_region_held3 (fun w' => w'.cell? ⟨ga, 3, none⟩ = some (.int .i64 x) ∧ w'.cell? ⟨ga, 4, none⟩ = some (.int .i64 y) ∧ w'.cell? ⟨ga, 7, none⟩ = some (.slice Ad nb cd)) (first | exact HK2.out | exact HK1.out | exact HK0.out) (first
    | (go_at_call 60; go_must (refine (HFL.out _ (HRD.out _ H2.out.bel.drew)).mono ?_); rintro e w3 ⟨Af, cf, rfl, gf, of_, hb⟩; have R3 := Aside0.mk (And.intro gf of_); have HB3 := Aside0.mk (below_next (Below.refl w2.heap.size w2).drew hb); have HK1 := Aside0.mk (HBX.out w3 (Keep.below HB3.out)); clear gf of_ hb)
    | (go_at_call 59; go_must (refine (HGC.out w2 q w3 Af cf H2.out rfl (fun _ _ _ => rfl) HB3.out R3.out.1 R3.out.2).mono ?_); rintro e w4 hgv; have HGV := Aside0.mk hgv; obtain ⟨rfl, hkp, -⟩ := hgv; have HK4 := Aside0.mk (Keep.then2 (Keep.below (q := q) (gW := gW) HB3.out) hkp); have HK2 := Aside0.mk (HBX.out w4 HK4.out); clear hkp))
  obtain ⟨q1, h1, f1, f2, f3, hsb⟩ := XrS.sb_second (H2.out.below HB3.out) HE.out.1 hm3 HE.out.2 HD.out.2.2.2.2.2.2 HD.out.2.2.2.2.2.1 (by rw [HD.out.2.2.2.2.1]; have := HD.out.2.1; omega) HGV.out
  simp only [HN1.out] at hsb
  obtain ⟨er1, her1⟩ : ∃ er1, er1 = (ArP.stbR (q.d m).l x y fl).1 := ⟨_, rfl⟩
  rw [← her1] at hsb
  rw [← her1]
  have HX1 := Aside0.mk (And.intro h1 (And.intro f1 (And.intro f2 f3)))
  have HSB := Aside0.mk hsb
  clear h1 f1 f2 f3 hsb her1 HK0 HK1
  go_upto_region 18 with fail
  go_region_held3 (fun w' => w'.cell? ⟨ga, 3, none⟩ = some (.int .i64 x) ∧ w'.cell? ⟨ga, 4, none⟩ = some (.int .i64 y) ∧ w'.cell? ⟨ga, 7, none⟩ = some (.slice Ad nb cd)) (first | exact HK6.out | exact HK5.out | exact HK2.out) (first
    | (go_at_call 60; go_must (refine (HFL.out _ (HRD.out _ HX1.out.1.bel.drew)).mono ?_); rintro e w5 ⟨Ag, cg, rfl, gg, og, hb⟩; have R5 := Aside0.mk (And.intro gg og); have HB5 := Aside0.mk (below_next (Below.refl w4.heap.size w4).drew hb); have HK5 := Aside0.mk (HBX.out w5 (Keep.then2 HK4.out (Keep.below HB5.out))); clear gg og hb)
    | (go_at_call 61; go_must (refine (HSB.out w5 HB5.out Ag cg (FlipW.rd8_gv R5.out.1)).mono ?_); rintro e w6 ⟨rfl, q2, h2, he2, g1, g2, g3, hk6, hm6⟩; have HX2 := Aside0.mk (And.intro h2 (And.intro he2 (And.intro g1 (And.intro g2 (And.intro g3 hm6))))); have HK7 := Aside0.mk (Keep.then2 (Keep.below (q := q) (gW := gW) HB3.out) hk6); have HK6 := Aside0.mk (HBX.out w6 HK7.out); clear h2 he2 g1 g2 g3 hk6 hm6))
  have HRB : Aside0 (mod3 Bk < 3 ∨ True) := ⟨.inr trivial⟩
  obtain ⟨d3, d4, d7⟩ := HK6.out
  clear HK2 HK5 HSB HX1 HGV HK4 HK6
  go_wp2_with fail
  refine (HGD.out w6 q2 HX2.out.1 HX2.out.2.2.1 HX2.out.2.2.2.2.1).mono ?_
  rintro e w7 hgv2
  have HGV2 := Aside0.mk hgv2
  obtain ⟨rfl, hkp2, -⟩ := hgv2
  have HK8 : Aside0 (Keep q gW w2 w7) := ⟨Upd.trans HK7.out (hkp2.mono (fun b hb => by
    rcases hb with h | h
    · exact (HX2.out.2.2.2.2.2 b h).imp id (fun h1 => Nat.le_trans HB3.out.size h1)
    · exact .inr (Nat.le_trans HK7.out.size h)))⟩
  obtain ⟨q3, h3, f1, f2, f3, hsb⟩ := XrS.sb_second HX2.out.1 HX2.out.2.1 hm3 (by rw [HX2.out.2.2.1]; exact HE.out.2) HD.out.2.2.2.2.2.2 HD.out.1 (by have := HD.out.2.1; omega) HGV2.out
  simp only [← HD.out.2.2.1] at hsb
  rw [HX2.out.2.2.2.1] at hsb
  obtain ⟨er2, her2⟩ : ∃ er2, er2 = (ArP.stbR (q2.d m).l x y bs).1 := ⟨_, rfl⟩
  rw [← her2] at hsb
  rw [← her2]
  have HSB2 := Aside0.mk (hsb w7 (Below.refl _ _) Ad cd (HRD.out _ h3.bel))
  obtain ⟨d3, d4, d7⟩ := HBX.out w7 HK8.out
  clear hkp2 h3 f1 f2 f3 hsb her2
  go_wp2_with fail
  refine HSB2.out.mono ?_
  clear HSB2
  rintro e w8 ⟨rfl, q4, h4, he4, g1, g2, g3, -, -⟩
  have HX4 := Aside0.mk (And.intro h4 (And.intro he4 g1))
  clear h4 he4 g1 g2 g3
  go_wp2_with fail
  refine (ArY.num.calls _ _).mono ?_
  rintro e w9 ⟨rfl, rfl⟩
  go_wp2_with fail
  refine (ArY.num.calls _ _).mono ?_
  rintro e w10 ⟨rfl, rfl⟩
  go_wp2_with fail
  go_ret
  exact ⟨by first | rfl | simp, q4, HX4.out.1.more (by omega), HX4.out.2.1, by rw [HX4.out.2.2, HX2.out.2.2.1]⟩
end Go.Proofs.Ytgjcffjicbmkhaa.XrL7
end

section
namespace Go.Proofs.Ytgjcffjicbmkhaa.XrT
open Go Go.RowKit Go.Proofs.YtgjcffjicbmkhaaW.PrintWords Go.Proofs.Ytgjcffjicbmkhaa.RowU Go.Proofs.Ytgjcffjicbmkhaa.ArS Go.Proofs.Ytgjcffjicbmkhaa.ArM Go.Proofs.Ytgjcffjicbmkhaa.ArT Go.Proofs.Ytgjcffjicbmkhaa.GenM Go.Proofs.Ytgjcffjicbmkhaa.BokA Go.Proofs.Ytgjcffjicbmkhaa.ArP Go.Proofs.Ytgjcffjicbmkhaa.ArQ Go.Proofs.Ytgjcffjicbmkhaa.RfM Go.Proofs.Ytgjcffjicbmkhaa.RfT Go.Proofs.Ytgjcffjicbmkhaa.XrM Go.Proofs.Ytgjcffjicbmkhaa.XrN Go.Proofs.Ytgjcffjicbmkhaa.XrP
set_option linter.unusedVariables false
set_option maxRecDepth 100000
variable {W wr w' : World} {gW : Nat} {q : XQ} {n : Nat}
theorem _root_.Go.Proofs.Ytgjcffjicbmkhaa.XrP.Keep.below2 {w0 w1 w2 : World} (hb : Below w0.heap.size w0 w1) (h : Keep q gW w1 w2) : Keep q gW w0 w2 := Upd.trans (Upd.of_below hb) (h.mono (fun b hb2 => hb2.imp id (fun h1 => Nat.le_trans hb.size h1)))
def takD (d : Nat → ArD) (i j : Nat) (gw gf : Nat) (la ls : List Ob) : Nat → ArD :=
  if i = j then putD d i ⟨(d i).g, gw, gf, (d i).sz, la⟩ else putD (putD d i ⟨(d i).g, gw, gf, (d i).sz, la⟩) j ⟨(d j).g, (d j).gw, (d j).gf, (d j).sz, ls⟩
theorem takD_g (d : Nat → ArD) (i j gw gf : Nat) (la ls : List Ob) (k : Nat) : (takD d i j gw gf la ls k).g = (d k).g ∧ (takD d i j gw gf la ls k).sz = (d k).sz := by
  unfold takD putD
  by_cases c : i = j
  · rw [if_pos c]
    by_cases c2 : k = i
    · subst c2; simp
    · simp [c2]
  · rw [if_neg c]
    by_cases c2 : k = j
    · subst c2; simp
    · by_cases c3 : k = i
      · subst c3; simp [c2]
      · simp [c2, c3]
theorem takD_l (d : Nat → ArD) (i j gw gf : Nat) (la ls : List Ob) (h : i = j → la = ls) (k : Nat) : (takD d i j gw gf la ls k).l = if k = j then ls else if k = i then la else (d k).l := by
  unfold takD putD
  by_cases c : i = j
  · subst c
    rw [if_pos rfl]
    by_cases c2 : k = i
    · subst c2; simp [h rfl]
    · simp [c2]
  · rw [if_neg c]
    by_cases c2 : k = j
    · subst c2; simp
    · by_cases c3 : k = i
      · subst c3; simp [c2]
      · simp [c2, c3]
theorem takD_blk (d : Nat → ArD) (i j gw gf : Nat) (la ls : List Ob) {B : Nat} (h1 : gw = (d i).gw ∨ B ≤ gw) (h2 : gf = (d i).gf ∨ B ≤ gf) (k b : Nat) (hb : (takD d i j gw gf la ls k).blk b) : (d k).blk b ∨ (k = i ∧ B ≤ b) := by
  have key : ∀ l, (⟨(d i).g, gw, gf, (d i).sz, l⟩ : ArD).blk b → (d i).blk b ∨ B ≤ b := by
    rintro l (e | e | e)
    · exact .inl (.inl e)
    · rcases h1 with h | h
      · exact .inl (.inr (.inl (e.trans h)))
      · exact .inr (by rw [e]; exact h)
    · rcases h2 with h | h
      · exact .inl (.inr (.inr (e.trans h)))
      · exact .inr (by rw [e]; exact h)
  unfold takD putD at hb
  by_cases c : i = j
  · rw [if_pos c] at hb
    by_cases c2 : k = i
    · subst c2
      simp only [if_true] at hb
      exact (key _ hb).imp id (fun h => ⟨rfl, h⟩)
    · simp only [c2, if_false] at hb
      exact .inl hb
  · rw [if_neg c] at hb
    by_cases c2 : k = j
    · subst c2
      simp only [if_true] at hb
      exact .inl hb
    · by_cases c3 : k = i
      · subst c3
        simp only [c2, if_false, if_true] at hb
        exact (key _ hb).imp id (fun h => ⟨rfl, h⟩)
      · simp only [c2, c3, if_false] at hb
        exact .inl hb
theorem takR_same (sz : Nat) (l : List Ob) (p : Int) : (takR sz l l p true).2.2.1 = (takR sz l l p true).2.2.2 := by
  unfold takR
  cases obAt l p with
  | none => rfl
  | some y =>
    obtain ⟨k, o⟩ := y
    simp only
    cases o.gone with
    | some t => rfl
    | none =>
      simp only
      split <;> rfl
theorem pq_take (h : XC W wr gW q n) (he : XE q) {i j : Nat} (hi : i < 3) (hj : j < 3) (hoi : q.on i = true) (hoj : q.on j = true) (x : Int) :
    ∃ a b : Int, Calls Try.prog 42 #[.pointer (some ⟨(q.d i).g, 0, none⟩), .pointer (some ⟨(q.d j).g, 0, none⟩), .int .i64 x] wr fun e w1 => e = .returned (.tuple #[.int .i64 a, .int .i64 b]) ∧ Keep q gW wr w1 ∧
      ∃ q1, XC W w1 gW q1 n ∧ q1.on = q.on ∧ q1.rg = q.rg ∧ (∀ k, (q1.d k).g = (q.d k).g) ∧ ∀ w2, Below w1.heap.size w1 w2 → Calls Try.prog 62 #[.pointer (some ⟨q.rg i, 0, none⟩), .pointer (some ⟨q.rg j, 0, none⟩), .int .i64 x] w2 fun e w3 =>
        e = .returned (.tuple #[.int .i64 a, .int .i64 b]) ∧ Keep q gW wr w3 ∧ ∃ q2, XC W w3 gW q2 n ∧ XE q2 ∧ q2.on = q.on ∧ q2.rg = q.rg := by
  refine ⟨(takR (q.d i).sz (q.d i).l (q.d j).l x (decide (i = j))).1, (takR (q.d i).sz (q.d i).l (q.d j).l x (decide (i = j))).2.1, (take_all (h.th.pair hi hj hoi hoj) x).mono ?_⟩
  rintro e w1 ⟨rfl, gwa', gfa', hP, e1, e2, hu⟩
  have hlas : i = j → (takR (q.d i).sz (q.d i).l (q.d j).l x (decide (i = j))).2.2.1 = (takR (q.d i).sz (q.d i).l (q.d j).l x (decide (i = j))).2.2.2 := fun c => by
    subst c
    simp only [decide_true]
    exact takR_same _ _ _
  have hT : Three w1 (takD q.d i j gwa' gfa' (takR (q.d i).sz (q.d i).l (q.d j).l x (decide (i = j))).2.2.1 (takR (q.d i).sz (q.d i).l (q.d j).l x (decide (i = j))).2.2.2) q.on := h.th.took hi hj hoi hoj (by simpa using hP) e1 e2 hu
  have hup : Upd q.prog wr w1 := hu.mono (fun b hb => by
    rcases hb with h1 | h1
    · exact ⟨i, hi, hoi, h1⟩
    · exact ⟨j, hj, hoj, h1⟩)
  have h1 : XC W w1 gW { q with d := takD q.d i j gwa' gfa' (takR (q.d i).sz (q.d i).l (q.d j).l x (decide (i = j))).2.2.1 (takR (q.d i).sz (q.d i).l (q.d j).l x (decide (i = j))).2.2.2 } n :=
    h.progs hT (fun k hk ho => takD_g _ _ _ _ _ _ _ _) (fun k hk ho b hb => (takD_blk _ _ _ _ _ _ _ e1 e2 k b hb).imp (fun h5 => ⟨k, hk, ho, h5⟩) (fun h5 => h5.2)) hup
  refine ⟨rfl, Keep.of hup (fun b hb => .inl (.inr (.inr (.inr hb)))), _, h1, rfl, rfl, fun k => (takD_g _ _ _ _ _ _ _ _).1, fun w2 hb2 => ?_⟩
  have h2 := h1.below hb2
  have hr1 := h2.rf i hi hoi
  have hr2 := h2.rf j hj hoj
  simp only [(takD_g _ _ _ _ _ _ _ _).2] at hr1 hr2
  have h22 : Two2 i j w2 q.lo (q.rg i) (q.d i).sz (q.rv i) (q.re i) (q.rg j) (q.d j).sz (q.rv j) (q.re j) (decide (i = j)) :=
    ⟨hr1, hr2, fun c => by have c := of_decide_eq_true c; subst c; exact ⟨rfl, rfl, rfl, rfl, rfl⟩, fun c => of_decide_eq_false c, fun b hb => h2.lo_lt b hb⟩
  refine (RfT.take.calls h22 x).mono ?_
  rintro e w3 ⟨rfl, ⟨lo', vd', ed', vs', es', o1, o2, r1, r2, hsame, hle, hown, hlt⟩, hu3⟩
  rw [he i hi hoi, he j hj hoj] at o1 o2
  refine ⟨by rw [he i hi hoi, he j hj hoj], ((Keep.of hup (fun b hb => .inl (.inr (.inr (.inr hb)))) : Keep q gW wr w1).then (S := none_) (Upd.of_below hb2) (fun _ h => h.elim)).then hu3 (fun b ⟨t, ht⟩ => by
    rcases ht with ht | ht
    · exact .inl (doc_mine ht)
    · exact .inl (doc_mine ht)), { q with d := takD q.d i j gwa' gfa' (takR (q.d i).sz (q.d i).l (q.d j).l x (decide (i = j))).2.2.1 (takR (q.d i).sz (q.d i).l (q.d j).l x (decide (i = j))).2.2.2, lo := lo', rv := fun k => if k = j then vs' else if k = i then vd' else q.rv k, re := fun k => if k = j then es' else if k = i then ed' else q.re k }, ?_, fun k hk hok => ?_, rfl, rfl⟩
  · refine h2.refs (fun k hk hok => ?_) hle (fun b hb => (hown b hb).imp id (fun h5 => h2.fresh h5)) hlt (hu3.mono (fun b ⟨t, ht⟩ => by
      rcases ht with ht | ht
      · exact ⟨i, t, hi, ht⟩
      · exact ⟨j, t, hj, ht⟩))
    simp only [(takD_g _ _ _ _ _ _ _ _).2]
    by_cases c1 : k = j
    · subst c1
      simp only [if_true]
      exact r2
    · by_cases c2 : k = i
      · subst c2
        simp only [c1, if_false, if_true]
        exact r1
      · simp only [c1, c2, if_false]
        have hr := h2.rf k hk hok
        simp only [(takD_g _ _ _ _ _ _ _ _).2] at hr
        exact hr.upd hu3 (fun b t hb ⟨t', ht'⟩ => by
          rw [hb] at ht'
          simp only [Option.some.injEq, Prod.mk.injEq] at ht'
          rcases ht' with ht' | ht'
          · exact c2 ht'.1
          · exact c1 ht'.1) (fun b t hb => hle b _ hb)
  · show obs (if k = j then es' else if k = i then ed' else q.re k) = (takD q.d i j gwa' gfa' _ _ k).l
    rw [takD_l _ _ _ _ _ _ _ hlas]
    by_cases c1 : k = j
    · rw [if_pos c1, if_pos c1]; exact o2
    · rw [if_neg c1, if_neg c1]
      by_cases c2 : k = i
      · rw [if_pos c2, if_pos c2]; exact o1
      · rw [if_neg c2, if_neg c2]; exact he k hk hok
end Go.Proofs.Ytgjcffjicbmkhaa.XrT
end

section
namespace Go.Proofs.Ytgjcffjicbmkhaa.XrL8
open Go Go.RowKit Go.Proofs.YtgjcffjicbmkhaaW.PrintWords Go.Proofs.YtgjcffjicbmkhaaW.PrintLast Go.Proofs.YtgjcffjicbmkhaaW.PrintMore Go.Proofs.Ytgjcffjicbmkhaa.RowU Go.Proofs.Ytgjcffjicbmkhaa.ArS Go.Proofs.Ytgjcffjicbmkhaa.ArM Go.Proofs.Ytgjcffjicbmkhaa.GenM Go.Proofs.Ytgjcffjicbmkhaa.GenN Go.Proofs.Ytgjcffjicbmkhaa.BokA Go.Proofs.Ytgjcffjicbmkhaa.BokB Go.Proofs.Ytgjcffjicbmkhaa.ArP Go.Proofs.Ytgjcffjicbmkhaa.ArQ Go.Proofs.Ytgjcffjicbmkhaa.RfM Go.Proofs.Ytgjcffjicbmkhaa.XrM Go.Proofs.Ytgjcffjicbmkhaa.XrN Go.Proofs.Ytgjcffjicbmkhaa.XrP Go.Proofs.Ytgjcffjicbmkhaa.XrW Go.Proofs.Ytgjcffjicbmkhaa.XrB Go.Proofs.Ytgjcffjicbmkhaa.BegW
set_option linter.unusedVariables false
set_option maxRecDepth 100000
variable {W wr w' : World} {gW : Nat} {q : XQ} {n : Nat}
set_option maxHeartbeats 16000000 in
theorem lists.calls (h : XC W wr gW q n) (hn9 : n ≤ 1000000) (he : XE q) (Bk Sr x y z : Int) (V : Nat) (Ad : Option Addr) (nb cd : Nat) (hon : q.on (mod3 Bk) = true) :
    Calls Try.prog 48 #[.pointer (some ⟨gW, 0, none⟩), .agg #[.int .i64 8, .int .i64 Bk, .int .i64 Sr, .int .i64 x, .int .i64 y, .int .i64 z, .int .u64 (V : Int), .slice Ad nb cd]] wr fun e w' => StR W w' gW q (n + 1) e := by
  have H := Aside0.mk h
  obtain ⟨m, hm⟩ : ∃ m, m = mod3 Bk := ⟨_, rfl⟩
  have hm3 : m < 3 := by rw [hm]; exact mod3_lt Bk
  have HE := Aside0.mk (And.intro he hon)
  have HT : Aside0 (∀ w, Calls Try.prog 30 #[.int .i64 Bk] w fun e w' => e = .returned (.int .i64 (m : Int)) ∧ Drawn0 w w') := ⟨fun w => by rw [hm]; exact three_q Bk w⟩
  rw [← hm] at HE
  clear h he hon hm
  go_enter Try.func48, Try.ntmps48
  go_upto_region 1 with ((with_reducible refine gate_dst (N := 3) rfl ?_); refine box_event ?hg (N := 3) ?hd (cs := #[.int .i64 8, .int .i64 Bk, .int .i64 Sr, .int .i64 x, .int .i64 y, .int .i64 z, .int .u64 (V : Int), .slice Ad nb cd]) (t := 80) ?hr ?_; (case hd => rfl); (case hg => rfl); (case hr => first | (go_simp; done) | (go_simp; rfl)); intro ga hga w1 hbox hb; have BA := Aside0.mk hbox; have HB := Aside0.mk hb; have GA := Aside0.mk hga; clear hbox hb hga)
  have H1 := Aside0.mk (H.out.below HB.out)
  have b1 : w1.cell? ⟨ga, 1, none⟩ = some (.int .i64 Bk) := (blk_cell BA.out 1).trans rfl
  have hpc : w1.cell? ⟨gW, m, none⟩ = some (.pointer (some ⟨(q.d m).g, 0, none⟩)) := by rw [H1.out.pc m hm3]; unfold pC; rw [if_pos HE.out.2]
  have hqc : w1.cell? ⟨gW, 3 + m, none⟩ = some (.pointer (some ⟨q.rg m, 0, none⟩)) := by rw [H1.out.qc m hm3]; unfold qC; rw [if_pos HE.out.2]
  have hmi : (m : Int) < 3 := by omega
  have hm0 : (0 : Int) ≤ m := by omega
  go_quiet (first | (go_at_call 30; (with_reducible refine (HT.out _).mono ?_); rintro e w' ⟨rfl, ⟨nd, rfl⟩⟩; (try first | exact ⟨rfl, _, World.drewN_drewN _ _ _⟩ | exact ⟨rfl, _, Eq.trans (World.drewN_drewN _ _ _) (congrArg (World.drewN _) (Nat.add_assoc _ _ _))⟩)))
  have hbd := pw_below_drewN (Below.refl w1.heap.size w1) nq
  have H2 := Aside0.mk (H1.out.below hbd)
  have BA2 := Aside0.mk (blk_below BA.out hbd)
  have HB2 := Aside0.mk (below_next HB.out hbd)
  have HNM : Aside0 (¬ (q.mine gW ga ∨ (w1.drewN nq).heap.size ≤ ga)) := ⟨by
    rintro (h1 | h1)
    · exact (H.out.fresh (b := ga) (by rw [GA.out]; exact Nat.le_refl _)).1 h1
    · have := cell_lt BA2.out; omega⟩
  clear hbd b1 hpc hqc H1 BA HB
  generalize w1.drewN nq = w2 at *
  have b0 : w2.cell? ⟨ga, 0, none⟩ = some (.int .i64 8) := (blk_cell BA2.out 0).trans rfl
  obtain ⟨s, hs⟩ : ∃ s, s = mod3 Sr := ⟨_, rfl⟩
  have hs3 : s < 3 := by rw [hs]; exact mod3_lt Sr
  have HT2 : Aside0 (∀ w, Calls Try.prog 30 #[.int .i64 Sr] w fun e w' => e = .returned (.int .i64 (s : Int)) ∧ Drawn0 w w') := ⟨fun w => by rw [hs]; exact three_q Sr w⟩
  have hsi : (s : Int) < 3 := by omega
  have hs0 : (0 : Int) ≤ s := by omega
  have b2 : w2.cell? ⟨ga, 2, none⟩ = some (.int .i64 Sr) := (blk_cell BA2.out 2).trans rfl
  clear hs
  by_cases hos : q.on s = true
  · have hpc : w2.cell? ⟨gW, s, none⟩ = some (.pointer (some ⟨(q.d s).g, 0, none⟩)) := by rw [H2.out.pc s hs3]; unfold pC; rw [if_pos hos]
    have HOS := Aside0.mk hos
    clear hos
    go_upto_region 23 with fail
    go_quiet (first | (go_at_call 30; (with_reducible refine (HT2.out _).mono ?_); rintro e w' ⟨rfl, ⟨nd, rfl⟩⟩; (try first | exact ⟨rfl, _, World.drewN_drewN _ _ _⟩ | exact ⟨rfl, _, Eq.trans (World.drewN_drewN _ _ _) (congrArg (World.drewN _) (Nat.add_assoc _ _ _))⟩)))
    have hbd2 := pw_below_drewN (Below.refl w2.heap.size w2) nq
    have H3 := Aside0.mk (H2.out.below hbd2)
    have BA3 := Aside0.mk (blk_below BA2.out hbd2)
    have HNM3 : Aside0 (¬ (q.mine gW ga ∨ (w2.drewN nq).heap.size ≤ ga)) := ⟨by
      rintro (h1 | h1)
      · exact HNM.out (.inl h1)
      · have := cell_lt BA3.out; omega⟩
    clear hbd2 H2 BA2 HNM hpc b2 b0 HB2
    generalize w2.drewN nq = w3 at *
    have HT3 : Aside0 (∀ w, Calls Try.prog 30 #[.int .i64 Sr] w fun e w' => e = .returned (.int .i64 (s : Int)) ∧ Below w.heap.size w w') := ⟨fun w => (HT2.out w).mono fun e w' ⟨he, hd⟩ => ⟨he, hd.below⟩⟩
    have HBX : Aside0 (∀ w, Keep q gW w3 w → w.cell? ⟨ga, 2, none⟩ = some (.int .i64 Sr) ∧ w.cell? ⟨ga, 3, none⟩ = some (.int .i64 x)) := ⟨fun w hk => by
      have h5 := blk_upd BA3.out hk HNM3.out
      exact ⟨(blk_cell h5 2).trans rfl, (blk_cell h5 3).trans rfl⟩⟩
    have HPC : Aside0 (∀ w q0, XC W w gW q0 n → q0.on = q.on → (∀ k, (q0.d k).g = (q.d k).g) → w.cell? ⟨gW, s, none⟩ = some (.pointer (some ⟨(q.d s).g, 0, none⟩))) := ⟨fun w q0 h0 e1 e2 => by rw [h0.pc s hs3]; unfold pC; rw [e1, if_pos HOS.out, e2]⟩
    have HQC : Aside0 (∀ w q0, XC W w gW q0 n → q0.on = q.on → q0.rg = q.rg → w.cell? ⟨gW, 3 + s, none⟩ = some (.pointer (some ⟨q.rg s, 0, none⟩))) := ⟨fun w q0 h0 e1 e2 => by rw [h0.qc s hs3]; unfold qC; rw [e1, if_pos HOS.out, e2]⟩
    have HK0 := Aside0.mk (And.intro (HBX.out w3 (Keep.below (Below.refl _ _))).1 (And.intro (HBX.out w3 (Keep.below (Below.refl _ _))).2 (HPC.out w3 q H3.out rfl (fun _ => rfl))))
    go_upto_region 25 with fail
    go_region_held3 (fun w' => w'.cell? ⟨ga, 2, none⟩ = some (.int .i64 Sr) ∧ w'.cell? ⟨ga, 3, none⟩ = some (.int .i64 x) ∧ w'.cell? ⟨gW, s, none⟩ = some (.pointer (some ⟨(q.d s).g, 0, none⟩))) (first | exact HK5.out | exact HK4.out | exact HK0.out) (first
      | (go_at_call 30; go_must (refine (HT3.out _).mono ?_); rintro e w4 ⟨rfl, hb⟩; have HB4 := Aside0.mk (below_next (Below.refl w3.heap.size w3).drew hb); have HK4 := Aside0.mk (And.intro (HBX.out w4 (Keep.below HB4.out)).1 (And.intro (HBX.out w4 (Keep.below HB4.out)).2 (HPC.out w4 q (H3.out.below HB4.out) rfl (fun _ => rfl)))); clear hb)
      | (go_at_call 42; obtain ⟨ra, rb, htk⟩ := XrT.pq_take (H3.out.below HB4.out) HE.out.1 hm3 hs3 HE.out.2 HOS.out x; go_must (refine htk.mono ?_); rintro e w5 ⟨rfl, hkp, q1, h1, f1, f2, f3, hsec⟩; have HX1 := Aside0.mk (And.intro h1 (And.intro f1 (And.intro f2 f3))); have HSEC := Aside0.mk hsec; have HKP := Aside0.mk (show Keep q gW w3 w5 from Upd.trans (Keep.below (q := q) (gW := gW) HB4.out) (hkp.mono (fun b hb => hb.imp id (fun h1 => Nat.le_trans HB4.out.size h1)))); have HK5 := Aside0.mk (And.intro (HBX.out w5 HKP.out).1 (And.intro (HBX.out w5 HKP.out).2 (HPC.out w5 q1 HX1.out.1 HX1.out.2.1 HX1.out.2.2.2))); clear htk hkp h1 f1 f2 f3 hsec))
    have HL0 := Aside0.mk (And.intro HK5.out.1 (And.intro HK5.out.2.1 (HQC.out w5 q1 HX1.out.1 HX1.out.2.1 HX1.out.2.2.1)))
    clear HK0 HK4 HK5
    have HKEEP : Aside0 (∀ w, Keep q gW w3 w → Keep q gW w3 w) := ⟨fun _ h => h⟩
    go_upto_region 26 with fail
    go_region_held3 (fun w' => w'.cell? ⟨ga, 2, none⟩ = some (.int .i64 Sr) ∧ w'.cell? ⟨ga, 3, none⟩ = some (.int .i64 x) ∧ w'.cell? ⟨gW, 3 + s, none⟩ = some (.pointer (some ⟨q.rg s, 0, none⟩))) (first | exact HL7.out | exact HL6.out | exact HL0.out) (first
      | (go_at_call 30; go_must (refine (HT3.out _).mono ?_); rintro e w6 ⟨rfl, hb⟩; have HB6 := Aside0.mk (below_next (Below.refl w5.heap.size w5).drew hb); have HL6 := Aside0.mk (And.intro (HBX.out w6 (HKP.out.then (S := none_) (Upd.of_below HB6.out) (fun _ h => h.elim))).1 (And.intro (HBX.out w6 (HKP.out.then (S := none_) (Upd.of_below HB6.out) (fun _ h => h.elim))).2 (HQC.out w6 q1 (HX1.out.1.below HB6.out) HX1.out.2.1 HX1.out.2.2.1))); clear hb)
      | (go_at_call 62; go_must (refine (HSEC.out w6 HB6.out).mono ?_); rintro e w7 ⟨rfl, hkp7, q2, h2, he2, g1, g2⟩; have HX2 := Aside0.mk (And.intro h2 (And.intro he2 (And.intro g1 g2))); have HL7 := Aside0.mk (And.intro (HBX.out w7 (HKEEP.out w7 (Keep.below2 HB4.out hkp7))).1 (And.intro (HBX.out w7 (HKEEP.out w7 (Keep.below2 HB4.out hkp7))).2 (HQC.out w7 q2 HX2.out.1 HX2.out.2.2.1 HX2.out.2.2.2))); clear hkp7 h2 he2 g1 g2))
    clear HL0 HL6 HL7
    go_wp2_with fail
    refine (ArY.num.calls _ _).mono ?_
    rintro e w8 ⟨rfl, rfl⟩
    go_wp2_with fail
    go_ret
    exact ⟨by first | rfl | simp, q2, HX2.out.1.more (by omega), HX2.out.2.1, HX2.out.2.2.1⟩
  · have hpc : w2.cell? ⟨gW, s, none⟩ = some (.pointer none) := by rw [H2.out.pc s hs3]; unfold pC; rw [if_neg hos]
    clear hos
    go_upto_region 23 with fail
    go_quiet (first | (go_at_call 30; (with_reducible refine (HT2.out _).mono ?_); rintro e w' ⟨rfl, ⟨nd, rfl⟩⟩; (try first | exact ⟨rfl, _, World.drewN_drewN _ _ _⟩ | exact ⟨rfl, _, Eq.trans (World.drewN_drewN _ _ _) (congrArg (World.drewN _) (Nat.add_assoc _ _ _))⟩)))
    go_wp2_with fail
    go_ret
    exact ⟨rfl, q, (H2.out.below (pw_below_drewN (Below.refl _ _) _)).more (by omega), HE.out.1, rfl⟩
end Go.Proofs.Ytgjcffjicbmkhaa.XrL8
end

section
namespace Go.Proofs.Ytgjcffjicbmkhaa.XrL10
open Go Go.RowKit Go.Proofs.YtgjcffjicbmkhaaW.PrintWords Go.Proofs.YtgjcffjicbmkhaaW.PrintLast Go.Proofs.YtgjcffjicbmkhaaW.PrintMore Go.Proofs.Ytgjcffjicbmkhaa.RowU Go.Proofs.Ytgjcffjicbmkhaa.ArS Go.Proofs.Ytgjcffjicbmkhaa.ArM Go.Proofs.Ytgjcffjicbmkhaa.GenM Go.Proofs.Ytgjcffjicbmkhaa.GenN Go.Proofs.Ytgjcffjicbmkhaa.BokA Go.Proofs.Ytgjcffjicbmkhaa.BokB Go.Proofs.Ytgjcffjicbmkhaa.ArP Go.Proofs.Ytgjcffjicbmkhaa.ArQ Go.Proofs.Ytgjcffjicbmkhaa.RfM Go.Proofs.Ytgjcffjicbmkhaa.XrM Go.Proofs.Ytgjcffjicbmkhaa.XrN Go.Proofs.Ytgjcffjicbmkhaa.XrP Go.Proofs.Ytgjcffjicbmkhaa.XrW Go.Proofs.Ytgjcffjicbmkhaa.XrB Go.Proofs.Ytgjcffjicbmkhaa.BegW
set_option linter.unusedVariables false
set_option maxRecDepth 100000
variable {W wr w' : World} {gW : Nat} {q : XQ} {n : Nat}
set_option maxHeartbeats 16000000 in
theorem lists.calls (h : XC W wr gW q n) (hn9 : n ≤ 1000000) (he : XE q) (Bk Sr x y z : Int) (V : Nat) (Ad : Option Addr) (nb cd : Nat) (hon : q.on (mod3 Bk) = true) :
    Calls Try.prog 48 #[.pointer (some ⟨gW, 0, none⟩), .agg #[.int .i64 10, .int .i64 Bk, .int .i64 Sr, .int .i64 x, .int .i64 y, .int .i64 z, .int .u64 (V : Int), .slice Ad nb cd]] wr fun e w' => StR W w' gW q (n + 1) e := by
  have H := Aside0.mk h
  obtain ⟨m, hm⟩ : ∃ m, m = mod3 Bk := ⟨_, rfl⟩
  have hm3 : m < 3 := by rw [hm]; exact mod3_lt Bk
  have HE := Aside0.mk (And.intro he hon)
  have HT : Aside0 (∀ w, Calls Try.prog 30 #[.int .i64 Bk] w fun e w' => e = .returned (.int .i64 (m : Int)) ∧ Drawn0 w w') := ⟨fun w => by rw [hm]; exact three_q Bk w⟩
  rw [← hm] at HE
  clear h he hon hm
  go_enter Try.func48, Try.ntmps48
  go_upto_region 1 with ((with_reducible refine gate_dst (N := 3) rfl ?_); refine box_event ?hg (N := 3) ?hd (cs := #[.int .i64 10, .int .i64 Bk, .int .i64 Sr, .int .i64 x, .int .i64 y, .int .i64 z, .int .u64 (V : Int), .slice Ad nb cd]) (t := 80) ?hr ?_; (case hd => rfl); (case hg => rfl); (case hr => first | (go_simp; done) | (go_simp; rfl)); intro ga hga w1 hbox hb; have BA := Aside0.mk hbox; have HB := Aside0.mk hb; have GA := Aside0.mk hga; clear hbox hb hga)
  have H1 := Aside0.mk (H.out.below HB.out)
  have b1 : w1.cell? ⟨ga, 1, none⟩ = some (.int .i64 Bk) := (blk_cell BA.out 1).trans rfl
  have hpc : w1.cell? ⟨gW, m, none⟩ = some (.pointer (some ⟨(q.d m).g, 0, none⟩)) := by rw [H1.out.pc m hm3]; unfold pC; rw [if_pos HE.out.2]
  have hqc : w1.cell? ⟨gW, 3 + m, none⟩ = some (.pointer (some ⟨q.rg m, 0, none⟩)) := by rw [H1.out.qc m hm3]; unfold qC; rw [if_pos HE.out.2]
  have hmi : (m : Int) < 3 := by omega
  have hm0 : (0 : Int) ≤ m := by omega
  go_quiet (first | (go_at_call 30; (with_reducible refine (HT.out _).mono ?_); rintro e w' ⟨rfl, ⟨nd, rfl⟩⟩; (try first | exact ⟨rfl, _, World.drewN_drewN _ _ _⟩ | exact ⟨rfl, _, Eq.trans (World.drewN_drewN _ _ _) (congrArg (World.drewN _) (Nat.add_assoc _ _ _))⟩)))
  have hbd := pw_below_drewN (Below.refl w1.heap.size w1) nq
  have H2 := Aside0.mk (H1.out.below hbd)
  have BA2 := Aside0.mk (blk_below BA.out hbd)
  have HB2 := Aside0.mk (below_next HB.out hbd)
  have HNM : Aside0 (¬ (q.mine gW ga ∨ (w1.drewN nq).heap.size ≤ ga)) := ⟨by
    rintro (h1 | h1)
    · exact (H.out.fresh (b := ga) (by rw [GA.out]; exact Nat.le_refl _)).1 h1
    · have := cell_lt BA2.out; omega⟩
  clear hbd b1 hpc hqc H1 BA HB
  generalize w1.drewN nq = w2 at *
  have b0 : w2.cell? ⟨ga, 0, none⟩ = some (.int .i64 10) := (blk_cell BA2.out 0).trans rfl
  obtain ⟨sz, hsz⟩ : ∃ sz, sz = (q.d m).sz := ⟨_, rfl⟩
  obtain ⟨u, hu⟩ : ∃ u, u = used (q.d m).l := ⟨_, rfl⟩
  have hr := H2.out.rf m hm3 HE.out.2
  have c0 := hr.c0
  have c1 := hr.c1
  rw [HE.out.1 m hm3 HE.out.2, ← hu] at c1
  rw [← hsz] at c0
  have HSZ : Aside0 (∀ w, Below w2.heap.size w2 w → Calls Try.prog 36 #[.pointer (some ⟨(q.d m).g, 0, none⟩)] w fun e w' => e = .returned (.int .i64 (sz : Int)) ∧ Drawn0 w w') := ⟨fun w hb => by rw [hsz]; exact size_q ((H2.out.below hb).th.at_ m hm3 HE.out.2)⟩
  have HUS : Aside0 (∀ w, Below w2.heap.size w2 w → Calls Try.prog 18 #[.pointer (some ⟨(q.d m).g, 0, none⟩)] w fun e w' => e = .returned (.int .i64 (u : Int)) ∧ Drawn0 w w') := ⟨fun w hb => by rw [hu]; exact used_q ((H2.out.below hb).th.at_ m hm3 HE.out.2)⟩
  have e1 : ((sz : Int) == (sz : Int)) = true := by simp
  have e2 : ((u : Int) == (u : Int)) = true := by simp
  clear hr hsz hu
  go_wp2_with fail
  go_quiet (first | (go_at_call 36; (with_reducible refine (HSZ.out _ (by first | exact Below.refl _ _ | exact pw_below_drewN (Below.refl _ _) _)).mono ?_); rintro e w' ⟨rfl, ⟨nd, rfl⟩⟩; (try first | exact ⟨rfl, _, World.drewN_drewN _ _ _⟩ | exact ⟨rfl, _, Eq.trans (World.drewN_drewN _ _ _) (congrArg (World.drewN _) (Nat.add_assoc _ _ _))⟩)) | (go_at_call 18; (with_reducible refine (HUS.out _ (by first | exact Below.refl _ _ | exact pw_below_drewN (Below.refl _ _) _)).mono ?_); rintro e w' ⟨rfl, ⟨nd, rfl⟩⟩; (try first | exact ⟨rfl, _, World.drewN_drewN _ _ _⟩ | exact ⟨rfl, _, Eq.trans (World.drewN_drewN _ _ _) (congrArg (World.drewN _) (Nat.add_assoc _ _ _))⟩)))
  go_wp2_with fail
  go_ret
  exact ⟨rfl, q, (H2.out.below (pw_below_drewN (Below.refl _ _) _)).more (by omega), HE.out.1, rfl⟩
end Go.Proofs.Ytgjcffjicbmkhaa.XrL10
end

section
namespace Go.Proofs.Ytgjcffjicbmkhaa.XrL11
open Go Go.RowKit Go.Proofs.YtgjcffjicbmkhaaW.PrintWords Go.Proofs.YtgjcffjicbmkhaaW.PrintLast Go.Proofs.YtgjcffjicbmkhaaW.PrintMore Go.Proofs.Ytgjcffjicbmkhaa.RowU Go.Proofs.Ytgjcffjicbmkhaa.ArS Go.Proofs.Ytgjcffjicbmkhaa.ArM Go.Proofs.Ytgjcffjicbmkhaa.GenM Go.Proofs.Ytgjcffjicbmkhaa.GenN Go.Proofs.Ytgjcffjicbmkhaa.BokA Go.Proofs.Ytgjcffjicbmkhaa.BokB Go.Proofs.Ytgjcffjicbmkhaa.ArP Go.Proofs.Ytgjcffjicbmkhaa.ArQ Go.Proofs.Ytgjcffjicbmkhaa.RfM Go.Proofs.Ytgjcffjicbmkhaa.XrM Go.Proofs.Ytgjcffjicbmkhaa.XrN Go.Proofs.Ytgjcffjicbmkhaa.XrP Go.Proofs.Ytgjcffjicbmkhaa.XrW Go.Proofs.Ytgjcffjicbmkhaa.XrB Go.Proofs.Ytgjcffjicbmkhaa.BegW
set_option linter.unusedVariables false
set_option maxRecDepth 100000
variable {W wr w' : World} {gW : Nat} {q : XQ} {n : Nat}
set_option maxHeartbeats 16000000 in
theorem lists.calls (h : XC W wr gW q n) (hn9 : n ≤ 1000000) (he : XE q) (Bk Sr x y z : Int) (V : Nat) (Ad : Option Addr) (nb cd : Nat) (hon : q.on (mod3 Bk) = true) :
    Calls Try.prog 48 #[.pointer (some ⟨gW, 0, none⟩), .agg #[.int .i64 11, .int .i64 Bk, .int .i64 Sr, .int .i64 x, .int .i64 y, .int .i64 z, .int .u64 (V : Int), .slice Ad nb cd]] wr fun e w' => StR W w' gW q (n + 1) e := by
  have H := Aside0.mk h
  obtain ⟨m, hm⟩ : ∃ m, m = mod3 Bk := ⟨_, rfl⟩
  have hm3 : m < 3 := by rw [hm]; exact mod3_lt Bk
  have HE := Aside0.mk (And.intro he hon)
  have HT : Aside0 (∀ w, Calls Try.prog 30 #[.int .i64 Bk] w fun e w' => e = .returned (.int .i64 (m : Int)) ∧ Drawn0 w w') := ⟨fun w => by rw [hm]; exact three_q Bk w⟩
  rw [← hm] at HE
  clear h he hon hm
  go_enter Try.func48, Try.ntmps48
  go_upto_region 1 with ((with_reducible refine gate_dst (N := 3) rfl ?_); refine box_event ?hg (N := 3) ?hd (cs := #[.int .i64 11, .int .i64 Bk, .int .i64 Sr, .int .i64 x, .int .i64 y, .int .i64 z, .int .u64 (V : Int), .slice Ad nb cd]) (t := 80) ?hr ?_; (case hd => rfl); (case hg => rfl); (case hr => first | (go_simp; done) | (go_simp; rfl)); intro ga hga w1 hbox hb; have BA := Aside0.mk hbox; have HB := Aside0.mk hb; have GA := Aside0.mk hga; clear hbox hb hga)
  have H1 := Aside0.mk (H.out.below HB.out)
  have b1 : w1.cell? ⟨ga, 1, none⟩ = some (.int .i64 Bk) := (blk_cell BA.out 1).trans rfl
  have hpc : w1.cell? ⟨gW, m, none⟩ = some (.pointer (some ⟨(q.d m).g, 0, none⟩)) := by rw [H1.out.pc m hm3]; unfold pC; rw [if_pos HE.out.2]
  have hqc : w1.cell? ⟨gW, 3 + m, none⟩ = some (.pointer (some ⟨q.rg m, 0, none⟩)) := by rw [H1.out.qc m hm3]; unfold qC; rw [if_pos HE.out.2]
  have hmi : (m : Int) < 3 := by omega
  have hm0 : (0 : Int) ≤ m := by omega
  go_quiet (first | (go_at_call 30; (with_reducible refine (HT.out _).mono ?_); rintro e w' ⟨rfl, ⟨nd, rfl⟩⟩; (try first | exact ⟨rfl, _, World.drewN_drewN _ _ _⟩ | exact ⟨rfl, _, Eq.trans (World.drewN_drewN _ _ _) (congrArg (World.drewN _) (Nat.add_assoc _ _ _))⟩)))
  have hbd := pw_below_drewN (Below.refl w1.heap.size w1) nq
  have H2 := Aside0.mk (H1.out.below hbd)
  have BA2 := Aside0.mk (blk_below BA.out hbd)
  have HB2 := Aside0.mk (below_next HB.out hbd)
  have HNM : Aside0 (¬ (q.mine gW ga ∨ (w1.drewN nq).heap.size ≤ ga)) := ⟨by
    rintro (h1 | h1)
    · exact (H.out.fresh (b := ga) (by rw [GA.out]; exact Nat.le_refl _)).1 h1
    · have := cell_lt BA2.out; omega⟩
  clear hbd b1 hpc hqc H1 BA HB
  generalize w1.drewN nq = w2 at *
  have b0 : w2.cell? ⟨ga, 0, none⟩ = some (.int .i64 11) := (blk_cell BA2.out 0).trans rfl
  obtain ⟨ws, hws⟩ : ∃ ws, ws = words (q.d m).l := ⟨_, rfl⟩
  have HP : Aside0 (∀ wq q0 n0, XC W wq gW q0 n0 → q0.d = q.d → q0.on = q.on → Calls Try.prog 17 #[.pointer (some ⟨(q.d m).g, 0, none⟩)] wq fun e w' => ImA wq w' ws e) := ⟨fun wq q0 n0 hq e1 e2 => by rw [hws, ← e1]; exact p_image hq hm3 (by rw [e2]; exact HE.out.2)⟩
  have HQ : Aside0 (∀ wq q0 n0, XC W wq gW q0 n0 → XE q0 → q0.d = q.d → q0.on = q.on → q0.rg = q.rg → Calls Try.prog 63 #[.pointer (some ⟨q.rg m, 0, none⟩)] wq fun e w' => ImA wq w' ws e) := ⟨fun wq q0 n0 hq h5 e1 e2 e3 => by rw [hws, ← e1, ← e3]; exact q_image hq h5 hm3 (by rw [e2]; exact HE.out.2)⟩
  have hlen : ws.length ≤ 1048576 := by rw [hws]; exact words_len H2.out hm3 HE.out.2
  have HLB := Aside0.mk (show ws.length ≤ 100000000000000 by omega)
  clear hws
  go_wp2_with fail
  refine (HP.out w2 q n H2.out rfl rfl).mono ?_
  rintro e w3 ⟨r1, c1, rfl, g1, o1, hb1⟩
  have R3 := Aside0.mk (And.intro g1 (And.intro o1 hb1))
  have H3 := Aside0.mk (H2.out.below hb1)
  clear g1 o1 hb1
  go_wp2_with fail
  refine (HP.out w3 q n H3.out rfl rfl).mono ?_
  rintro e w4 ⟨r2, c2, rfl, g2, o2, hb2⟩
  have R4 := Aside0.mk (And.intro g2 (And.intro o2 hb2))
  have H4 := Aside0.mk (H3.out.below hb2)
  clear g2 o2 hb2
  go_wp2_with fail
  refine (HQ.out w4 q n H4.out HE.out.1 rfl rfl rfl).mono ?_
  rintro e w5 ⟨r3, c3, rfl, g3, o3, hb3⟩
  have R5 := Aside0.mk (And.intro g3 (And.intro o3 hb3))
  have H5 := Aside0.mk (H4.out.below hb3)
  have HG : Aside0 (∀ w, Below w5.heap.size w5 w → WordsAt w r1 c1 ws ∧ WordsAt w r2 c2 ws ∧ WordsAt w r3 c3 ws) := ⟨fun w hb => by
    have k5 := below_next R5.out.2.2 hb
    have k4 := below_next R4.out.2.2 k5
    exact ⟨R3.out.1.upd (S := none_) (Upd.of_below k4) (fun h => h), R4.out.1.upd (S := none_) (Upd.of_below k5) (fun h => h), R5.out.1.upd (S := none_) (Upd.of_below hb) (fun h => h)⟩⟩
  clear g3 o3 hb3
  go_wp2_with fail
  have G5 := HG.out w5 (Below.refl _ _)
  refine (SamW.same_calls G5.1 G5.2.2 _ rfl HLB.out).mono ?_
  clear G5
  rintro e w6 ⟨rfl, hb6⟩
  have HB6 := Aside0.mk hb6
  clear hb6
  go_wp2_with fail
  have G6 := HG.out w6 HB6.out
  refine (SamW.same_calls G6.2.1 G6.1 _ rfl HLB.out).mono ?_
  clear G6
  rintro e w7 ⟨rfl, hb7⟩
  have HB7 := Aside0.mk (below_next HB6.out hb7)
  clear hb7
  have H7 := Aside0.mk (H5.out.below HB7.out)
  have G7 := Aside0.mk (HG.out w7 HB7.out)
  have HO1 : Aside0 (¬ q.mine gW r1 ∧ W.heap.size ≤ r1 ∧ r1 < w3.heap.size) := ⟨(H2.out.fresh R3.out.2.1).1, (H2.out.fresh R3.out.2.1).2, R3.out.1.lt⟩
  by_cases hl : ws.length ≤ 5000
  · have hl' : (ws.length : Int) ≤ 5000 := by omega
    have HBK := Aside0.mk (BokD.words.calls H7.out.bk (some ⟨r1, 0, none⟩) ws.length c1 (ws.map RowU.u64) (.inr ⟨r1, c1, by rw [List.length_map], RfA.gen_of_words G7.out.1⟩) (by rw [List.length_map]; omega) (fun b hb => by obtain rfl := Option.some.inj hb; have h5 := HO1.out.1; exact ⟨Classical.byContradiction fun e => h5 (.inr (.inr (.inl e))), fun e => h5 (.inl e)⟩) (by have := H7.out.cnt; omega))
    go_wp2_with fail
    refine HBK.out.mono ?_
    clear HBK
    rintro e w8 ⟨rfl, ow', vW', vWo', eW', used', hB, hS⟩
    have H8 := Aside0.mk (H7.out.book (m := n + 1) hB hS (fun b hb => by obtain rfl := Option.some.inj hb; exact ⟨HO1.out.1, HO1.out.2.1⟩) (by have := H7.out.cnt; omega))
    have hne : ¬ (r2 = gW ∨ q.ow r2 ≠ none ∨ vB_ (.slice (some ⟨r1, 0, none⟩) ws.length c1) r2) := fun h3 => by
      have h2 := (H3.out.fresh R4.out.2.1).1
      rcases h3 with h3 | h3 | h3
      · exact h2 (.inl h3)
      · exact h2 (.inr (.inr (.inl h3)))
      · have h5 : r1 = r2 := Option.some.inj h3
        have := HO1.out.2.2; have := R4.out.2.1; omega
    have W2 := Aside0.mk (G7.out.2.1.upd hS.upd hne)
    clear hB hS hne
    go_wp2_with fail
    refine (HQ.out w8 _ _ H8.out HE.out.1 rfl rfl rfl).mono ?_
    rintro e w9 ⟨r4, c4, rfl, g4, o4, hb4⟩
    have H9 := Aside0.mk (H8.out.below hb4)
    have HS9 := Aside0.mk (SamW.same_calls (W2.out.upd (S := none_) (Upd.of_below hb4) (fun h => h)) g4 _ rfl HLB.out)
    clear g4 o4 hb4
    go_wp2_with fail
    refine HS9.out.mono ?_
    clear HS9
    rintro e w10 ⟨rfl, hb10⟩
    have H10 := Aside0.mk (H9.out.below hb10)
    clear hb10
    go_wp2_with fail
    go_ret
    exact ⟨rfl, _, H10.out, HE.out.1, rfl⟩
  · have hl' : ¬ (ws.length : Int) ≤ 5000 := by omega
    have HLP : Aside0 (∃ P : List Value, P.length = 0 ∧ GenAt 36 w7 r1 c1 (P ++ (ws.map RowU.u64).drop 0) ∧ Upd (fun b => b = r1) w7 w7) := ⟨[], rfl, by simpa using RfA.gen_of_words G7.out.1, Upd.refl _ _⟩
    go_upto_region 38 with fail
    go_loopw [28] (fun v wr' => ∃ i : Nat, i ≤ ws.length ∧ v = .int .i64 i ∧ Aside0 (∃ P : List Value, P.length = i ∧ GenAt 36 wr' r1 c1 (P ++ (ws.map RowU.u64).drop i) ∧ Upd (fun b => b = r1) w7 wr')) (fun v _ => ws.length - (intOf v).toNat)
    case atStart => exact ⟨0, Nat.zero_le _, rfl, HLP⟩
    case round =>
      obtain ⟨i, hi, rfl, HL⟩ := hrel
      clear HLP
      rename World => wv
      by_cases hlt : i < ws.length
      · have hlt' : (i : Int) < ws.length := by omega
        have hi0 : (0 : Int) ≤ i := by omega
        obtain ⟨P, hP, hGA, hu⟩ := HL.out
        obtain ⟨c, hc⟩ : ∃ c, ws[i]? = some c := ⟨_, List.getElem?_eq_getElem hlt⟩
        have hd : (ws.map RowU.u64).drop i = .int .u64 (c : Int) :: (ws.map RowU.u64).drop (i + 1) := by
          have h5 : i < (ws.map RowU.u64).length := by rw [List.length_map]; exact hlt
          rw [List.drop_eq_getElem_cons h5]
          congr 1
          rw [List.getElem_map]
          have h6 := (List.getElem?_eq_some_iff.1 hc).2
          rw [h6]; rfl
        have hkk := hGA.get i (.int .u64 (c : Int)) (by rw [List.getElem?_append_right (by omega), hP, Nat.sub_self, hd]; rfl)
        have hfz := gen_frozen hGA i
        have HSET : Aside0 (∀ y, ∃ P' : List Value, P'.length = i + 1 ∧ GenAt 36 (wv.setCell ⟨r1, i, none⟩ y) r1 c1 (P' ++ (ws.map RowU.u64).drop (i + 1)) ∧ Upd (fun b => b = r1) w7 (wv.setCell ⟨r1, i, none⟩ y)) := ⟨fun y => by
          have h5 := gen_set hGA i (by simp [hP]; omega) y
          rw [List.set_append_right _ _ (by omega), hP, Nat.sub_self, hd, List.set_cons_zero] at h5
          exact ⟨P ++ [y], by rw [List.length_append, hP]; rfl, by rw [List.append_assoc]; exact h5, hu.put (.inl rfl) _ _⟩⟩
        clear hGA hu hc hd HL
        go_wp2_with fail
        exact ⟨⟨i + 1, by omega, by rw [Int.natCast_succ], ⟨HSET.out _⟩⟩, by simp only [intOf]; omega⟩
      · obtain rfl : i = ws.length := by omega
        clear hlt
        obtain ⟨P, hP, hg, hu⟩ := HL.out
        have H8 := Aside0.mk (H7.out.moveU hu (fun b hm hb => by subst hb; exact HO1.out.1 hm) (fun b hb => by subst hb; exact HO1.out.2.1))
        have W2 := Aside0.mk (G7.out.2.1.upd hu (fun e => by have := HO1.out.2.2; have := R4.out.2.1; omega))
        clear hg hu hP
        go_wp2_with fail
        refine (HP.out wv q n H8.out rfl rfl).mono ?_
        rintro e w9 ⟨r4, c4, rfl, g4, o4, hb4⟩
        have H9 := Aside0.mk (H8.out.below hb4)
        have W9 := Aside0.mk (W2.out.upd (S := none_) (Upd.of_below hb4) (fun h => h))
        have HS9 := Aside0.mk (SamW.same_calls g4 W9.out _ rfl HLB.out)
        clear g4 o4 hb4
        go_wp2_with fail
        refine HS9.out.mono ?_
        clear HS9
        rintro e w10 ⟨rfl, hb10⟩
        have H10 := Aside0.mk (H9.out.below hb10)
        have W10 := Aside0.mk (W9.out.upd (S := none_) (Upd.of_below hb10) (fun h => h))
        clear hb10
        go_wp2_with fail
        refine (HQ.out w10 _ _ H10.out HE.out.1 rfl rfl rfl).mono ?_
        rintro e w11 ⟨r5, c5, rfl, g5, o5, hb5⟩
        have H11 := Aside0.mk (H10.out.below hb5)
        have HS11 := Aside0.mk (SamW.same_calls (W10.out.upd (S := none_) (Upd.of_below hb5) (fun h => h)) g5 _ rfl HLB.out)
        clear g5 o5 hb5
        go_wp2_with fail
        refine HS11.out.mono ?_
        clear HS11
        rintro e w12 ⟨rfl, hb12⟩
        have H12 := Aside0.mk (H11.out.below hb12)
        clear hb12
        go_wp2_with fail
        go_ret
        exact ⟨rfl, q, H12.out.more (by omega), HE.out.1, rfl⟩
end Go.Proofs.Ytgjcffjicbmkhaa.XrL11
end

section
namespace Go.Proofs.Ytgjcffjicbmkhaa.XrL12
open Go Go.RowKit Go.Proofs.YtgjcffjicbmkhaaW.PrintWords Go.Proofs.YtgjcffjicbmkhaaW.PrintLast Go.Proofs.YtgjcffjicbmkhaaW.PrintMore Go.Proofs.Ytgjcffjicbmkhaa.RowU Go.Proofs.Ytgjcffjicbmkhaa.ArS Go.Proofs.Ytgjcffjicbmkhaa.ArM Go.Proofs.Ytgjcffjicbmkhaa.GenM Go.Proofs.Ytgjcffjicbmkhaa.GenN Go.Proofs.Ytgjcffjicbmkhaa.BokA Go.Proofs.Ytgjcffjicbmkhaa.BokB Go.Proofs.Ytgjcffjicbmkhaa.ArP Go.Proofs.Ytgjcffjicbmkhaa.ArQ Go.Proofs.Ytgjcffjicbmkhaa.RfM Go.Proofs.Ytgjcffjicbmkhaa.XrM Go.Proofs.Ytgjcffjicbmkhaa.XrN Go.Proofs.Ytgjcffjicbmkhaa.XrP Go.Proofs.Ytgjcffjicbmkhaa.XrW Go.Proofs.Ytgjcffjicbmkhaa.XrB Go.Proofs.Ytgjcffjicbmkhaa.BegW
set_option linter.unusedVariables false
set_option maxRecDepth 100000
variable {W wr w' : World} {gW : Nat} {q : XQ} {n : Nat}
set_option maxHeartbeats 16000000 in
theorem lists.calls (h : XC W wr gW q n) (hn9 : n ≤ 1000000) (he : XE q) (Bk Sr x y z : Int) (V : Nat) (Ad : Option Addr) (nb cd : Nat) (hon : q.on (mod3 Bk) = true) :
    Calls Try.prog 48 #[.pointer (some ⟨gW, 0, none⟩), .agg #[.int .i64 12, .int .i64 Bk, .int .i64 Sr, .int .i64 x, .int .i64 y, .int .i64 z, .int .u64 (V : Int), .slice Ad nb cd]] wr fun e w' => StR W w' gW q (n + 1) e := by
  have H := Aside0.mk h
  obtain ⟨m, hm⟩ : ∃ m, m = mod3 Bk := ⟨_, rfl⟩
  have hm3 : m < 3 := by rw [hm]; exact mod3_lt Bk
  have HE := Aside0.mk (And.intro he hon)
  have HT : Aside0 (∀ w, Calls Try.prog 30 #[.int .i64 Bk] w fun e w' => e = .returned (.int .i64 (m : Int)) ∧ Drawn0 w w') := ⟨fun w => by rw [hm]; exact three_q Bk w⟩
  rw [← hm] at HE
  clear h he hon hm
  go_enter Try.func48, Try.ntmps48
  go_upto_region 1 with ((with_reducible refine gate_dst (N := 3) rfl ?_); refine box_event ?hg (N := 3) ?hd (cs := #[.int .i64 12, .int .i64 Bk, .int .i64 Sr, .int .i64 x, .int .i64 y, .int .i64 z, .int .u64 (V : Int), .slice Ad nb cd]) (t := 80) ?hr ?_; (case hd => rfl); (case hg => rfl); (case hr => first | (go_simp; done) | (go_simp; rfl)); intro ga hga w1 hbox hb; have BA := Aside0.mk hbox; have HB := Aside0.mk hb; have GA := Aside0.mk hga; clear hbox hb hga)
  have H1 := Aside0.mk (H.out.below HB.out)
  have b1 : w1.cell? ⟨ga, 1, none⟩ = some (.int .i64 Bk) := (blk_cell BA.out 1).trans rfl
  have hpc : w1.cell? ⟨gW, m, none⟩ = some (.pointer (some ⟨(q.d m).g, 0, none⟩)) := by rw [H1.out.pc m hm3]; unfold pC; rw [if_pos HE.out.2]
  have hqc : w1.cell? ⟨gW, 3 + m, none⟩ = some (.pointer (some ⟨q.rg m, 0, none⟩)) := by rw [H1.out.qc m hm3]; unfold qC; rw [if_pos HE.out.2]
  have hmi : (m : Int) < 3 := by omega
  have hm0 : (0 : Int) ≤ m := by omega
  go_quiet (first | (go_at_call 30; (with_reducible refine (HT.out _).mono ?_); rintro e w' ⟨rfl, ⟨nd, rfl⟩⟩; (try first | exact ⟨rfl, _, World.drewN_drewN _ _ _⟩ | exact ⟨rfl, _, Eq.trans (World.drewN_drewN _ _ _) (congrArg (World.drewN _) (Nat.add_assoc _ _ _))⟩)))
  have hbd := pw_below_drewN (Below.refl w1.heap.size w1) nq
  have H2 := Aside0.mk (H1.out.below hbd)
  have BA2 := Aside0.mk (blk_below BA.out hbd)
  have HB2 := Aside0.mk (below_next HB.out hbd)
  have HNM : Aside0 (¬ (q.mine gW ga ∨ (w1.drewN nq).heap.size ≤ ga)) := ⟨by
    rintro (h1 | h1)
    · exact (H.out.fresh (b := ga) (by rw [GA.out]; exact Nat.le_refl _)).1 h1
    · have := cell_lt BA2.out; omega⟩
  clear hbd b1 hpc hqc H1 BA HB
  generalize w1.drewN nq = w2 at *
  have b0 : w2.cell? ⟨ga, 0, none⟩ = some (.int .i64 12) := (blk_cell BA2.out 0).trans rfl
  have HP := Aside0.mk (ArZ.clear.calls (H2.out.th.at_ m hm3 HE.out.2))
  go_wp2_with fail
  refine HP.out.mono ?_
  clear HP
  rintro e w3 ⟨rfl, gw', gf', hA, e1, e2, hu⟩
  have H3 := Aside0.mk (H2.out.p1 hm3 HE.out.2 hA (.inr e1) (.inr e2) (hu.mono (fun b hb => .inl hb)))
  have HK3 : Aside0 (Keep q gW w2 w3) := ⟨Keep.of hu (fun b hb => .inl (.inr (.inr (.inr ⟨m, hm3, HE.out.2, .inl hb⟩))))⟩
  clear hA e1 e2 hu
  have HQ : Aside0 (Calls Try.prog 66 #[.pointer (some ⟨q.rg m, 0, none⟩)] w3 fun e w' => e = .returned (.tuple #[]) ∧ StX W w' gW q n) := ⟨by
    have hr := H3.out.rf m hm3 HE.out.2
    rw [putP_sz] at hr
    refine (RfG.clear.calls (lo := q.lo) hr).mono ?_
    rintro e w4 ⟨rfl, hR, hu⟩
    exact ⟨rfl, (H2.out.second HE.out.1 hm3 HE.out.2 H3.out HK3.out (Below.refl _ _) hR rfl (fun _ _ h => h) (fun b hb => .inl hb) (fun b hb => Nat.lt_of_lt_of_le (H3.out.lo_lt b hb) hu.size) hu).2⟩⟩
  go_wp2_with fail
  refine HQ.out.mono ?_
  clear HQ
  rintro e w4 ⟨rfl, hst⟩
  have HST := Aside0.mk hst
  clear hst
  go_wp2_with fail
  go_ret
  obtain ⟨q', h1, h2, h3⟩ := HST.out
  exact ⟨rfl, q', h1.more (by omega), h2, h3⟩
end Go.Proofs.Ytgjcffjicbmkhaa.XrL12
end

section
namespace Go.Proofs.Ytgjcffjicbmkhaa.XrX
open Go Go.RowKit Go.Proofs.YtgjcffjicbmkhaaW.PrintWords Go.Proofs.YtgjcffjicbmkhaaW.PrintLast Go.Proofs.YtgjcffjicbmkhaaW.PrintMore Go.Proofs.Ytgjcffjicbmkhaa.RowU Go.Proofs.Ytgjcffjicbmkhaa.ArS Go.Proofs.Ytgjcffjicbmkhaa.ArM Go.Proofs.Ytgjcffjicbmkhaa.GenM Go.Proofs.Ytgjcffjicbmkhaa.GenN Go.Proofs.Ytgjcffjicbmkhaa.BokA Go.Proofs.Ytgjcffjicbmkhaa.BokB Go.Proofs.Ytgjcffjicbmkhaa.ArP Go.Proofs.Ytgjcffjicbmkhaa.ArQ Go.Proofs.Ytgjcffjicbmkhaa.RfM Go.Proofs.Ytgjcffjicbmkhaa.XrM Go.Proofs.Ytgjcffjicbmkhaa.XrN Go.Proofs.Ytgjcffjicbmkhaa.XrP Go.Proofs.Ytgjcffjicbmkhaa.XrW Go.Proofs.Ytgjcffjicbmkhaa.XrB Go.Proofs.Ytgjcffjicbmkhaa.BegW
set_option linter.unusedVariables false
set_option maxRecDepth 100000
variable {W wr w' : World} {gW : Nat} {q : XQ} {n : Nat}
structure OpK (W : World) (x y z : Int) (V : Nat) (Ad : Option Addr) (nb cd : Nat) (bs : List Nat) : Prop where
  hx : -9223372036854775808 ≤ x ∧ x < 9223372036854775808
  hy : -9223372036854775808 ≤ y ∧ y < 9223372036854775808
  hz : -9223372036854775808 ≤ z ∧ z < 9223372036854775808
  hV : V < 18446744073709551616
  hbs : ∀ c ∈ bs, c < 256
  hlb : bs.length ≤ 140737488351232
  hnb : nb = bs.length
  hcd : nb ≤ cd
  hrd : FlipW.Rd8 W Ad bs
theorem lists_all (h : XC W wr gW q n) (hn9 : n ≤ 1000000) (he : XE q) (K Bk Sr x y z : Int) (V : Nat) (Ad : Option Addr) (nb cd : Nat) (bs : List Nat) (hop : OpK W x y z V Ad nb cd bs) (hon : q.on (mod3 Bk) = true) :
    Calls Try.prog 48 #[.pointer (some ⟨gW, 0, none⟩), .agg #[.int .i64 K, .int .i64 Bk, .int .i64 Sr, .int .i64 x, .int .i64 y, .int .i64 z, .int .u64 (V : Int), .slice Ad nb cd]] wr fun e w' => StR W w' gW q (n + 1) e := by
  by_cases k6 : K = 6
  · subst k6; exact XrL6.lists.calls h hn9 he Bk Sr x y z V Ad nb cd hon hop.hy hop.hz
  by_cases k7 : K = 7
  · subst k7; exact XrL7.lists.calls h hn9 he Bk Sr x y z V Ad nb cd hon hop.hy bs hop.hbs hop.hlb hop.hnb hop.hcd hop.hrd
  by_cases k8 : K = 8
  · subst k8; exact XrL8.lists.calls h hn9 he Bk Sr x y z V Ad nb cd hon
  by_cases k10 : K = 10
  · subst k10; exact XrL10.lists.calls h hn9 he Bk Sr x y z V Ad nb cd hon
  by_cases k11 : K = 11
  · subst k11; exact XrL11.lists.calls h hn9 he Bk Sr x y z V Ad nb cd hon
  by_cases k12 : K = 12
  · subst k12; exact XrL12.lists.calls h hn9 he Bk Sr x y z V Ad nb cd hon
  exact XrL0.lists.calls h hn9 he K Bk Sr x y z V Ad nb cd hon ⟨by simp [k6], by simp [k7], by simp [k8], by simp [k10], by simp [k11], by simp [k12]⟩
end Go.Proofs.Ytgjcffjicbmkhaa.XrX
end

section
namespace Go.Proofs.Ytgjcffjicbmkhaa.XrY
open Go Go.RowKit Go.Proofs.YtgjcffjicbmkhaaW.PrintWords Go.Proofs.YtgjcffjicbmkhaaW.PrintLast Go.Proofs.YtgjcffjicbmkhaaW.PrintMore Go.Proofs.Ytgjcffjicbmkhaa.RowU Go.Proofs.Ytgjcffjicbmkhaa.ArS Go.Proofs.Ytgjcffjicbmkhaa.ArM Go.Proofs.Ytgjcffjicbmkhaa.GenM Go.Proofs.Ytgjcffjicbmkhaa.BokA Go.Proofs.Ytgjcffjicbmkhaa.BokB Go.Proofs.Ytgjcffjicbmkhaa.ArP Go.Proofs.Ytgjcffjicbmkhaa.ArQ Go.Proofs.Ytgjcffjicbmkhaa.RfM Go.Proofs.Ytgjcffjicbmkhaa.XrM Go.Proofs.Ytgjcffjicbmkhaa.XrN Go.Proofs.Ytgjcffjicbmkhaa.XrP
set_option linter.unusedVariables false
set_option maxRecDepth 100000
variable {W wr w' : World} {gW : Nat} {q : XQ} {n : Nat}
theorem set_at {w : World} {g k : Nat} {v u : Value} (hb : ∃ cur T, w.heap[g]? = some (.cells cur T (0, 0))) (hc : w.cell? ⟨g, k, none⟩ = some u) : (w.setCell ⟨g, k, none⟩ v).cell? ⟨g, k, none⟩ = some v := by
  obtain ⟨cur, T, hbk⟩ := hb
  rw [blk_cell (blk_set hbk _ _)]
  rw [blk_cell hbk] at hc
  have hlt : k < cur.size := by
    rcases Nat.lt_or_ge k cur.size with h3 | h3
    · exact h3
    · rw [Array.getElem?_eq_none h3] at hc; cases hc
  simp [hlt]
def newQ (q : XQ) (d' : Nat → ArD) (on' : Nat → Bool) (rg' : Nat → Nat) (rv' : Nat → Value) (re' : Nat → List RO) (lo' : Own) : XQ := { q with d := d', on := on', rg := rg', rv := rv', re := re', lo := lo' }
theorem _root_.Go.Proofs.Ytgjcffjicbmkhaa.XrM.XC.renew (h : XC W wr gW q n) {i : Nat} (hi : i < 3) {d' : Nat → ArD} {on' : Nat → Bool} {rg' : Nat → Nat} {rv' : Nat → Value} {re' : Nat → List RO} {lo' : Own}
    (hw : w' = (wr.setCell ⟨gW, i, none⟩ (pC (newQ q d' on' rg' rv' re' lo') i)).setCell ⟨gW, 3 + i, none⟩ (qC (newQ q d' on' rg' rv' re' lo') i)) (hT : Three wr d' on') (hR : ∀ k, k < 3 → on' k = true → RA k wr lo' (rg' k) (d' k).sz (rv' k) (re' k)) (hle : ∀ b t, q.lo b = some t → lo' b = some t)
    (hcl : ∀ b, lo' b ≠ none → q.lo b ≠ none ∨ (¬ q.mine gW b ∧ W.heap.size ≤ b ∧ b < wr.heap.size)) (hpr : ∀ b, (newQ q d' on' rg' rv' re' lo').prog b → (q.prog b ∨ (¬ q.mine gW b ∧ W.heap.size ≤ b ∧ b < wr.heap.size)) ∧ lo' b = none)
    (hp : ∀ j, j < 3 → j ≠ i → pC (newQ q d' on' rg' rv' re' lo') j = pC q j) (hq : ∀ j, j < 3 → j ≠ i → qC (newQ q d' on' rg' rv' re' lo') j = qC q j) : XC W w' gW (newQ q d' on' rg' rv' re' lo') n := by
  have hu : Upd (fun b => b = gW) wr w' := by rw [hw]; exact Upd.put (S := fun b => b = gW) (Upd.put (S := fun b => b = gW) (Upd.refl _ wr) (.inl rfl) _ _) (.inl rfl) _ _
  have hsz : w'.heap.size = wr.heap.size := by rw [hw]; simp [World.setCell]
  have hb1 : ∃ cur T, (wr.setCell ⟨gW, i, none⟩ (pC (newQ q d' on' rg' rv' re' lo') i)).heap[gW]? = some (.cells cur T (0, 0)) := by obtain ⟨cur, T, hb⟩ := h.blk; exact ⟨_, T, blk_set hb _ _⟩
  have kc : ∀ j, j ≠ i → j ≠ 3 + i → w'.cell? ⟨gW, j, none⟩ = wr.cell? ⟨gW, j, none⟩ := fun j h1 h2 => by
    rw [hw]
    exact (set_keep hb1 h2).trans (set_keep h.blk h1)
  have hlW : ∀ b, lo' b ≠ none → q.ow b = none ∧ b ≠ gW := fun b hb => by
    rcases hcl b hb with h1 | h1
    · exact h.x1 b h1
    · exact ⟨Classical.byContradiction fun e => h1.1 (.inr (.inr (.inl e))), fun e => h1.1 (.inl e)⟩
  have hpW : ∀ b, (newQ q d' on' rg' rv' re' lo').prog b → q.ow b = none ∧ b ≠ gW := fun b hb => by
    rcases (hpr b hb).1 with h1 | h1
    · exact (h.x2 b h1).2
    · exact ⟨Classical.byContradiction fun e => h1.1 (.inr (.inr (.inl e))), fun e => h1.1 (.inl e)⟩
  refine ⟨⟨fun k hk ho => ArD.upd (hT.at_ k hk ho) hu (fun b hb e => (hpW b ⟨k, hk, ho, hb⟩).2 e), hT.sep⟩, fun k hk ho => (hR k hk ho).upd hu (fun b t hb e => (hlW b (by rw [hb]; simp)).2 e) (fun _ _ h => h), ?_, fun j hj => ?_, fun j hj => ?_, fun j hj => (kc _ (by omega) (by omega)).trans (h.rc j hj), fun j hj => ?_, hlW, fun b hb => ⟨(hpr b hb).2, hpW b hb⟩, fun b hm => ?_, hu.to_below h.bel h.bel.size (fun b e => by subst e; exact (h.old _ (.inl rfl)).1), h.cnt⟩
  · have hB := h.bk
    refine ⟨⟨?_, fun j hj => (kc _ (by omega) (by omega)).trans (hB.hd.cell j hj)⟩, hB.tB.move hu (fun b t hb2 e => by subst e; rw [hB.ng] at hb2; cases hb2) (Own.le.refl _) (Nat.le_refl _), hB.tW.move hu (fun b t hb2 e => by subst e; rw [hB.ng] at hb2; cases hb2) (Own.le.refl _) (Nat.le_refl _), fun b hb2 => by rw [hsz]; exact hB.lt b hb2, hB.ng, hB.us⟩
    obtain ⟨cur, T, hb⟩ := hb1
    rw [hw]
    exact ⟨_, T, blk_set hb _ _⟩
  · by_cases c : j = i
    · subst c
      rw [hw]
      exact (set_keep hb1 (by omega)).trans (set_at h.blk (h.pc j hj))
    · rw [hp j hj c]
      exact (kc j c (by omega)).trans (h.pc j hj)
  · by_cases c : j = i
    · subst c
      rw [hw]
      exact set_at hb1 ((set_keep h.blk (by omega)).trans (h.qc j hj))
    · rw [hq j hj c]
      exact (kc _ (by omega) (by omega)).trans (h.qc j hj)
  · obtain ⟨⟨l, hl⟩, ht⟩ := h.rm j hj
    exact ⟨⟨l, hl.upd hu (fun b hb e => (h.x1 b (by rw [ht b hb]; simp)).2 e)⟩, fun b hb => hle _ _ (ht b hb)⟩
  · rw [hsz]
    rcases hm with h1 | h1 | h1 | h1
    · exact h.old b (.inl h1)
    · rcases hcl b h1 with h2 | h2
      · exact h.old b (.inr (.inl h2))
      · exact h2.2
    · exact h.old b (.inr (.inr (.inl h1)))
    · rcases (hpr b h1).1 with h2 | h2
      · exact h.old b (.inr (.inr (.inr h2)))
      · exact h2.2
theorem _root_.Go.Proofs.Ytgjcffjicbmkhaa.XrM.XC.off (h : XC W wr gW q n) (he : XE q) {i : Nat} (hi : i < 3) (hw : w' = (wr.setCell ⟨gW, i, none⟩ (.pointer none)).setCell ⟨gW, 3 + i, none⟩ (.pointer none)) : ∃ q', XC W w' gW q' n ∧ XE q' := by
  have hon : ∀ j, (if j = i then false else q.on j) = true → j ≠ i ∧ q.on j = true := fun j hj => by
    by_cases c : j = i
    · simp [c] at hj
    · exact ⟨c, by simpa [c] using hj⟩
  refine ⟨newQ q q.d (fun j => if j = i then false else q.on j) q.rg q.rv q.re q.lo, h.renew hi (by rw [hw]; simp [pC, qC, newQ]) (h.th.off i) (fun k hk ho => h.rf k hk (hon k ho).2) (fun _ _ h => h) (fun b hb => .inl hb) (fun b hb => ?_) (fun j hj c => by simp [pC, newQ, c]) (fun j hj c => by simp [qC, newQ, c]), fun k hk ho => he k hk (hon k ho).2⟩
  obtain ⟨k, hk, ho, hb2⟩ := hb
  have hp : q.prog b := ⟨k, hk, (hon k ho).2, hb2⟩
  exact ⟨.inl hp, (h.x2 b hp).1⟩
theorem _root_.Go.Proofs.Ytgjcffjicbmkhaa.XrM.XC.made (h : XC W wr gW q n) (he : XE q) {i : Nat} (hi : i < 3) {w1 w2 : World} {g gw gf r sz : Nat} (hA : ArAt w1 g gw gf sz []) (b0 : wr.heap.size ≤ g) (b1 : wr.heap.size ≤ gw) (b2 : wr.heap.size ≤ gf) (hb1 : Below wr.heap.size wr w1) (hb2 : Below w1.heap.size w1 w2) (hr : w1.heap.size ≤ r) (hR : ∀ lo' : Own, lo' r = some (i, 0) → RA i w2 lo' r sz (.slice none 0 0) [])
    (hw : w' = (w2.setCell ⟨gW, i, none⟩ (.pointer (some ⟨g, 0, none⟩))).setCell ⟨gW, 3 + i, none⟩ (.pointer (some ⟨r, 0, none⟩))) : ∃ q', XC W w' gW q' n ∧ XE q' := by
  have h2 := (h.below hb1).below hb2
  let lo' : Own := fun b => if b = r then some (i, 0) else q.lo b
  have hrn : q.lo r = none := Classical.byContradiction fun e => by have := h.lo_lt r e; have := hb1.size; omega
  have hlr : lo' r = some (i, 0) := if_pos rfl
  have hle : ∀ b t, q.lo b = some t → lo' b = some t := fun b t hb => by
    show (if b = r then _ else _) = _
    rw [if_neg (fun e => by subst e; rw [hrn] at hb; cases hb)]; exact hb
  have hRr := hR lo' hlr
  have hrl : r < w2.heap.size := cell_lt hRr.hd
  have hT1 : Three w1 (putD q.d i ⟨g, gw, gf, sz, []⟩) (fun j => if j = i then true else q.on j) := h.th.fresh hi hA b0 b1 b2 hb1
  have hon : ∀ j, j ≠ i → (if j = i then true else q.on j) = q.on j := fun j c => if_neg c
  refine ⟨newQ q (putD q.d i ⟨g, gw, gf, sz, []⟩) (fun j => if j = i then true else q.on j) (fun j => if j = i then r else q.rg j) (fun j => if j = i then .slice none 0 0 else q.rv j) (fun j => if j = i then [] else q.re j) lo',
    h2.renew hi (by rw [hw]; simp [pC, qC, newQ, putD_self]) (hT1.below hb2) (fun k hk ho => ?_) hle (fun b hb => ?_) (fun b hb => ?_) (fun j hj c => by simp [pC, newQ, c, putD_other]) (fun j hj c => by simp [qC, newQ, c]), fun k hk ho => ?_⟩
  · by_cases c : k = i
    · subst c
      simp only [if_true, putD_self]
      exact hRr
    · simp only [c, if_false, putD_other _ _ _ _ c] at ho ⊢
      exact (h2.rf k hk ho).upd (S := none_) (Upd.refl _ _) (fun _ _ _ h => h) (fun b t hb => hle b _ hb)
  · by_cases c : b = r
    · subst c
      exact .inr ⟨fun hm => by have := (h.old _ hm).2; have := hb1.size; omega, Nat.le_trans h.bel.size (Nat.le_trans hb1.size hr), hrl⟩
    · have e : lo' b = q.lo b := if_neg c
      rw [e] at hb
      exact .inl hb
  · obtain ⟨k, hk, ho, hb3⟩ := hb
    have hb4 : (putD q.d i ⟨g, gw, gf, sz, []⟩ k).blk b := hb3
    have hbl : b < w1.heap.size := ArD.lt (hT1.at_ k hk ho) b hb4
    have hlo : lo' b = q.lo b := if_neg (by omega)
    by_cases c : k = i
    · subst c
      rw [putD_self] at hb4
      have hge : wr.heap.size ≤ b := by
        rcases hb4 with e | e | e
        · rw [e]; exact b0
        · rw [e]; exact b1
        · rw [e]; exact b2
      refine ⟨.inr ⟨(h.fresh hge).1, (h.fresh hge).2, Nat.lt_of_lt_of_le hbl hb2.size⟩, ?_⟩
      rw [hlo]
      exact Classical.byContradiction fun e => by have := h.lo_lt b e; omega
    · rw [putD_other _ _ _ _ c] at hb4
      have ho' : (if k = i then true else q.on k) = true := ho
      rw [if_neg c] at ho'
      have hp : q.prog b := ⟨k, hk, ho', hb4⟩
      exact ⟨.inl hp, by rw [hlo]; exact (h.x2 b hp).1⟩
  · have ho' : (if k = i then true else q.on k) = true := ho
    show obs (if k = i then [] else q.re k) = (putD q.d i ⟨g, gw, gf, sz, []⟩ k).l
    by_cases c : k = i
    · subst c; rw [if_pos rfl, putD_self]; rfl
    · rw [if_neg c] at ho'
      rw [if_neg c, putD_other _ _ _ _ c]
      exact he k hk ho'
end Go.Proofs.Ytgjcffjicbmkhaa.XrY
end

section
namespace Go.Proofs.Ytgjcffjicbmkhaa.XrZ
open Go Go.RowKit Go.Proofs.YtgjcffjicbmkhaaW.PrintWords Go.Proofs.YtgjcffjicbmkhaaW.PrintLast Go.Proofs.YtgjcffjicbmkhaaW.PrintMore Go.Proofs.Ytgjcffjicbmkhaa.RowU Go.Proofs.Ytgjcffjicbmkhaa.ArS Go.Proofs.Ytgjcffjicbmkhaa.ArM Go.Proofs.Ytgjcffjicbmkhaa.BokA Go.Proofs.Ytgjcffjicbmkhaa.ArP Go.Proofs.Ytgjcffjicbmkhaa.ArQ Go.Proofs.Ytgjcffjicbmkhaa.XrM Go.Proofs.Ytgjcffjicbmkhaa.XrN Go.Proofs.Ytgjcffjicbmkhaa.XrP Go.Proofs.Ytgjcffjicbmkhaa.XrW Go.Proofs.Ytgjcffjicbmkhaa.XrX Go.Proofs.Ytgjcffjicbmkhaa.BegW
set_option linter.unusedVariables false
set_option maxRecDepth 100000
variable {W wr w' : World} {gW : Nat} {q : XQ} {n : Nat}
def SpR (W w' : World) (gW n : Nat) (e : Ending) : Prop := e = .returned (.bool true) ∧ ∃ q', XC W w' gW q' n ∧ XE q'
set_option maxHeartbeats 16000000 in
theorem step.calls (h : XC W wr gW q n) (hn9 : n ≤ 1000000) (he : XE q) (K Bk Sr x y z : Int) (V : Nat) (Ad : Option Addr) (nb cd : Nat) (bs : List Nat) (hop : OpK W x y z V Ad nb cd bs) :
    Calls Try.prog 32 #[.pointer (some ⟨gW, 0, none⟩), .agg #[.int .i64 K, .int .i64 Bk, .int .i64 Sr, .int .i64 x, .int .i64 y, .int .i64 z, .int .u64 (V : Int), .slice Ad nb cd]] wr fun e w' => SpR W w' gW (n + 1) e := by
  have H := Aside0.mk h
  obtain ⟨m, hm⟩ : ∃ m, m = mod3 Bk := ⟨_, rfl⟩
  have hm3 : m < 3 := by rw [hm]; exact mod3_lt Bk
  have HE := Aside0.mk he
  have HM := Aside0.mk hm
  have HOP := Aside0.mk hop
  have HT : Aside0 (∀ w, Calls Try.prog 30 #[.int .i64 Bk] w fun e w' => e = .returned (.int .i64 (m : Int)) ∧ Below w.heap.size w w') := ⟨fun w => by rw [hm]; exact (three_q Bk w).mono fun e w' ⟨he, hd⟩ => ⟨he, hd.below⟩⟩
  have hmi : (m : Int) < 3 := by omega
  have hm0 : (0 : Int) ≤ m := by omega
  clear h he hm hop
  go_enter Try.func32, Try.ntmps32
  go_upto_region 1 with ((with_reducible refine gate_dst (N := 3) rfl ?_); refine box_event ?hg (N := 3) ?hd (cs := #[.int .i64 K, .int .i64 Bk, .int .i64 Sr, .int .i64 x, .int .i64 y, .int .i64 z, .int .u64 (V : Int), .slice Ad nb cd]) (t := 80) ?hr ?_; (case hd => rfl); (case hg => rfl); (case hr => first | (go_simp; done) | (go_simp; rfl)); intro ga hga w1 hbox hb; have BA := Aside0.mk hbox; have HB := Aside0.mk hb; have GA := Aside0.mk hga; clear hbox hb hga)
  have b1 : w1.cell? ⟨ga, 1, none⟩ = some (.int .i64 Bk) := (blk_cell BA.out 1).trans rfl
  go_wp2_with fail
  refine (HT.out w1).mono ?_
  rintro e w2 ⟨rfl, hb⟩
  have H2 := Aside0.mk (H.out.below (below_next HB.out hb))
  have BA2 := Aside0.mk (blk_below BA.out hb)
  have HNM : Aside0 (¬ (q.mine gW ga ∨ w2.heap.size ≤ ga)) := ⟨by
    rintro (h1 | h1)
    · exact (H.out.fresh (b := ga) (by rw [GA.out]; exact Nat.le_refl _)).1 h1
    · have := cell_lt BA2.out; omega⟩
  clear hb b1 BA HB GA
  have b0 : w2.cell? ⟨ga, 0, none⟩ = some (.int .i64 K) := (blk_cell BA2.out 0).trans rfl
  by_cases k1 : K = 1
  · subst k1
    have b3 : w2.cell? ⟨ga, 3, none⟩ = some (.int .i64 x) := (blk_cell BA2.out 3).trans rfl
    by_cases hx : 1 ≤ x ∧ x ≤ 1048576
    · obtain ⟨sz, rfl⟩ := Int.eq_ofNat_of_zero_le (show 0 ≤ x by omega)
      have HNC := Aside0.mk (ArX.new.calls w2 sz (by omega) (by omega))
      have HSZ := Aside0.mk hx
      clear hx
      go_wp2_with fail
      refine HNC.out.mono ?_
      clear HNC
      rintro e w3 ⟨g, gw, gf, rfl, n1, n2, n3, n4, n5⟩
      have HN := Aside0.mk (And.intro n1 (And.intro n2 (And.intro n3 (And.intro n4 n5))))
      have b3 := pw_cell_below n5 b3
      clear n1 n2 n3 n4 n5
      go_wp2_with fail
      refine (RfG.new.calls w3 (sz : Int) m).mono ?_
      rintro e w4 hnr
      rcases hnr with ⟨h1, _, _⟩ | ⟨_, _, r, rfl, r1, r2, r3⟩
      · exact absurd HSZ.out h1
      rw [Int.toNat_natCast] at r3
      have HR := Aside0.mk (And.intro r1 (And.intro r2 r3))
      have H4 := Aside0.mk ((H2.out.below HN.out.2.2.2.2).below r2)
      clear r1 r2 r3
      have hpc := H4.out.pc m hm3
      obtain ⟨vp, hvp⟩ : ∃ vp, vp = pC q m := ⟨_, rfl⟩
      obtain ⟨vq, hvq⟩ : ∃ vq, vq = qC q m := ⟨_, rfl⟩
      have hqc := H4.out.qc m hm3
      rw [← hvp] at hpc
      rw [← hvq] at hqc
      obtain ⟨cur, T, hbk⟩ := H4.out.blk
      have hf1 := blk_frozen hbk m
      have hbk2 := blk_set hbk m (.pointer (some ⟨g, 0, none⟩))
      have hf2 := blk_frozen hbk2 (3 + m)
      have hqc2 := (set_keep (W := w4) (g := gW) (k := m) (i := 3 + m) (v := .pointer (some ⟨g, 0, none⟩)) ⟨cur, T, hbk⟩ (by omega)).trans hqc
      clear hbk hbk2 hvp hvq hqc
      go_wp2_with fail
      refine (ArY.num.calls _ _).mono ?_
      rintro e w5 ⟨rfl, hw5⟩
      have HW5 := Aside0.mk hw5
      clear hw5 hpc hqc2 hf1 hf2
      go_wp2_with fail
      go_ret
      obtain ⟨q', h1, h2⟩ := H2.out.made HE.out hm3 HN.out.1 HN.out.2.1 HN.out.2.2.1 HN.out.2.2.2.1 HN.out.2.2.2.2 HR.out.2.1 HR.out.1 HR.out.2.2 HW5.out
      exact ⟨by first | rfl | simp, q', h1.more (by omega), h2⟩
    · have HNC := Aside0.mk (ArX.new.bad w2 x (by omega))
      have HSZ := Aside0.mk hx
      clear hx
      go_wp2_with fail
      refine HNC.out.mono ?_
      clear HNC
      rintro e w3 ⟨rfl, n5⟩
      have HN := Aside0.mk n5
      have b3 := pw_cell_below n5 b3
      clear n5
      go_wp2_with fail
      refine (RfG.new.calls w3 x m).mono ?_
      rintro e w4 hnr
      have hnr' : e = .returned (.tuple #[.pointer none, .int .i64 20]) ∧ w4 = w3 := by
        rcases hnr with ⟨_, h1, h2⟩ | ⟨h1, h1', _⟩
        · exact ⟨h1, h2⟩
        · exact absurd ⟨h1, h1'⟩ HSZ.out
      clear hnr
      obtain ⟨rfl, hw4⟩ := hnr'
      have H4 := Aside0.mk (H2.out.below HN.out)
      rw [hw4]
      clear hw4
      have hpc := H4.out.pc m hm3
      obtain ⟨vp, hvp⟩ : ∃ vp, vp = pC q m := ⟨_, rfl⟩
      obtain ⟨vq, hvq⟩ : ∃ vq, vq = qC q m := ⟨_, rfl⟩
      have hqc := H4.out.qc m hm3
      rw [← hvp] at hpc
      rw [← hvq] at hqc
      obtain ⟨cur, T, hbk⟩ := H4.out.blk
      have hf1 := blk_frozen hbk m
      have hbk2 := blk_set hbk m (.pointer none)
      have hf2 := blk_frozen hbk2 (3 + m)
      have hqc2 := (set_keep (W := w3) (g := gW) (k := m) (i := 3 + m) (v := .pointer none) ⟨cur, T, hbk⟩ (by omega)).trans hqc
      clear hbk hbk2 hvp hvq hqc
      go_wp2_with fail
      refine (ArY.num.calls _ _).mono ?_
      rintro e w5 ⟨rfl, hw5⟩
      have HW5 := Aside0.mk hw5
      clear hw5 hpc hqc2 hf1 hf2
      go_wp2_with fail
      go_ret
      obtain ⟨q', h1, h2⟩ := H4.out.off HE.out hm3 HW5.out
      exact ⟨by first | rfl | simp, q', h1.more (by omega), h2⟩
  · have e1 : (K == 1) = false := by simp [k1]
    clear k1
    by_cases ho : q.on m = true
    · have hpc : w2.cell? ⟨gW, m, none⟩ = some (.pointer (some ⟨(q.d m).g, 0, none⟩)) := by rw [H2.out.pc m hm3]; unfold pC; rw [if_pos ho]
      have HO := Aside0.mk ho
      have HSZ2 := Aside0.mk (show (Try.prog.info? 80).map (·.size) = some (#[.int .i64 K, .int .i64 Bk, .int .i64 Sr, .int .i64 x, .int .i64 y, .int .i64 z, .int .u64 (V : Int), .slice Ad nb cd] : Array Value).size by kernel_rfl)
      clear ho
      go_wp2_with ((with_reducible refine gate_dst (N := 60) rfl ?_); refine wpList_load_row rfl 80 (.tmp 3) rfl ga rfl 80 #[.int .i64 K, .int .i64 Bk, .int .i64 Sr, .int .i64 x, .int .i64 y, .int .i64 z, .int .u64 (V : Int), .slice Ad nb cd] (0, 0) _ BA2.out Try.underlying80 rfl HSZ2.out ?_)
      refine (words.calls H2.out HE.out K Bk Sr x y z V HOP.out.hV Ad nb cd (by rw [← HM.out]; exact HO.out)).mono ?_
      rintro e w3 ⟨⟨rfl, q3, h3, he3, hon3⟩, hkp⟩
      have BA3 := Aside0.mk (blk_upd BA2.out hkp HNM.out)
      have HX3 := Aside0.mk (And.intro h3 (And.intro he3 hon3))
      clear h3 he3 hon3 hkp
      go_wp2_with ((with_reducible refine gate_dst (N := 65) rfl ?_); (try (refine gate_guard (by rfl) ?_; dsimp only)); refine wpList_load_row rfl 80 (.tmp 3) rfl ga rfl 80 #[.int .i64 K, .int .i64 Bk, .int .i64 Sr, .int .i64 x, .int .i64 y, .int .i64 z, .int .u64 (V : Int), .slice Ad nb cd] (0, 0) _ BA3.out Try.underlying80 rfl HSZ2.out ?_)
      refine (lists_all HX3.out.1 hn9 HX3.out.2.1 K Bk Sr x y z V Ad nb cd bs HOP.out (by rw [HX3.out.2.2, ← HM.out]; exact HO.out)).mono ?_
      rintro e w4 ⟨rfl, q4, h4, he4, -⟩
      have HX4 := Aside0.mk (And.intro h4 he4)
      clear h4 he4
      go_wp2_with fail
      go_ret
      exact ⟨rfl, q4, HX4.out.1, HX4.out.2⟩
    · have hpc : w2.cell? ⟨gW, m, none⟩ = some (.pointer none) := by rw [H2.out.pc m hm3]; unfold pC; rw [if_neg ho]
      clear ho
      go_wp2_with fail
      go_ret
      exact ⟨rfl, q, H2.out.more (by omega), HE.out⟩
end Go.Proofs.Ytgjcffjicbmkhaa.XrZ
end

section
namespace Go.Proofs.Ytgjcffjicbmkhaa.XrA
open Go Go.RowKit Go.Proofs.YtgjcffjicbmkhaaW.PrintWords Go.Proofs.YtgjcffjicbmkhaaW.PrintLast Go.Proofs.YtgjcffjicbmkhaaW.PrintMore Go.Proofs.Ytgjcffjicbmkhaa.RowU Go.Proofs.Ytgjcffjicbmkhaa.ArS Go.Proofs.Ytgjcffjicbmkhaa.ArM Go.Proofs.Ytgjcffjicbmkhaa.GenM Go.Proofs.Ytgjcffjicbmkhaa.BokA Go.Proofs.Ytgjcffjicbmkhaa.BokB Go.Proofs.Ytgjcffjicbmkhaa.ArP Go.Proofs.Ytgjcffjicbmkhaa.ArQ Go.Proofs.Ytgjcffjicbmkhaa.XrM Go.Proofs.Ytgjcffjicbmkhaa.XrX Go.Proofs.Ytgjcffjicbmkhaa.XrZ Go.Proofs.Ytgjcffjicbmkhaa.Open Go.Proofs.Ytgjcffjicbmkhaa.MemO Go.Proofs.Ytgjcffjicbmkhaa.BytO Go.Proofs.Ytgjcffjicbmkhaa.OpO Go.Proofs.Ytgjcffjicbmkhaa.OpP Go.Proofs.Ytgjcffjicbmkhaa.LoadA
set_option linter.unusedVariables false
set_option maxRecDepth 100000
theorem wf_i {x : Int} (h : gI x) : -9223372036854775808 ≤ x ∧ x < 9223372036854775808 := by
  unfold gI at h
  simp [Lit.wf, IntKind.min, IntKind.max, IntKind.signed, IntKind.bits] at h; omega
theorem op_open2 {W : World} {A : Option Addr} {n : Nat} {ls : List (Int × Int × Int × Int × Int × Int × Int × List Int)} (h : kOp.C W A n ls) (hg : ∀ y ∈ ls, gOp y) (i : Nat) (hi : i < ls.length) :
    ∃ (ad : Addr) (K Bk Sr x y z : Int) (V : Nat) (bs : List Nat) (Ad : Option Addr) (c : Nat), A = some ad ∧ OpK W x y z V Ad bs.length c bs ∧ ∀ j u, (opCells K Bk Sr x y z V Ad bs.length c)[j]? = some u → W.cell? ((ad.add (i * 8)).add j) = some u := by
  obtain ⟨ad, K, Bk, Sr, x, y, z, V, D, Ad, c, hA, hy, hl, hC, hc⟩ := op_cells h i hi
  obtain ⟨_, _, _, g3, g4, g5, gV, gD⟩ := hg _ (List.mem_of_getElem? hy)
  obtain ⟨v0, v1⟩ := wf_u64 gV
  obtain ⟨bs, hbs, hb⟩ := byte_nat D (fun q hq => wf_u8 (gD.2 q hq))
  have gl := gD.1
  simp only at v0 v1 gl g3 g4 g5
  obtain ⟨Vn, rfl⟩ := Int.eq_ofNat_of_zero_le v0
  subst hbs
  rw [List.length_map] at gl hl
  refine ⟨ad, K, Bk, Sr, x, y, z, Vn, bs, Ad, c, hA, ⟨wf_i g3, wf_i g4, wf_i g5, by omega, hb, by omega, rfl, hl, fun j q hq => byte_cell hC j q hq⟩, fun j u hu => hc j u ?_⟩
  rw [List.length_map]
  exact hu
def cells0 : Array Value := #[.pointer none, .pointer none, .pointer none, .pointer none, .pointer none, .pointer none, .slice none 0 0, .slice none 0 0, .int .i64 0, .slice none 0 0, .slice none 0 0, .int .i64 0, .slice none 0 0, .slice none 0 0, .int .i64 0, .slice none 0 0, .slice none 0 0, .int .i64 0, .slice none 0 0, .slice none 0 0, .int .i64 0, .slice none 0 0, .slice none 0 0, .int .i64 0, .slice none 0 0, .slice none 0 0, .int .i64 0, .slice none 0 0, .slice none 0 0, .int .i64 0, .slice none 0 0, .slice none 0 0, .int .i64 0, .slice none 0 0, .slice none 0 0, .int .i64 0, .int .i64 0, .int .i64 0, .int .i64 0, .slice none 0 0, .slice none 0 0, .slice none 0 0, .slice none 0 0, .slice none 0 0, .slice none 0 0, .slice none 0 0, .slice none 0 0, .slice none 0 0, .slice none 0 0, .slice none 0 0, .slice none 0 0, .slice none 0 0, .slice none 0 0, .slice none 0 0, .slice none 0 0, .slice none 0 0, .slice none 0 0, .slice none 0 0, .slice none 0 0, .slice none 0 0, .slice none 0 0, .slice none 0 0, .slice none 0 0, .slice none 0 0, .slice none 0 0, .slice none 0 0, .slice none 0 0, .slice none 0 0, .slice none 0 0, .slice none 0 0, .slice none 0 0, .slice none 0 0, .slice none 0 0, .slice none 0 0, .slice none 0 0, .slice none 0 0, .slice none 0 0, .slice none 0 0, .slice none 0 0, .slice none 0 0, .slice none 0 0, .slice none 0 0, .slice none 0 0, .slice none 0 0, .slice none 0 0, .slice none 0 0, .slice none 0 0, .slice none 0 0, .slice none 0 0, .slice none 0 0, .slice none 0 0, .slice none 0 0, .slice none 0 0, .slice none 0 0, .slice none 0 0, .slice none 0 0, .slice none 0 0, .slice none 0 0, .slice none 0 0, .slice none 0 0, .slice none 0 0, .slice none 0 0, .slice none 0 0]
theorem cells0_book (j : Nat) (hj : j < 33) : cells0[6 + j]? = some (bkC (.slice none 0 0) (.slice none 0 0) 0 (.slice none 0 0) (.slice none 0 0) 0 0 0 0 j) := by
  match j, hj with
  | 0, _ | 1, _ | 2, _ | 3, _ | 4, _ | 5, _ | 6, _ | 7, _ | 8, _ | 9, _ | 10, _ | 11, _ | 12, _ | 13, _ | 14, _ | 15, _ | 16, _ | 17, _ | 18, _ | 19, _ | 20, _ | 21, _ | 22, _ | 23, _ | 24, _ | 25, _ | 26, _ | 27, _ | 28, _ | 29, _ | 30, _ | 31, _ | 32, _ => rfl
  | n + 33, h => omega
theorem cells0_room (j : Nat) (hj : j < 64) : cells0[39 + j]? = some (.slice none 0 0) := by
  match j, hj with
  | 0, _ | 1, _ | 2, _ | 3, _ | 4, _ | 5, _ | 6, _ | 7, _ | 8, _ | 9, _ | 10, _ | 11, _ | 12, _ | 13, _ | 14, _ | 15, _ | 16, _ | 17, _ | 18, _ | 19, _ | 20, _ | 21, _ | 22, _ | 23, _ | 24, _ | 25, _ | 26, _ | 27, _ | 28, _ | 29, _ | 30, _ | 31, _ | 32, _ | 33, _ | 34, _ | 35, _ | 36, _ | 37, _ | 38, _ | 39, _ | 40, _ | 41, _ | 42, _ | 43, _ | 44, _ | 45, _ | 46, _ | 47, _ | 48, _ | 49, _ | 50, _ | 51, _ | 52, _ | 53, _ | 54, _ | 55, _ | 56, _ | 57, _ | 58, _ | 59, _ | 60, _ | 61, _ | 62, _ | 63, _ => rfl
  | n + 64, h => omega
theorem XC.start {W wr : World} {gW : Nat} (hb : Below W.heap.size W wr) (hg : W.heap.size ≤ gW) (h : wr.heap[gW]? = some (.cells cells0 102 (0, 0))) : ∃ q, XC W wr gW q 0 ∧ XE q := by
  have hc : ∀ j v, cells0[j]? = some v → wr.cell? ⟨gW, j, none⟩ = some v := fun j v hv => (blk_cell h j).trans hv
  refine ⟨⟨fun _ => ⟨0, 0, 0, 0, []⟩, fun _ => false, fun _ => 0, fun _ => .slice none 0 0, fun _ => [], Own.none_, fun _ => .slice none 0 0, Own.none_, .slice none 0 0, .slice none 0 0, [], 0, .slice none 0 0, .slice none 0 0, [], 0, 0, 0, 0⟩,
    ⟨⟨fun i _ ho => (by cases ho), fun i j _ _ _ ho _ => (by cases ho)⟩, fun k _ ho => (by cases ho), ?_, fun j hj => ?_, fun j hj => ?_, fun j hj => hc _ _ (cells0_room j hj), fun j hj => ⟨⟨[], GV.nil _ _⟩, fun b hb => (by cases hb)⟩, fun b e => absurd rfl e, fun b hp => ?_, fun b hm => ?_, hb, Nat.le_refl _⟩, fun k _ ho => (by cases ho)⟩
  · refine ⟨⟨⟨cells0, _, h⟩, fun j hj => hc _ _ (cells0_book j hj)⟩, ?_, ?_, fun b h => absurd rfl h, rfl, Nat.zero_le _⟩
    · exact ⟨GV.nil _ _, GV.nil _ _, fun b hb => (by cases hb), fun b hb => (by cases hb), fun e he => (by cases he), fun i e b hi => (by simp at hi), (by simp), (by simp), fun j e hj => (by simp at hj)⟩
    · exact ⟨GV.nil _ _, GV.nil _ _, fun b hb => (by cases hb), fun b hb => (by cases hb), fun e he => (by cases he), fun i e b hi => (by simp at hi), (by simp), (by simp), fun j e hj => (by simp at hj)⟩
  · match j, hj with
    | 0, _ | 1, _ | 2, _ => exact hc _ _ rfl
    | n + 3, h => omega
  · match j, hj with
    | 0, _ | 1, _ | 2, _ => exact hc _ _ rfl
    | n + 3, h => omega
  · obtain ⟨k, _, ho, _⟩ := hp
    cases ho
  · rcases hm with rfl | e | e | ⟨k, _, ho, _⟩
    · exact ⟨hg, cell_lt h⟩
    · exact absurd rfl e
    · exact absurd rfl e
    · cases ho
set_option maxHeartbeats 16000000 in
theorem walk (ls : List (Int × Int × Int × Int × Int × Int × Int × List Int)) (v : Value) (W : World) (hK : (Kd.slice 80 kOp).K W ls [v]) (hg : GoodL 80 gOp ls) :
    Calls Try.prog 8 #[v] W fun e w' => e = .returned (.bool true) ∧ Below W.heap.size W w' := by
  obtain ⟨A, c, hv, hl, hC⟩ := hK
  obtain rfl : v = .slice A ls.length c := by simpa using hv
  have HC := Aside0.mk hC
  have HG := Aside0.mk hg.2
  have hlen : ls.length ≤ 140737488351232 := by have := hg.1; omega
  clear hC hg hv
  go_enter Try.func8, Try.ntmps8
  go_wp2_with fail
  refine (BegW.begun.calls W).mono ?_
  rintro e w1 ⟨rfl, hb1⟩
  have HB1 := Aside0.mk hb1
  clear hb1
  go_upto_region 4 with ((with_reducible refine gate_dst (N := 9) rfl ?_); refine box_event ?hg (N := 9) ?hd (cs := #[.pointer none, .pointer none, .pointer none, .pointer none, .pointer none, .pointer none, .slice none 0 0, .slice none 0 0, .int .i64 0, .slice none 0 0, .slice none 0 0, .int .i64 0, .slice none 0 0, .slice none 0 0, .int .i64 0, .slice none 0 0, .slice none 0 0, .int .i64 0, .slice none 0 0, .slice none 0 0, .int .i64 0, .slice none 0 0, .slice none 0 0, .int .i64 0, .slice none 0 0, .slice none 0 0, .int .i64 0, .slice none 0 0, .slice none 0 0, .int .i64 0, .slice none 0 0, .slice none 0 0, .int .i64 0, .slice none 0 0, .slice none 0 0, .int .i64 0, .int .i64 0, .int .i64 0, .int .i64 0, .slice none 0 0, .slice none 0 0, .slice none 0 0, .slice none 0 0, .slice none 0 0, .slice none 0 0, .slice none 0 0, .slice none 0 0, .slice none 0 0, .slice none 0 0, .slice none 0 0, .slice none 0 0, .slice none 0 0, .slice none 0 0, .slice none 0 0, .slice none 0 0, .slice none 0 0, .slice none 0 0, .slice none 0 0, .slice none 0 0, .slice none 0 0, .slice none 0 0, .slice none 0 0, .slice none 0 0, .slice none 0 0, .slice none 0 0, .slice none 0 0, .slice none 0 0, .slice none 0 0, .slice none 0 0, .slice none 0 0, .slice none 0 0, .slice none 0 0, .slice none 0 0, .slice none 0 0, .slice none 0 0, .slice none 0 0, .slice none 0 0, .slice none 0 0, .slice none 0 0, .slice none 0 0, .slice none 0 0, .slice none 0 0, .slice none 0 0, .slice none 0 0, .slice none 0 0, .slice none 0 0, .slice none 0 0, .slice none 0 0, .slice none 0 0, .slice none 0 0, .slice none 0 0, .slice none 0 0, .slice none 0 0, .slice none 0 0, .slice none 0 0, .slice none 0 0, .slice none 0 0, .slice none 0 0, .slice none 0 0, .slice none 0 0, .slice none 0 0, .slice none 0 0, .slice none 0 0]) (t := 102) ?hr ?_; (case hd => rfl); (case hg => rfl); (case hr => first | (go_simp; done) | (go_simp; rfl)); intro gW hgW w2 hbox hb; have B1 := Aside0.mk hbox; have H1 := Aside0.mk hb; have G1 := Aside0.mk hgW; clear hbox hb hgW)
  obtain ⟨q0, hq0, he0⟩ := XC.start (below_next HB1.out H1.out) (by rw [G1.out]; exact HB1.out.size) B1.out
  have HQ0 := Aside0.mk (And.intro hq0 he0)
  clear hq0 he0 B1 H1 G1 HB1
  go_upto_region 5 with fail
  go_loopw [4] (fun i wr => ∃ (k : Nat) (q : XQ), k ≤ ls.length ∧ k ≤ 4096 ∧ i = .int .i64 k ∧ Aside0 (XC W wr gW q k ∧ XE q)) (fun i _ => ls.length - (intOf i).toNat)
  case atStart => exact ⟨0, q0, by omega, by omega, rfl, HQ0⟩
  case round =>
    obtain ⟨k, q, hk, hk4, rfl, HQ⟩ := hrel
    clear HQ0
    rename World => wr
    by_cases hlt : k < ls.length
    · have hlt' : (k : Int) < ls.length := by omega
      by_cases h4 : k < 4096
      · have h4' : (k : Int) < 4096 := by omega
        obtain ⟨ad, K, Bk, Sr, x, y, z, V, bs, Ad, cd, rfl, hop, cells⟩ := op_open2 HC.out HG.out k hlt
        have HKC : Aside0 (∀ j u, (opCells K Bk Sr x y z V Ad bs.length cd)[j]? = some u → wr.cell? ((ad.add (k * 8)).add j) = some u) := ⟨fun j u hu => (HQ.out.1.bel.cell (World.block_lt_of_cell? _ _ (cells j u hu))).trans (cells j u hu)⟩
        have HSZ := Aside0.mk (show (Try.prog.info? 80).map (·.size) = some 8 by kernel_rfl)
        have HST := Aside0.mk (step.calls HQ.out.1 (by omega) HQ.out.2 K Bk Sr x y z V Ad bs.length cd bs hop)
        clear hop cells
        go_wp2_with ((with_reducible refine gate_dst (N := 24) rfl ?_); refine wpList_load_at rfl 80 (.tmp 23) rfl (ad.add (k * 8)) rfl (opCells K Bk Sr x y z V Ad bs.length cd) _ HKC.out Try.underlying80 rfl HSZ.out ?_)
        refine HST.out.mono ?_
        clear HST HKC HSZ
        rintro e w4 ⟨rfl, q1, h1, he1⟩
        have HL := Aside0.mk (BokJ.look.calls h1.bk)
        have HX1 := Aside0.mk (And.intro h1 he1)
        clear h1 he1
        go_wp2_with fail
        refine HL.out.mono ?_
        clear HL
        rintro e w5 ⟨rfl, ow', vB', vBo', eB', aB', vW', vWo', eW', aW', done', hB, hS⟩
        have H5 := Aside0.mk (HX1.out.1.book (m := k + 1) hB hS (fun b hb => hb.elim) HX1.out.1.cnt)
        clear hB hS
        go_wp2_with fail
        exact ⟨⟨k + 1, _, by omega, by omega, by rw [Int.natCast_succ], ⟨H5.out, HX1.out.2⟩⟩, by simp only [intOf]; omega⟩
      · have h4' : ¬ (k : Int) < 4096 := by omega
        clear h4
        go_wp2_with fail
        go_ret
        exact ⟨rfl, HQ.out.1.bel⟩
    · have hlt' : ¬ (k : Int) < ls.length := by omega
      clear hlt
      go_wp2_with fail
      go_ret
      exact ⟨rfl, HQ.out.1.bel⟩
end Go.Proofs.Ytgjcffjicbmkhaa.XrA
end

section
namespace Go.Proofs.Ytgjcffjicbmkhaa.LawArenaExact
open Go.ChangeShapes Go.WideShapes Go.ChangeAt Go.RowKit
open Go.ChangeMaps (open_string shut_string)
theorem own : ownKnob Try.prog.godebug = none := by kernel_rfl
theorem laidOut : laidOutB Try.prog = true := by kernel_rfl
set_option maxRecDepth 100000 in
theorem lifted (os : Os) (started : os.Started) (H : Type) (enc : TypeId × Value → H) :
    ReturnsInHanded {} Try.checked os 8 .any (Rows.arenaExactSpec.pre6 enc Try.prog Try.f8 Rows.arenaExactRow.domain false) (Rows.arenaExactSpec.post enc Try.prog Try.f8 false true false false) := by
  refine returnsInHanded_of_change_sized (C := Try.checked) own started (by kernel_rfl) Try.func8
    (ChangeSpec.witness6 (enc := enc) (C := Try.checked) false ⟨#[], #[.slice none 0 0], []⟩ 8 (by kernel_rfl) (by kernel_rfl) (by kernel_rfl) (by kernel_rfl)) ?_
  intro W base args ds gs before hval0 hW _ hsz0 _
  have hsz : (DataW.weightsEach Try.prog (Try.f8.params.toList ++ Rows.arenaExactSpec.plain.varTypes Try.prog) (ds ++ gs)).all (· ≤ reachBytes) = true := hsz0
  have hval : ∀ (j : Nat) t v, Try.f8.params[j]? = some t → args[j]? = some v → Value.okWide Try.prog W .any base t v := hval0
  have hW' := hW
  obtain ⟨p, q, hA0, hV, rfl, _, _⟩ := hW
  have hA : DataW.TrodAll enc Try.prog W 0 (fun _ => true) true Try.f8.params.toList args.toList ds p := hA0
  rw [Try.params8] at hA hval hsz
  obtain ⟨v0, vs0, d0, ds0, p0, q0, hargs, rfl, rfl, h0, r0⟩ := trodAll_cons hA
  obtain ⟨rfl, rfl, rfl⟩ := trodAll_nil r0
  obtain rfl : args = #[v0] := by cases args; simp_all
  obtain ⟨rfl, rfl⟩ := trodVars_none hV
  have k0 := h0
  have lt0 : ∀ x ∈ p0, x.block < W.heap.size := by obtain ⟨m, hm⟩ := k0; exact DataW.trod_lt m _ _ _ hm
  obtain ⟨y, hK, hg⟩ := Open.open_arg OpO.o_script hsz (j := 0) rfl rfl h0
  obtain ⟨a0, len0, cap0, rfl⟩ := okWide_slice Try.underlying74 (hval 0 _ v0 rfl rfl)
  clear hA0 hval0 hsz0 hsz
  refine (XrA.walk y _ W hK hg).mono fun e W' ⟨he, bel⟩ => ?_
  subst he
  exact ⟨_, rfl, _, _, _, [], _, [], hW', trodAll_mk1 (shut_bool Try.underlying4 _), (trodAll_cons_mk (Below.trod laidOut (by kernel_rfl) (of_decide_eq_true (by kernel_rfl)) k0 bel lt0) trodAll_mk0), rfl, bel.frame _, fun h => by cases h⟩
theorem over : Rows.arenaExactRow.holds Try.pinned (OpenSpec.ofChange Rows.arenaExactSpec) :=
  OpenClaim.holds_of_wide 8 Try.f8 rfl rfl rfl rfl rfl rfl rfl ⟨rfl, rfl, rfl, rfl, rfl⟩ rfl rfl rfl rfl rfl (by kernel_rfl) Try.func8 (by kernel_rfl)
    (of_decide_eq_true (by kernel_rfl)) (by unfold Func.isWrapper; first | (rw [if_pos (by decide +kernel)]; kernel_rfl) | (rw [if_neg (by decide +kernel)]; exact ⟨rfl, rfl⟩))
    (fun os started H enc _ => lifted os started H enc)
theorem proved : Rows.ArenaExactSaid := over
#print axioms proved
end Go.Proofs.Ytgjcffjicbmkhaa.LawArenaExact
namespace Go.Proofs.Ytgjcffjicbmkhaa
theorem arenaExact_holds : Rows.ArenaExactSaid := LawArenaExact.proved
end Go.Proofs.Ytgjcffjicbmkhaa
end
