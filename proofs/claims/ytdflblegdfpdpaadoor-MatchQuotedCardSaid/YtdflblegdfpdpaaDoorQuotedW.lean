/- MatchQuoted: the machine's call answers true. -/
import Derived.Test.YtdflblegdfpdpaaDoorHoldW
import Derived.Test.YtdflblegdfpdpaaDoorAppF
import Derived.Test.YtdflblegdfpdpaaDoorAskW
import Derived.Test.YtdflblegdfpdpaaDoorWakeG
import Derived.Deep.RegionHeld3
namespace Go.Proofs.YtdflblegdfpdpaaDoor.QuotedW
open Go Go.RowKit Go.Proofs.YtdflblegdfpdpaaDoorW.PrintWords Go.Proofs.YtdflblegdfpdpaaDoorW.PrintLast Go.Proofs.YtdflblegdfpdpaaDoorW.PrintMore Go.Proofs.YtdflblegdfpdpaaDoor.PE Go.Proofs.YtdflblegdfpdpaaDoor.QuoteS Go.Proofs.YtdflblegdfpdpaaDoor.RefE Go.Proofs.YtdflblegdfpdpaaDoor.HoldW Go.Proofs.YtdflblegdfpdpaaDoor.AppF Go.Proofs.YtdflblegdfpdpaaDoor.GlobW Go.Proofs.YtdflblegdfpdpaaDoor.GlobS Go.Proofs.YtdflblegdfpdpaaDoor.AskW Go.Proofs.YtdflblegdfpdpaaDoor.ScoreW
set_option linter.unusedVariables false
set_option maxRecDepth 100000

theorem quote.calls (A : Option Addr) (c : Nat) (l q : List Int) (hq : q = quoteL l) (w : World) (hr : Kd.C (Kd.int .u8) w A l.length l) (hc : l.length ≤ c) (hn : l.length ≤ 1000000000000) :
    Calls Tryd.prog 12 #[.slice A l.length c] w fun e w' => ∃ v : Value, e = .returned v ∧ Kd.R (Kd.int .u8) 5 w' w.heap.size (fun _ => True) v q ∧ Below w.heap.size w w' := by
  subst hq
  obtain ⟨k, hk⟩ := Ev.rounds (RefE.quote l hn)
  exact larderlaw9_quote.calls k A c l _ w hr hc hk
theorem globC.calls (A : Option Addr) (c : Nat) (p : List Int) (A1 : Option Addr) (c1 : Nat) (t : List Int) (w : World) (b : Bool) (hb : globL p t = b) (hr : Kd.C (Kd.int .u8) w A p.length p) (hc : p.length ≤ c) (hl : QuoteS.inB p) (hlen : p.length ≤ 1000000000000)
    (hr1 : Kd.C (Kd.int .u8) w A1 t.length t) (hc1 : t.length ≤ c1) (hl1 : QuoteS.inB t) (hlen1 : t.length ≤ 1000000000000) (hG : GL w) :
    Calls Tryd.prog 14 #[.slice A p.length c, .slice A1 t.length c1] w fun e w' => e = .returned (.bool b) ∧ Below w.heap.size w w' := hb ▸ glob.calls A c p A1 c1 t w hr hc hl hlen hr1 hc1 hl1 (by omega) hG
theorem inB_app {a b : List Int} (ha : QuoteS.inB a) (hb : QuoteS.inB b) : QuoteS.inB (a ++ b) := fun x hx => (List.mem_append.1 hx).elim (ha x) (hb x)

theorem cut_at (l : List Int) (A : Option Addr) (c : Nat) (hc : l.length ≤ c) (m : Nat) (hm : m ≤ l.length) :
    (∀ W : World, (Instr.slice 22 (.slice A l.length c) none (some (.int .i64 (m : Int))) none).run Tryd.prog W = .ok (.slice A (l.take m).length c) W) ∧ (∀ w : World, Kd.C (Kd.int .u8) w A l.length l → Kd.C (Kd.int .u8) w A (l.take m).length (l.take m)) := by
  obtain ⟨i, hi, _, hz, _⟩ := infoB
  obtain ⟨h1, h2, _⟩ := print_take_of (P := Tryd.prog) (Value.int .u8) (0 : Int) 22 5 .i64 Tryd.underlying22 hi hz A c l m (by omega) (by omega) hc
  rw [Int.toNat_natCast] at h1 h2
  exact ⟨h1, fun w hC => Kd.C_of_reads (d := (0 : Int)) (h1 := fun _ => rfl) (h2 w (Kd.reads_of_C (d := (0 : Int)) (h1 := fun _ => rfl) hC))⟩
theorem eqB.calls (A : Option Addr) (c : Nat) (a : List Int) (A1 : Option Addr) (c1 : Nat) (b : List Int) (r : Bool) (hR : decide (a = b) = r) (w : World) (hr : Kd.C (Kd.int .u8) w A a.length a) (hc : a.length ≤ c) (hr1 : Kd.C (Kd.int .u8) w A1 b.length b) (hc1 : b.length ≤ c1) (hn : a.length ≤ 140737488355328) :
    Calls Tryd.prog 15 #[.slice A a.length c, .slice A1 b.length c1] w fun e w' => e = .returned (.bool r) ∧ Below w.heap.size w w' := hR ▸ eq.calls A c a A1 c1 b w hr hc hr1 hc1 hn
theorem holdsB.calls (A : Option Addr) (c : Nat) (u : List Int) (A1 : Option Addr) (c1 : Nat) (t : List Int) (a : Int) (r : Bool) (hR : decide (0 ≤ a ∧ atP u t a.toNat) = r) (w : World) (hr : Kd.C (Kd.int .u8) w A u.length u) (hc : u.length ≤ c) (hr1 : Kd.C (Kd.int .u8) w A1 t.length t) (hc1 : t.length ≤ c1) (hu : u.length ≤ 1000) (ht : t.length ≤ 1000) (ha : -1000 ≤ a ∧ a ≤ 1000) :
    Calls Tryd.prog 13 #[.slice A u.length c, .slice A1 t.length c1, .int .i64 a] w fun e w' => e = .returned (.bool r) ∧ Below w.heap.size w w' := hR ▸ holdsAt.calls A c u A1 c1 t a w hr hc hr1 hc1 hu ht ha
/-- What stays from world to world: the box, the two texts. -/
structure St (w W : World) (gb : Nat) (At Au : Option Addr) (ct cu : Nat) (T U : List Int) (N : Int) : Prop where
  bel : Below w.heap.size w W
  blk : W.heap[gb]? = some (.cells #[.slice At T.length ct, .slice Au U.length cu, .int .i64 N] 24 (0, 0))
  t : Kd.C (Kd.int .u8) W At T.length T
  u : Kd.C (Kd.int .u8) W Au U.length U
  gl : GL W
theorem St.next {w W W' : World} {gb : Nat} {At Au : Option Addr} {ct cu : Nat} {T U : List Int} {N : Int} (h : St w W gb At Au ct cu T U N) (hb : Below W.heap.size W W') : St w W' gb At Au ct cu T U N :=
  ⟨PB.below_next h.bel hb, blk_below h.blk hb, Kd.C_below h.t hb, Kd.C_below h.u hb, h.gl.below hb⟩
theorem St.z {w W : World} {gb : Nat} {At Au : Option Addr} {ct cu : Nat} {T U : List Int} {N : Int} (h : St w W gb At Au ct cu T U N) : W.cell? ⟨gb, 0, none⟩ = some (.slice At T.length ct) ∧ W.cell? ⟨gb, 1, none⟩ = some (.slice Au U.length cu) ∧ W.cell? ⟨gb, 2, none⟩ = some (.int .i64 N) :=
  ⟨blk_cell h.blk 0, blk_cell h.blk 1, blk_cell h.blk 2⟩

/-- The four lists made, and what stays. -/
structure Ls (w W : World) (gb : Nat) (At Au Ap Aa Ab Ao : Option Addr) (ct cu : Nat) (T U q la lb lo : List Int) (N : Int) : Prop where
  st : St w W gb At Au ct cu T U N
  p : Kd.C (Kd.int .u8) W Ap q.length q
  a : Kd.C (Kd.int .u8) W Aa la.length la
  b : Kd.C (Kd.int .u8) W Ab lb.length lb
  o : Kd.C (Kd.int .u8) W Ao lo.length lo
theorem Ls.next {w W W' : World} {gb : Nat} {At Au Ap Aa Ab Ao : Option Addr} {ct cu : Nat} {T U q la lb lo : List Int} {N : Int} (h : Ls w W gb At Au Ap Aa Ab Ao ct cu T U q la lb lo N) (hb : Below W.heap.size W W') : Ls w W' gb At Au Ap Aa Ab Ao ct cu T U q la lb lo N :=
  ⟨h.st.next hb, Kd.C_below h.p hb, Kd.C_below h.a hb, Kd.C_below h.b hb, Kd.C_below h.o hb⟩
theorem s3 {W0 w1 w2 : World} {gb : Nat} {v0 v1 : Value} (h : w1.cell? ⟨gb, 0, none⟩ = some v0 ∧ w1.cell? ⟨gb, 1, none⟩ = some v1 ∧ Aside0 (Below W0.heap.size W0 w1)) (hb : Below w1.heap.size w1 w2) : w2.cell? ⟨gb, 0, none⟩ = some v0 ∧ w2.cell? ⟨gb, 1, none⟩ = some v1 ∧ Aside0 (Below W0.heap.size W0 w2) :=
  ⟨pw_cell_below hb h.1, pw_cell_below hb h.2.1, ⟨PB.below_next h.2.2.out hb⟩⟩
theorem s3b {W0 w1 : World} {gb : Nat} {v0 v1 : Value} (h : w1.cell? ⟨gb, 0, none⟩ = some v0 ∧ w1.cell? ⟨gb, 1, none⟩ = some v1 ∧ Aside0 (Below W0.heap.size W0 w1)) : Below W0.heap.size W0 w1 := h.2.2.out

section
variable (T U : List Int) (N : Int) (At Au : Option Addr) (ct cu : Nat) (w : World)
set_option maxHeartbeats 8000000 in
theorem quoted (hT : QuoteS.inB T) (hU : QuoteS.inB U) (hCt : Kd.C (Kd.int .u8) w At T.length T) (hCu : Kd.C (Kd.int .u8) w Au U.length U) (hct : T.length ≤ ct) (hcu : U.length ≤ cu) (hG : GL w) (hN : -9223372036854775808 ≤ N ∧ N < 9223372036854775808) :
    Calls Tryd.prog 3 #[.agg #[.slice At T.length ct, .slice Au U.length cu, .int .i64 N]] w fun e w' => e = .returned (.bool true) ∧ Below w.heap.size w w' := by
  have hlT := hCt.2.1
  have hlU := hCu.2.1
  have HT := Aside0.mk hCt
  have HU := Aside0.mk hCu
  have HG := Aside0.mk hG
  have HIT := Aside0.mk hT
  have HIU := Aside0.mk hU
  clear hT hU hCt hCu hG
  go_enter Tryd.func3, Tryd.ntmps3
  go_wp2_with (first | ((with_reducible refine gate_dst (N := 1) rfl ?_); refine box_event ?hg (N := 1) ?hd (cs := #[.slice At T.length ct, .slice Au U.length cu, .int .i64 N]) (t := 24) ?hr ?_; (case hd => rfl); (case hg => rfl); (case hr => first | (go_simp; done) | (go_simp; rfl)); intro gb hg w5 hbox hb; have HS := Aside0.mk (St.mk (w := w) hb hbox (Kd.C_below HT.out hb) (Kd.C_below HU.out hb) (HG.out.below hb)); clear hb hbox hg))
  refine (PB.wakes_walk w5 HS.out.gl).mono ?_
  rintro e w6 ⟨rfl, hb⟩
  have HS6 := Aside0.mk (HS.out.next hb)
  clear HS hb
  obtain ⟨z0, z1, z2⟩ := HS6.out.z
  by_cases h1 : T.length ≤ 300
  · have d1 : decide ((300 : Int) < T.length) = false := decide_eq_false (by omega)
    have d1' : decide (300 < T.length) = false := decide_eq_false (by omega)
    by_cases h2 : U.length ≤ 300
    · have d2 : decide ((300 : Int) < U.length) = false := decide_eq_false (by omega)
      have d2' : decide (300 < U.length) = false := decide_eq_false (by omega)
      obtain ⟨q, hq⟩ : ∃ q, q = quoteL T := ⟨_, rfl⟩
      have hl2 := quoteL_len T
      rw [← hq] at hl2
      have hq1 : q.length ≤ 600 := by omega
      have HQ := Aside0.mk hq
      obtain ⟨la, hla⟩ : ∃ la, la = [42] ++ q := ⟨_, rfl⟩
      obtain ⟨lb, hlb⟩ : ∃ lb, lb = q ++ [42] := ⟨_, rfl⟩
      obtain ⟨lo, hlo⟩ : ∃ lo, lo = [42] ++ lb := ⟨_, rfl⟩
      have ha1 : la.length ≤ 601 := by rw [hla, List.length_append, List.length_singleton]; omega
      have hb1 : lb.length ≤ 601 := by rw [hlb, List.length_append, List.length_singleton]; omega
      have ho1 : lo.length ≤ 602 := by rw [hlo, List.length_append, List.length_singleton]; omega
      have HLA := Aside0.mk hla
      have HLB := Aside0.mk hlb
      have HLO := Aside0.mk hlo
      clear hla hlb hlo
      have HL2 := Aside0.mk hl2
      clear hl2 hq
      go_wp2_with fail
      refine (quote.calls At ct T q HQ.out _ HS6.out.t hct (by omega)).mono ?_
      rintro e w7 ⟨v, rfl, hR, hb⟩
      obtain ⟨Ap, cp, rfl, hcp, hCp⟩ := Kd.R_reads hR
      have HS7 := Aside0.mk (HS6.out.next hb)
      have HP := Aside0.mk hCp
      clear HS6 hb hR hCp z0 z1 z2
      obtain ⟨z0, z1, z2⟩ := HS7.out.z
      have hc1 := conv_at (w := w7) w7.heap.size rfl #[.int .u8 42] 1 1
      have hc2 := conv_at (w := w7.alloc (.cells #[.int .u8 42] 5 (1, 2))) (w7.heap.size + 1) (size_alloc _ _) #[.int .u8 42] 1 1
      go_wp2_with (first
        | ((with_reducible refine gate_builtin (b := .append) (xs := #[.tmp 31, .tmp 32]) rfl ?_); at_builtin; refine wpList_append_full rfl (.tmp 31) (.tmp 32) rfl ⟨w7.heap.size + 1, 0, none⟩ [42] rfl (got_const _ _ (size_alloc _ _) [42] _ (by decide)) Ap cp q rfl (Kd.C_alloc (Kd.C_alloc HP.out _) _) (by simp only [List.length_singleton]; omega) la HLA.out ?_; intro Aa ca w8 hCa hca hb; have HS8 := Aside0.mk ((HS7.out.next (below_alloc (below_alloc (Below.refl _ _) _) _)).next (hb)); have HP8 := Aside0.mk (Kd.C_below (Kd.C_alloc (Kd.C_alloc HP.out _) _) hb); have HST := Aside0.mk (Kd.C_below (Kd.C_alloc (got_const w7 _ rfl [42] (1, 2) (by decide)) (.cells #[.int .u8 42] 5 (1, 2))) hb); have HAA := Aside0.mk hCa; clear hCa hb hc1 hc2 z0 z1 z2; obtain ⟨z0, z1, z2⟩ := HS8.out.z))
      refine (quote.calls At ct T q HQ.out _ HS8.out.t hct (by omega)).mono ?_
      rintro e w9 ⟨v9, rfl, hR, hb⟩
      have HR9 := Aside0.mk hR
      have HB9 := Aside0.mk hb
      clear hR hb z0 z1 z2
      go_wp2_with (first
        | ((with_reducible refine gate_builtin (b := .append) (xs := #[.tmp 36, .tmp 37]) rfl ?_); at_builtin; refine Kd.R_append_rows (Kd.int .u8) (w0 := w8) w8.heap.size rfl (.tmp 36) (.tmp 37) 22 5 (.int .u8 0) 1 rfl Tryd.underlying22 PB.spi rfl (by decide) (by omega) v9 q [42] _ _ _ (fun _ => True) (fun _ => False) rfl rfl ?aO ?aR (fun _ _ h => h) (fun _ h => h.elim) ?aF ?aB ?aS ?aL ?_; (case aR => exact Kd.C_below HST.out HB9.out); (case aB => exact HB9.out); (case aF => exact (fun _ _ => trivial)); (case aO => exact HR9.out); (case aS => exact HB9.out.size); (case aL => (try simp only [List.length_singleton]); omega); intro v10 w10 ho hb hg hat; rw [← HLB.out] at ho; obtain ⟨Ab, cb, rfl, hcb, hCb⟩ := Kd.R_reads ho; have HS10 := Aside0.mk (HS8.out.next hb); have HP10 := Aside0.mk (Kd.C_below HP8.out hb); have HAA10 := Aside0.mk (Kd.C_below HAA.out hb); have HBE := Aside0.mk hCb; clear ho hb hg hat hCb HB9 HR9 HST HP8 HAA HS8; have hc3 := conv_at (w := w10) w10.heap.size rfl #[.int .u8 42] 1 1)
        | ((with_reducible refine gate_builtin (b := .append) (xs := #[.tmp 40, .tmp 41]) rfl ?_); at_builtin; refine wpList_append_full rfl (.tmp 40) (.tmp 41) rfl ⟨w10.heap.size, 0, none⟩ [42] rfl (got_const _ _ rfl [42] _ (by decide)) Ab cb lb rfl (Kd.C_alloc HBE.out _) (by simp only [List.length_singleton]; omega) lo HLO.out ?_; intro Ao co w11 hCo hco hb; have HS11 := Aside0.mk ((HS10.out.next (below_alloc (Below.refl _ _) _)).next hb); have HP11 := Aside0.mk (Kd.C_below (Kd.C_alloc HP10.out _) hb); have HAA11 := Aside0.mk (Kd.C_below (Kd.C_alloc HAA10.out _) hb); have HBE11 := Aside0.mk (Kd.C_below (Kd.C_alloc HBE.out _) hb); have HBO := Aside0.mk hCo; clear hCo hb hc3 HS10 HP10 HAA10 HBE))
      have HL := Aside0.mk (Ls.mk HS11.out HP11.out HAA11.out HBE11.out HBO.out)
      clear HS11 HP11 HAA11 HBE11 HBO HS7 HP
      go_loopw [8, 9] (fun v8 v9 wr => ∃ (i : Nat) (b : Bool), v8 = .bool b ∧ v9 = .int .i64 i ∧ i ≤ U.length + 1 ∧ Aside0 ((b = true ↔ ∃ j, j < i ∧ atP U T j) ∧ Below w11.heap.size w11 wr)) (fun v8 v9 wr => U.length + 1 - (intOf v9).toNat)
      case atStart => exact ⟨0, false, rfl, rfl, by omega, ⟨⟨fun h => by simp at h, fun ⟨j, h, _⟩ => by omega⟩, Below.refl _ _⟩⟩
      case round =>
        obtain ⟨i, b, rfl, rfl, hi, HI⟩ := hrel
        have HLr := Aside0.mk (HL.out.next HI.out.2)
        obtain ⟨z0, z1, z2⟩ := HLr.out.st.z
        by_cases hle : i ≤ U.length
        · have c1 : decide ((i : Int) ≤ U.length) = true := decide_eq_true (by omega)
          have c1' : decide (i ≤ U.length) = true := decide_eq_true hle
          cases b
          · go_wp2_with fail
            refine (holdsAt.calls Au cu U At ct T i _ HLr.out.st.u hcu HLr.out.st.t hct (by omega) (by omega) (by omega)).mono ?_
            rintro e w12 ⟨rfl, hb⟩
            go_wp2_with fail
            go_roundw
            case rel =>
              refine ⟨i + 1, _, rfl, by go_num, by omega, ⟨?_, PB.below_next HI.out.2 hb⟩⟩
              rw [decide_eq_true_iff]
              constructor
              · exact fun h => ⟨i, by omega, h⟩
              · rintro ⟨j, h1, h2⟩
                by_cases hj : j = i
                · subst hj; exact h2
                · exact absurd (HI.out.1.2 ⟨j, by omega, h2⟩) (by simp)
            case measure => simp [intOf]; omega
          · go_wp2_with fail
            go_roundw
            case rel =>
              refine ⟨i + 1, true, rfl, by go_num, by omega, ⟨⟨fun _ => ?_, fun _ => rfl⟩, HI.out.2⟩⟩
              obtain ⟨j, h1, h2⟩ := HI.out.1.1 rfl
              exact ⟨j, by omega, h2⟩
            case measure => simp [intOf]; omega
        · have c1 : decide ((i : Int) ≤ U.length) = false := decide_eq_false (by omega)
          have c1' : decide (i ≤ U.length) = false := decide_eq_false hle
          have hiq : QuoteS.inB q := by rw [HQ.out]; exact quoteL_in HIT.out
          have hi42 : QuoteS.inB [42] := by unfold QuoteS.inB; decide
          have hib : QuoteS.inB lb := by rw [HLB.out]; exact inB_app hiq hi42
          have hia : QuoteS.inB la := by rw [HLA.out]; exact inB_app hi42 hiq
          have hio : QuoteS.inB lo := by rw [HLO.out]; exact inB_app hi42 hib
          have G1 := Aside0.mk (show globL q T = true by rw [HQ.out, glob_plain T T HIT.out HIT.out, decide_eq_true rfl])
          have G2 := Aside0.mk (show globL q U = decide (T = U) by rw [HQ.out, glob_plain T U HIT.out HIU.out])
          have G3 := Aside0.mk (show globL lo U = b by
            rw [HLO.out, HLB.out, HQ.out]
            refine (glob_both T U HIT.out HIU.out).trans ?_
            rw [Bool.eq_iff_iff, decide_eq_true_iff, HI.out.1]
            exact ⟨fun ⟨j, h1, h2⟩ => ⟨j, by omega, h2⟩, fun ⟨j, h1, h2⟩ => ⟨j, by omega, h2⟩⟩)
          have G4 := Aside0.mk (show globL lb U = decide (0 ≤ (0 : Int) ∧ atP U T (0 : Int).toNat) by
            rw [HLB.out, HQ.out, glob_behind T U HIT.out HIU.out, decide_eq_decide]
            exact ⟨fun h => ⟨by omega, h⟩, fun h => h.2⟩)
          obtain ⟨dd, hdd⟩ : ∃ dd : Int, (U.length : Int) - (T.length : Int) = dd := ⟨_, rfl⟩
          have hdd1 : -1000 ≤ dd ∧ dd ≤ 1000 := by omega
          have HDD := Aside0.mk hdd
          have HDW := Aside0.mk (show wrap64 ((U.length : Int) - (T.length : Int)) = dd by unfold wrap64; omega)
          have G5 := Aside0.mk (show globL la U = decide (0 ≤ dd ∧ atP U T dd.toNat) by
            rw [HLA.out, HQ.out]
            refine (glob_ahead T U HIT.out HIU.out).trans ?_
            rw [decide_eq_decide, show dd.toNat = U.length - T.length by omega]
            exact ⟨fun h => ⟨by omega, h.2⟩, fun h => ⟨by omega, h.2⟩⟩)
          have IQ := Aside0.mk hiq
          have IA := Aside0.mk hia
          have IB := Aside0.mk hib
          have IO := Aside0.mk hio
          clear hiq hi42 hib hia hio
          generalize hbe : decide (T = U) = be at G2
          have HBE := Aside0.mk hbe
          generalize hb4 : decide (0 ≤ (0 : Int) ∧ atP U T (0 : Int).toNat) = b4 at G4
          have HB4 := Aside0.mk hb4
          generalize hb5 : decide (0 ≤ dd ∧ atP U T dd.toNat) = b5 at G5
          have HB5 := Aside0.mk hb5
          have n1 : (be != be) = false := by simp
          have n2 : (b != b) = false := by simp
          have n3 : (b4 != b4) = false := by simp
          have n4 : (b5 != b5) = false := by simp
          clear hbe hb4 hb5 hdd
          have hS0 : wr.drew.cell? ⟨gb, 0, none⟩ = some (.slice At T.length ct) ∧ wr.drew.cell? ⟨gb, 1, none⟩ = some (.slice Au U.length cu) ∧ Aside0 (Below wr.heap.size wr wr.drew) := ⟨z0, z1, ⟨(Below.refl _ wr).drew⟩⟩
          clear z2
          -- BIG
          go_upto_region 15 with (fail)
          go_cut [83] (fun v83 wc => v83 = .bool false ∧ Aside0 (Below wr.heap.size wr wc))
          case first =>
            refine wp_region_held_drew (S := (fun w' => w'.cell? ⟨gb, 0, none⟩ = some (.slice At T.length ct) ∧ w'.cell? ⟨gb, 1, none⟩ = some (.slice Au U.length cu) ∧ Aside0 (Below wr.heap.size wr w'))) (by kernel_rfl) (by exact hS0) (fun hHeld => ?_)
            refine wpAnyH_take (i := 0) (oi := ({ dst := some 59, op := Go.Op.move (Go.Operand.tmp 3), type := 22, pos := "law.go:171", after := #[], guard := none } : Oper)) (v := ?vp0) rfl (by kernel_rfl) (by kernel_rfl) (by kernel_rfl) (fun _ _ _ h => h) (Or.inl ⟨by rfl, ?hyp0⟩) (by assumption) ?restp0
            case hyp0 => (intro w hSw; (try dsimp only at hSw); go_simp; (try with_reducible rfl))
            (try simp only [Act.put, List.setIfInBounds_toArray, List.set_cons_zero, List.set_cons_succ])
            refine wpAnyH_take (i := 1) (oi := ({ dst := some 60, op := Go.Op.fieldAddr 24 (Go.Operand.tmp 1) 0, type := 0, pos := "law.go:171", after := #[], guard := none } : Oper)) (v := ?vp1) rfl (by kernel_rfl) (by kernel_rfl) (by kernel_rfl) (fun _ _ _ h => h) (Or.inl ⟨by rfl, ?hyp1⟩) (by assumption) ?restp1
            case hyp1 => (intro w hSw; (try dsimp only at hSw); go_simp; (try with_reducible rfl))
            (try simp only [Act.put, List.setIfInBounds_toArray, List.set_cons_zero, List.set_cons_succ])
            refine wpAnyH_take (i := 2) (oi := ({ dst := some 61, op := Go.Op.load 22 (Go.Operand.tmp 60), type := 22, pos := "law.go:171", after := #[{ on := 1, ground := Go.Ground.data }], guard := none } : Oper)) (v := ?vp2) rfl (by kernel_rfl) (by kernel_rfl) (by kernel_rfl) (fun _ _ _ h => h) (Or.inl ⟨by rfl, ?hyp2⟩) (by assumption) ?restp2
            case hyp2 => (intro w hSw; (try dsimp only at hSw); go_simp; (try with_reducible rfl))
            (try simp only [Act.put, List.setIfInBounds_toArray, List.set_cons_zero, List.set_cons_succ])
            refine wpAnyH_ready (rs := [3]) (by kernel_rfl) (by simp) ?_
            refine AllReadyH.cons (o := ({ dst := some 62, op := Go.Op.call { callee := Go.Callee.value (Go.Operand.func 14), args := #[Go.Operand.tmp 59, Go.Operand.tmp 61], argTypes := #[22, 22] }, type := 4, pos := "law.go:171", after := #[{ on := 0, ground := Go.Ground.data }, { on := 2, ground := Go.Ground.data }], guard := none } : Oper)) rfl (fun K hK => ?_) AllReadyH.nil
            go_simp
            refine (globC.calls Ap cp q At ct T _ true G1.out (Kd.C_below HLr.out.p (s3b (by assumption))) hcp IQ.out (by omega) (Kd.C_below HLr.out.st.t (s3b (by assumption))) hct HIT.out (by omega) (HLr.out.st.gl.below (s3b (by assumption)))).mono ?_
            rintro e wx ⟨rfl, hb⟩
            have hS1 := s3 (by assumption) hb
            clear hb
            (try go_wp2_with fail)
            refine hK.out _ _ (by assumption) (fun hHeld => ?_)
            clear hK K
            (try simp only [Act.put, List.setIfInBounds_toArray, List.set_cons_zero, List.set_cons_succ])
            refine wpAnyH_take (i := 4) (oi := ({ dst := some 63, op := Go.Op.unOp Go.UnOp.not 4 (Go.Operand.tmp 62), type := 4, pos := "law.go:171", after := #[{ on := 3, ground := Go.Ground.data }], guard := none } : Oper)) (v := ?vp4) rfl (by kernel_rfl) (by kernel_rfl) (by kernel_rfl) (fun _ _ _ h => h) (Or.inl ⟨by rfl, ?hyp4⟩) (by assumption) ?restp4
            case hyp4 => (intro w hSw; (try dsimp only at hSw); go_simp; (try with_reducible rfl))
            (try simp only [Act.put, List.setIfInBounds_toArray, List.set_cons_zero, List.set_cons_succ])
            refine wpAnyH_take (i := 5) (oi := ({ dst := some 64, op := Go.Op.move (Go.Operand.tmp 63), type := 4, pos := "law.go:171", after := #[{ on := 4, ground := Go.Ground.data }, { on := 3, ground := Go.Ground.chain }], guard := none } : Oper)) (v := ?vp5) rfl (by kernel_rfl) (by kernel_rfl) (by kernel_rfl) (fun _ _ _ h => h) (Or.inl ⟨by rfl, ?hyp5⟩) (by assumption) ?restp5
            case hyp5 => (intro w hSw; (try dsimp only at hSw); go_simp; (try with_reducible rfl))
            (try simp only [Act.put, List.setIfInBounds_toArray, List.set_cons_zero, List.set_cons_succ])
            refine wpAnyH_take (i := 6) (oi := ({ dst := some 65, op := Go.Op.move (Go.Operand.tmp 3), type := 22, pos := "law.go:171", after := #[{ on := 5, ground := Go.Ground.guard }], guard := some (5, false) } : Oper)) (v := ?vp6) rfl (by kernel_rfl) (by kernel_rfl) (by kernel_rfl) (fun _ _ _ h => h) (Or.inl ⟨by rfl, ?hyp6⟩) (by assumption) ?restp6
            case hyp6 => (intro w hSw; (try dsimp only at hSw); go_simp; (try with_reducible rfl))
            (try simp only [Act.put, List.setIfInBounds_toArray, List.set_cons_zero, List.set_cons_succ])
            refine wpAnyH_take (i := 7) (oi := ({ dst := some 66, op := Go.Op.fieldAddr 24 (Go.Operand.tmp 1) 1, type := 0, pos := "law.go:171", after := #[{ on := 5, ground := Go.Ground.guard }], guard := some (5, false) } : Oper)) (v := ?vp7) rfl (by kernel_rfl) (by kernel_rfl) (by kernel_rfl) (fun _ _ _ h => h) (Or.inl ⟨by rfl, ?hyp7⟩) (by assumption) ?restp7
            case hyp7 => (intro w hSw; (try dsimp only at hSw); go_simp; (try with_reducible rfl))
            (try simp only [Act.put, List.setIfInBounds_toArray, List.set_cons_zero, List.set_cons_succ])
            refine wpAnyH_take (i := 8) (oi := ({ dst := some 67, op := Go.Op.load 22 (Go.Operand.tmp 66), type := 22, pos := "law.go:171", after := #[{ on := 7, ground := Go.Ground.data }, { on := 5, ground := Go.Ground.guard }], guard := some (5, false) } : Oper)) (v := ?vp8) rfl (by kernel_rfl) (by kernel_rfl) (by kernel_rfl) (fun _ _ _ h => h) (Or.inl ⟨by rfl, ?hyp8⟩) (by assumption) ?restp8
            case hyp8 => (intro w hSw; (try dsimp only at hSw); go_simp; (try with_reducible rfl))
            (try simp only [Act.put, List.setIfInBounds_toArray, List.set_cons_zero, List.set_cons_succ])
            refine wpAnyH_take (i := 10) (oi := ({ dst := some 69, op := Go.Op.fieldAddr 24 (Go.Operand.tmp 1) 0, type := 0, pos := "law.go:171", after := #[{ on := 5, ground := Go.Ground.guard }], guard := some (5, false) } : Oper)) (v := ?vp10) rfl (by kernel_rfl) (by kernel_rfl) (by kernel_rfl) (fun _ _ _ h => h) (Or.inl ⟨by rfl, ?hyp10⟩) (by assumption) ?restp10
            case hyp10 => (intro w hSw; (try dsimp only at hSw); go_simp; (try with_reducible rfl))
            (try simp only [Act.put, List.setIfInBounds_toArray, List.set_cons_zero, List.set_cons_succ])
            refine wpAnyH_take (i := 11) (oi := ({ dst := some 70, op := Go.Op.load 22 (Go.Operand.tmp 69), type := 22, pos := "law.go:171", after := #[{ on := 10, ground := Go.Ground.data }, { on := 5, ground := Go.Ground.guard }], guard := some (5, false) } : Oper)) (v := ?vp11) rfl (by kernel_rfl) (by kernel_rfl) (by kernel_rfl) (fun _ _ _ h => h) (Or.inl ⟨by rfl, ?hyp11⟩) (by assumption) ?restp11
            case hyp11 => (intro w hSw; (try dsimp only at hSw); go_simp; (try with_reducible rfl))
            (try simp only [Act.put, List.setIfInBounds_toArray, List.set_cons_zero, List.set_cons_succ])
            refine wpAnyH_take (i := 12) (oi := ({ dst := some 71, op := Go.Op.fieldAddr 24 (Go.Operand.tmp 1) 1, type := 0, pos := "law.go:171", after := #[{ on := 5, ground := Go.Ground.guard }], guard := some (5, false) } : Oper)) (v := ?vp12) rfl (by kernel_rfl) (by kernel_rfl) (by kernel_rfl) (fun _ _ _ h => h) (Or.inl ⟨by rfl, ?hyp12⟩) (by assumption) ?restp12
            case hyp12 => (intro w hSw; (try dsimp only at hSw); go_simp; (try with_reducible rfl))
            (try simp only [Act.put, List.setIfInBounds_toArray, List.set_cons_zero, List.set_cons_succ])
            refine wpAnyH_take (i := 13) (oi := ({ dst := some 72, op := Go.Op.load 22 (Go.Operand.tmp 71), type := 22, pos := "law.go:171", after := #[{ on := 12, ground := Go.Ground.data }, { on := 5, ground := Go.Ground.guard }], guard := some (5, false) } : Oper)) (v := ?vp13) rfl (by kernel_rfl) (by kernel_rfl) (by kernel_rfl) (fun _ _ _ h => h) (Or.inl ⟨by rfl, ?hyp13⟩) (by assumption) ?restp13
            case hyp13 => (intro w hSw; (try dsimp only at hSw); go_simp; (try with_reducible rfl))
            (try simp only [Act.put, List.setIfInBounds_toArray, List.set_cons_zero, List.set_cons_succ])
            refine wpAnyH_ready (rs := [9]) (by kernel_rfl) (by simp) ?_
            refine AllReadyH.cons (o := ({ dst := some 68, op := Go.Op.call { callee := Go.Callee.value (Go.Operand.func 14), args := #[Go.Operand.tmp 65, Go.Operand.tmp 67], argTypes := #[22, 22] }, type := 4, pos := "law.go:171", after := #[{ on := 6, ground := Go.Ground.data }, { on := 8, ground := Go.Ground.data }, { on := 5, ground := Go.Ground.chain }, { on := 5, ground := Go.Ground.guard }], guard := some (5, false) } : Oper)) rfl (fun K hK => ?_) AllReadyH.nil
            go_simp
            refine (globC.calls Ap cp q Au cu U _ be G2.out (Kd.C_below HLr.out.p (s3b (by assumption))) hcp IQ.out (by omega) (Kd.C_below HLr.out.st.u (s3b (by assumption))) hcu HIU.out (by omega) (HLr.out.st.gl.below (s3b (by assumption)))).mono ?_
            rintro e wx ⟨rfl, hb⟩
            have hS1 := s3 (by assumption) hb
            clear hb
            (try go_wp2_with fail)
            refine hK.out _ _ (by assumption) (fun hHeld => ?_)
            clear hK K
            (try simp only [Act.put, List.setIfInBounds_toArray, List.set_cons_zero, List.set_cons_succ])
            refine wpAnyH_ready (rs := [14]) (by kernel_rfl) (by simp) ?_
            refine AllReadyH.cons (o := ({ dst := some 73, op := Go.Op.call { callee := Go.Callee.value (Go.Operand.func 15), args := #[Go.Operand.tmp 70, Go.Operand.tmp 72], argTypes := #[22, 22] }, type := 4, pos := "law.go:171", after := #[{ on := 11, ground := Go.Ground.data }, { on := 13, ground := Go.Ground.data }, { on := 9, ground := Go.Ground.chain }, { on := 5, ground := Go.Ground.guard }], guard := some (5, false) } : Oper)) rfl (fun K hK => ?_) AllReadyH.nil
            go_simp
            refine (eqB.calls At ct T Au cu U be HBE.out _ (Kd.C_below HLr.out.st.t (s3b (by assumption))) hct (Kd.C_below HLr.out.st.u (s3b (by assumption))) hcu (by omega)).mono ?_
            rintro e wx ⟨rfl, hb⟩
            have hS1 := s3 (by assumption) hb
            clear hb
            (try go_wp2_with fail)
            refine hK.out _ _ (by assumption) (fun hHeld => ?_)
            clear hK K
            (try simp only [Act.put, List.setIfInBounds_toArray, List.set_cons_zero, List.set_cons_succ])
            refine wpAnyH_take (i := 15) (oi := ({ dst := some 74, op := Go.Op.binOp Go.BinOp.neq 4 (Go.Operand.tmp 68) (Go.Operand.tmp 73) 4, type := 4, pos := "law.go:171", after := #[{ on := 9, ground := Go.Ground.data }, { on := 14, ground := Go.Ground.data }, { on := 5, ground := Go.Ground.guard }], guard := some (5, false) } : Oper)) (v := ?vp15) rfl (by kernel_rfl) (by kernel_rfl) (by kernel_rfl) (fun _ _ _ h => h) (Or.inl ⟨by rfl, ?hyp15⟩) (by assumption) ?restp15
            case hyp15 => (intro w hSw; (try dsimp only at hSw); go_simp; (try with_reducible rfl))
            (try simp only [Act.put, List.setIfInBounds_toArray, List.set_cons_zero, List.set_cons_succ])
            refine wpAnyH_take (i := 16) (oi := ({ dst := some 75, op := Go.Op.pick (Go.Operand.tmp 64) (Go.Operand.const (Go.Value.bool true)) (Go.Operand.tmp 74), type := 4, pos := "law.go:171", after := #[{ on := 5, ground := Go.Ground.data }, { on := 15, ground := Go.Ground.data }], guard := none } : Oper)) (v := ?vp16) rfl (by kernel_rfl) (by kernel_rfl) (by kernel_rfl) (fun _ _ _ h => h) (Or.inl ⟨by rfl, ?hyp16⟩) (by assumption) ?restp16
            case hyp16 => (intro w hSw; (try dsimp only at hSw); go_simp; (try with_reducible rfl))
            (try simp only [Act.put, List.setIfInBounds_toArray, List.set_cons_zero, List.set_cons_succ])
            refine wpAnyH_take (i := 17) (oi := ({ dst := some 76, op := Go.Op.move (Go.Operand.tmp 75), type := 4, pos := "law.go:171", after := #[{ on := 16, ground := Go.Ground.data }, { on := 14, ground := Go.Ground.chain }], guard := none } : Oper)) (v := ?vp17) rfl (by kernel_rfl) (by kernel_rfl) (by kernel_rfl) (fun _ _ _ h => h) (Or.inl ⟨by rfl, ?hyp17⟩) (by assumption) ?restp17
            case hyp17 => (intro w hSw; (try dsimp only at hSw); go_simp; (try with_reducible rfl))
            (try simp only [Act.put, List.setIfInBounds_toArray, List.set_cons_zero, List.set_cons_succ])
            refine wpAnyH_take (i := 18) (oi := ({ dst := some 77, op := Go.Op.move (Go.Operand.tmp 7), type := 22, pos := "law.go:171", after := #[{ on := 17, ground := Go.Ground.guard }], guard := some (17, false) } : Oper)) (v := ?vp18) rfl (by kernel_rfl) (by kernel_rfl) (by kernel_rfl) (fun _ _ _ h => h) (Or.inl ⟨by rfl, ?hyp18⟩) (by assumption) ?restp18
            case hyp18 => (intro w hSw; (try dsimp only at hSw); go_simp; (try with_reducible rfl))
            (try simp only [Act.put, List.setIfInBounds_toArray, List.set_cons_zero, List.set_cons_succ])
            refine wpAnyH_take (i := 19) (oi := ({ dst := some 78, op := Go.Op.fieldAddr 24 (Go.Operand.tmp 1) 1, type := 0, pos := "law.go:171", after := #[{ on := 17, ground := Go.Ground.guard }], guard := some (17, false) } : Oper)) (v := ?vp19) rfl (by kernel_rfl) (by kernel_rfl) (by kernel_rfl) (fun _ _ _ h => h) (Or.inl ⟨by rfl, ?hyp19⟩) (by assumption) ?restp19
            case hyp19 => (intro w hSw; (try dsimp only at hSw); go_simp; (try with_reducible rfl))
            (try simp only [Act.put, List.setIfInBounds_toArray, List.set_cons_zero, List.set_cons_succ])
            refine wpAnyH_take (i := 20) (oi := ({ dst := some 79, op := Go.Op.load 22 (Go.Operand.tmp 78), type := 22, pos := "law.go:171", after := #[{ on := 19, ground := Go.Ground.data }, { on := 17, ground := Go.Ground.guard }], guard := some (17, false) } : Oper)) (v := ?vp20) rfl (by kernel_rfl) (by kernel_rfl) (by kernel_rfl) (fun _ _ _ h => h) (Or.inl ⟨by rfl, ?hyp20⟩) (by assumption) ?restp20
            case hyp20 => (intro w hSw; (try dsimp only at hSw); go_simp; (try with_reducible rfl))
            (try simp only [Act.put, List.setIfInBounds_toArray, List.set_cons_zero, List.set_cons_succ])
            refine wpAnyH_take (i := 22) (oi := ({ dst := some 81, op := Go.Op.move (Go.Operand.tmp 8), type := 4, pos := "law.go:171", after := #[{ on := 17, ground := Go.Ground.guard }], guard := some (17, false) } : Oper)) (v := ?vp22) rfl (by kernel_rfl) (by kernel_rfl) (by kernel_rfl) (fun _ _ _ h => h) (Or.inl ⟨by rfl, ?hyp22⟩) (by assumption) ?restp22
            case hyp22 => (intro w hSw; (try dsimp only at hSw); go_simp; (try with_reducible rfl))
            (try simp only [Act.put, List.setIfInBounds_toArray, List.set_cons_zero, List.set_cons_succ])
            refine wpAnyH_ready (rs := [21]) (by kernel_rfl) (by simp) ?_
            refine AllReadyH.cons (o := ({ dst := some 80, op := Go.Op.call { callee := Go.Callee.value (Go.Operand.func 14), args := #[Go.Operand.tmp 77, Go.Operand.tmp 79], argTypes := #[22, 22] }, type := 4, pos := "law.go:171", after := #[{ on := 18, ground := Go.Ground.data }, { on := 20, ground := Go.Ground.data }, { on := 17, ground := Go.Ground.chain }, { on := 17, ground := Go.Ground.guard }], guard := some (17, false) } : Oper)) rfl (fun K hK => ?_) AllReadyH.nil
            go_simp
            refine (globC.calls Ao co lo Au cu U _ b G3.out (Kd.C_below HLr.out.o (s3b (by assumption))) hco IO.out (by omega) (Kd.C_below HLr.out.st.u (s3b (by assumption))) hcu HIU.out (by omega) (HLr.out.st.gl.below (s3b (by assumption)))).mono ?_
            rintro e wx ⟨rfl, hb⟩
            have hS1 := s3 (by assumption) hb
            clear hb
            (try go_wp2_with fail)
            refine hK.out _ _ (by assumption) (fun hHeld => ?_)
            clear hK K
            (try simp only [Act.put, List.setIfInBounds_toArray, List.set_cons_zero, List.set_cons_succ])
            refine wpAnyH_take (i := 23) (oi := ({ dst := some 82, op := Go.Op.binOp Go.BinOp.neq 4 (Go.Operand.tmp 80) (Go.Operand.tmp 81) 4, type := 4, pos := "law.go:171", after := #[{ on := 21, ground := Go.Ground.data }, { on := 22, ground := Go.Ground.data }, { on := 17, ground := Go.Ground.guard }], guard := some (17, false) } : Oper)) (v := ?vp23) rfl (by kernel_rfl) (by kernel_rfl) (by kernel_rfl) (fun _ _ _ h => h) (Or.inl ⟨by rfl, ?hyp23⟩) (by assumption) ?restp23
            case hyp23 => (intro w hSw; (try dsimp only at hSw); go_simp; (try with_reducible rfl))
            (try simp only [Act.put, List.setIfInBounds_toArray, List.set_cons_zero, List.set_cons_succ])
            refine wpAnyH_take (i := 24) (oi := ({ dst := some 83, op := Go.Op.pick (Go.Operand.tmp 76) (Go.Operand.const (Go.Value.bool true)) (Go.Operand.tmp 82), type := 4, pos := "law.go:171", after := #[{ on := 17, ground := Go.Ground.data }, { on := 23, ground := Go.Ground.data }], guard := none } : Oper)) (v := ?vp24) rfl (by kernel_rfl) (by kernel_rfl) (by kernel_rfl) (fun _ _ _ h => h) (Or.inl ⟨by rfl, ?hyp24⟩) (by assumption) ?restp24
            case hyp24 => (intro w hSw; (try dsimp only at hSw); go_simp; (try with_reducible rfl))
            (try simp only [Act.put, List.setIfInBounds_toArray, List.set_cons_zero, List.set_cons_succ])
            refine wpAnyH_done (by kernel_rfl) ?_ _
            (try go_wp2_with fail)
            go_meet
            exact ⟨rfl, ⟨s3b (by assumption)⟩⟩
          case rest =>
            obtain ⟨rfl, HC15⟩ := hcut
            have HLs := Aside0.mk (HLr.out.next HC15.out)
            clear HC15 hS0 z0 z1
            rename World => ws
            obtain ⟨z0', z1', z2'⟩ := HLs.out.st.z
            have hS2 : ws.drew.cell? ⟨gb, 0, none⟩ = some (.slice At T.length ct) ∧ ws.drew.cell? ⟨gb, 1, none⟩ = some (.slice Au U.length cu) ∧ Aside0 (Below ws.heap.size ws ws.drew) := ⟨z0', z1', ⟨(Below.refl _ ws).drew⟩⟩
            clear z0' z1' z2'
            go_upto_region 17 with (fail)
            go_cut [112] (fun v112 wc => v112 = .bool false ∧ Aside0 (Below ws.heap.size ws wc))
            case first =>
              refine wp_region_held_drew (S := (fun w' => w'.cell? ⟨gb, 0, none⟩ = some (.slice At T.length ct) ∧ w'.cell? ⟨gb, 1, none⟩ = some (.slice Au U.length cu) ∧ Aside0 (Below ws.heap.size ws w'))) (by kernel_rfl) (by exact hS2) (fun hHeld => ?_)
              refine wpAnyH_take (i := 0) (oi := ({ dst := some 84, op := Go.Op.move (Go.Operand.tmp 6), type := 22, pos := "law.go:174", after := #[], guard := none } : Oper)) (v := ?vq0) rfl (by kernel_rfl) (by kernel_rfl) (by kernel_rfl) (fun _ _ _ h => h) (Or.inl ⟨by rfl, ?hyq0⟩) (by assumption) ?restq0
              case hyq0 => (intro w hSw; (try dsimp only at hSw); go_simp; (try with_reducible rfl))
              (try simp only [Act.put, List.setIfInBounds_toArray, List.set_cons_zero, List.set_cons_succ])
              refine wpAnyH_take (i := 1) (oi := ({ dst := some 85, op := Go.Op.fieldAddr 24 (Go.Operand.tmp 1) 1, type := 0, pos := "law.go:174", after := #[], guard := none } : Oper)) (v := ?vq1) rfl (by kernel_rfl) (by kernel_rfl) (by kernel_rfl) (fun _ _ _ h => h) (Or.inl ⟨by rfl, ?hyq1⟩) (by assumption) ?restq1
              case hyq1 => (intro w hSw; (try dsimp only at hSw); go_simp; (try with_reducible rfl))
              (try simp only [Act.put, List.setIfInBounds_toArray, List.set_cons_zero, List.set_cons_succ])
              refine wpAnyH_take (i := 2) (oi := ({ dst := some 86, op := Go.Op.load 22 (Go.Operand.tmp 85), type := 22, pos := "law.go:174", after := #[{ on := 1, ground := Go.Ground.data }], guard := none } : Oper)) (v := ?vq2) rfl (by kernel_rfl) (by kernel_rfl) (by kernel_rfl) (fun _ _ _ h => h) (Or.inl ⟨by rfl, ?hyq2⟩) (by assumption) ?restq2
              case hyq2 => (intro w hSw; (try dsimp only at hSw); go_simp; (try with_reducible rfl))
              (try simp only [Act.put, List.setIfInBounds_toArray, List.set_cons_zero, List.set_cons_succ])
              refine wpAnyH_take (i := 4) (oi := ({ dst := some 88, op := Go.Op.fieldAddr 24 (Go.Operand.tmp 1) 1, type := 0, pos := "law.go:174", after := #[], guard := none } : Oper)) (v := ?vq4) rfl (by kernel_rfl) (by kernel_rfl) (by kernel_rfl) (fun _ _ _ h => h) (Or.inl ⟨by rfl, ?hyq4⟩) (by assumption) ?restq4
              case hyq4 => (intro w hSw; (try dsimp only at hSw); go_simp; (try with_reducible rfl))
              (try simp only [Act.put, List.setIfInBounds_toArray, List.set_cons_zero, List.set_cons_succ])
              refine wpAnyH_take (i := 5) (oi := ({ dst := some 89, op := Go.Op.load 22 (Go.Operand.tmp 88), type := 22, pos := "law.go:174", after := #[{ on := 4, ground := Go.Ground.data }], guard := none } : Oper)) (v := ?vq5) rfl (by kernel_rfl) (by kernel_rfl) (by kernel_rfl) (fun _ _ _ h => h) (Or.inl ⟨by rfl, ?hyq5⟩) (by assumption) ?restq5
              case hyq5 => (intro w hSw; (try dsimp only at hSw); go_simp; (try with_reducible rfl))
              (try simp only [Act.put, List.setIfInBounds_toArray, List.set_cons_zero, List.set_cons_succ])
              refine wpAnyH_take (i := 6) (oi := ({ dst := some 90, op := Go.Op.fieldAddr 24 (Go.Operand.tmp 1) 0, type := 0, pos := "law.go:174", after := #[], guard := none } : Oper)) (v := ?vq6) rfl (by kernel_rfl) (by kernel_rfl) (by kernel_rfl) (fun _ _ _ h => h) (Or.inl ⟨by rfl, ?hyq6⟩) (by assumption) ?restq6
              case hyq6 => (intro w hSw; (try dsimp only at hSw); go_simp; (try with_reducible rfl))
              (try simp only [Act.put, List.setIfInBounds_toArray, List.set_cons_zero, List.set_cons_succ])
              refine wpAnyH_take (i := 7) (oi := ({ dst := some 91, op := Go.Op.load 22 (Go.Operand.tmp 90), type := 22, pos := "law.go:174", after := #[{ on := 6, ground := Go.Ground.data }], guard := none } : Oper)) (v := ?vq7) rfl (by kernel_rfl) (by kernel_rfl) (by kernel_rfl) (fun _ _ _ h => h) (Or.inl ⟨by rfl, ?hyq7⟩) (by assumption) ?restq7
              case hyq7 => (intro w hSw; (try dsimp only at hSw); go_simp; (try with_reducible rfl))
              (try simp only [Act.put, List.setIfInBounds_toArray, List.set_cons_zero, List.set_cons_succ])
              refine wpAnyH_ready (rs := [3]) (by kernel_rfl) (by simp) ?_
              refine AllReadyH.cons (o := ({ dst := some 87, op := Go.Op.call { callee := Go.Callee.value (Go.Operand.func 14), args := #[Go.Operand.tmp 84, Go.Operand.tmp 86], argTypes := #[22, 22] }, type := 4, pos := "law.go:174", after := #[{ on := 0, ground := Go.Ground.data }, { on := 2, ground := Go.Ground.data }], guard := none } : Oper)) rfl (fun K hK => ?_) AllReadyH.nil
              go_simp
              refine (globC.calls Ab cb lb Au cu U _ b4 G4.out (Kd.C_below HLs.out.b (s3b (by assumption))) hcb IB.out (by omega) (Kd.C_below HLs.out.st.u (s3b (by assumption))) hcu HIU.out (by omega) (HLs.out.st.gl.below (s3b (by assumption)))).mono ?_
              rintro e wx ⟨rfl, hb⟩
              have hS1 := s3 (by assumption) hb
              clear hb
              (try go_wp2_with fail)
              refine hK.out _ _ (by assumption) (fun hHeld => ?_)
              clear hK K
              (try simp only [Act.put, List.setIfInBounds_toArray, List.set_cons_zero, List.set_cons_succ])
              refine wpAnyH_ready (rs := [8]) (by kernel_rfl) (by simp) ?_
              refine AllReadyH.cons (o := ({ dst := some 92, op := Go.Op.call { callee := Go.Callee.value (Go.Operand.func 13), args := #[Go.Operand.tmp 89, Go.Operand.tmp 91, Go.Operand.const (Go.Value.int Go.IntKind.i64 0)], argTypes := #[22, 22, 3] }, type := 4, pos := "law.go:174", after := #[{ on := 5, ground := Go.Ground.data }, { on := 7, ground := Go.Ground.data }, { on := 3, ground := Go.Ground.chain }], guard := none } : Oper)) rfl (fun K hK => ?_) AllReadyH.nil
              go_simp
              refine (holdsB.calls Au cu U At ct T 0 b4 HB4.out _ (Kd.C_below HLs.out.st.u (s3b (by assumption))) hcu (Kd.C_below HLs.out.st.t (s3b (by assumption))) hct (by omega) (by omega) (by omega)).mono ?_
              rintro e wx ⟨rfl, hb⟩
              have hS1 := s3 (by assumption) hb
              clear hb
              (try go_wp2_with fail)
              refine hK.out _ _ (by assumption) (fun hHeld => ?_)
              clear hK K
              (try simp only [Act.put, List.setIfInBounds_toArray, List.set_cons_zero, List.set_cons_succ])
              refine wpAnyH_take (i := 9) (oi := ({ dst := some 93, op := Go.Op.binOp Go.BinOp.neq 4 (Go.Operand.tmp 87) (Go.Operand.tmp 92) 4, type := 4, pos := "law.go:174", after := #[{ on := 3, ground := Go.Ground.data }, { on := 8, ground := Go.Ground.data }], guard := none } : Oper)) (v := ?vq9) rfl (by kernel_rfl) (by kernel_rfl) (by kernel_rfl) (fun _ _ _ h => h) (Or.inl ⟨by rfl, ?hyq9⟩) (by assumption) ?restq9
              case hyq9 => (intro w hSw; (try dsimp only at hSw); go_simp; (try with_reducible rfl))
              (try simp only [Act.put, List.setIfInBounds_toArray, List.set_cons_zero, List.set_cons_succ])
              refine wpAnyH_take (i := 10) (oi := ({ dst := some 94, op := Go.Op.move (Go.Operand.tmp 93), type := 4, pos := "law.go:174", after := #[{ on := 9, ground := Go.Ground.data }, { on := 8, ground := Go.Ground.chain }], guard := none } : Oper)) (v := ?vq10) rfl (by kernel_rfl) (by kernel_rfl) (by kernel_rfl) (fun _ _ _ h => h) (Or.inl ⟨by rfl, ?hyq10⟩) (by assumption) ?restq10
              case hyq10 => (intro w hSw; (try dsimp only at hSw); go_simp; (try with_reducible rfl))
              (try simp only [Act.put, List.setIfInBounds_toArray, List.set_cons_zero, List.set_cons_succ])
              refine wpAnyH_take (i := 11) (oi := ({ dst := some 95, op := Go.Op.move (Go.Operand.tmp 5), type := 22, pos := "law.go:174", after := #[{ on := 10, ground := Go.Ground.guard }], guard := some (10, false) } : Oper)) (v := ?vq11) rfl (by kernel_rfl) (by kernel_rfl) (by kernel_rfl) (fun _ _ _ h => h) (Or.inl ⟨by rfl, ?hyq11⟩) (by assumption) ?restq11
              case hyq11 => (intro w hSw; (try dsimp only at hSw); go_simp; (try with_reducible rfl))
              (try simp only [Act.put, List.setIfInBounds_toArray, List.set_cons_zero, List.set_cons_succ])
              refine wpAnyH_take (i := 12) (oi := ({ dst := some 96, op := Go.Op.fieldAddr 24 (Go.Operand.tmp 1) 1, type := 0, pos := "law.go:174", after := #[{ on := 10, ground := Go.Ground.guard }], guard := some (10, false) } : Oper)) (v := ?vq12) rfl (by kernel_rfl) (by kernel_rfl) (by kernel_rfl) (fun _ _ _ h => h) (Or.inl ⟨by rfl, ?hyq12⟩) (by assumption) ?restq12
              case hyq12 => (intro w hSw; (try dsimp only at hSw); go_simp; (try with_reducible rfl))
              (try simp only [Act.put, List.setIfInBounds_toArray, List.set_cons_zero, List.set_cons_succ])
              refine wpAnyH_take (i := 13) (oi := ({ dst := some 97, op := Go.Op.load 22 (Go.Operand.tmp 96), type := 22, pos := "law.go:174", after := #[{ on := 12, ground := Go.Ground.data }, { on := 10, ground := Go.Ground.guard }], guard := some (10, false) } : Oper)) (v := ?vq13) rfl (by kernel_rfl) (by kernel_rfl) (by kernel_rfl) (fun _ _ _ h => h) (Or.inl ⟨by rfl, ?hyq13⟩) (by assumption) ?restq13
              case hyq13 => (intro w hSw; (try dsimp only at hSw); go_simp; (try with_reducible rfl))
              (try simp only [Act.put, List.setIfInBounds_toArray, List.set_cons_zero, List.set_cons_succ])
              refine wpAnyH_take (i := 15) (oi := ({ dst := some 99, op := Go.Op.fieldAddr 24 (Go.Operand.tmp 1) 1, type := 0, pos := "law.go:174", after := #[{ on := 10, ground := Go.Ground.guard }], guard := some (10, false) } : Oper)) (v := ?vq15) rfl (by kernel_rfl) (by kernel_rfl) (by kernel_rfl) (fun _ _ _ h => h) (Or.inl ⟨by rfl, ?hyq15⟩) (by assumption) ?restq15
              case hyq15 => (intro w hSw; (try dsimp only at hSw); go_simp; (try with_reducible rfl))
              (try simp only [Act.put, List.setIfInBounds_toArray, List.set_cons_zero, List.set_cons_succ])
              refine wpAnyH_take (i := 16) (oi := ({ dst := some 100, op := Go.Op.load 22 (Go.Operand.tmp 99), type := 22, pos := "law.go:174", after := #[{ on := 15, ground := Go.Ground.data }, { on := 10, ground := Go.Ground.guard }], guard := some (10, false) } : Oper)) (v := ?vq16) rfl (by kernel_rfl) (by kernel_rfl) (by kernel_rfl) (fun _ _ _ h => h) (Or.inl ⟨by rfl, ?hyq16⟩) (by assumption) ?restq16
              case hyq16 => (intro w hSw; (try dsimp only at hSw); go_simp; (try with_reducible rfl))
              (try simp only [Act.put, List.setIfInBounds_toArray, List.set_cons_zero, List.set_cons_succ])
              refine wpAnyH_take (i := 17) (oi := ({ dst := some 101, op := Go.Op.fieldAddr 24 (Go.Operand.tmp 1) 0, type := 0, pos := "law.go:174", after := #[{ on := 10, ground := Go.Ground.guard }], guard := some (10, false) } : Oper)) (v := ?vq17) rfl (by kernel_rfl) (by kernel_rfl) (by kernel_rfl) (fun _ _ _ h => h) (Or.inl ⟨by rfl, ?hyq17⟩) (by assumption) ?restq17
              case hyq17 => (intro w hSw; (try dsimp only at hSw); go_simp; (try with_reducible rfl))
              (try simp only [Act.put, List.setIfInBounds_toArray, List.set_cons_zero, List.set_cons_succ])
              refine wpAnyH_take (i := 18) (oi := ({ dst := some 102, op := Go.Op.load 22 (Go.Operand.tmp 101), type := 22, pos := "law.go:174", after := #[{ on := 17, ground := Go.Ground.data }, { on := 10, ground := Go.Ground.guard }], guard := some (10, false) } : Oper)) (v := ?vq18) rfl (by kernel_rfl) (by kernel_rfl) (by kernel_rfl) (fun _ _ _ h => h) (Or.inl ⟨by rfl, ?hyq18⟩) (by assumption) ?restq18
              case hyq18 => (intro w hSw; (try dsimp only at hSw); go_simp; (try with_reducible rfl))
              (try simp only [Act.put, List.setIfInBounds_toArray, List.set_cons_zero, List.set_cons_succ])
              refine wpAnyH_take (i := 19) (oi := ({ dst := some 103, op := Go.Op.fieldAddr 24 (Go.Operand.tmp 1) 1, type := 0, pos := "law.go:174", after := #[{ on := 10, ground := Go.Ground.guard }], guard := some (10, false) } : Oper)) (v := ?vq19) rfl (by kernel_rfl) (by kernel_rfl) (by kernel_rfl) (fun _ _ _ h => h) (Or.inl ⟨by rfl, ?hyq19⟩) (by assumption) ?restq19
              case hyq19 => (intro w hSw; (try dsimp only at hSw); go_simp; (try with_reducible rfl))
              (try simp only [Act.put, List.setIfInBounds_toArray, List.set_cons_zero, List.set_cons_succ])
              refine wpAnyH_take (i := 20) (oi := ({ dst := some 104, op := Go.Op.load 22 (Go.Operand.tmp 103), type := 22, pos := "law.go:174", after := #[{ on := 19, ground := Go.Ground.data }, { on := 10, ground := Go.Ground.guard }], guard := some (10, false) } : Oper)) (v := ?vq20) rfl (by kernel_rfl) (by kernel_rfl) (by kernel_rfl) (fun _ _ _ h => h) (Or.inl ⟨by rfl, ?hyq20⟩) (by assumption) ?restq20
              case hyq20 => (intro w hSw; (try dsimp only at hSw); go_simp; (try with_reducible rfl))
              (try simp only [Act.put, List.setIfInBounds_toArray, List.set_cons_zero, List.set_cons_succ])
              refine wpAnyH_take (i := 21) (oi := ({ dst := some 105, op := Go.Op.call { callee := Go.Callee.builtin Go.Builtin.len, args := #[Go.Operand.tmp 104], argTypes := #[22] }, type := 3, pos := "law.go:174", after := #[{ on := 20, ground := Go.Ground.data }, { on := 10, ground := Go.Ground.guard }], guard := some (10, false) } : Oper)) (v := ?vq21) rfl (by kernel_rfl) (by kernel_rfl) (by kernel_rfl) (fun _ _ _ h => h) (Or.inl ⟨by rfl, ?hyq21⟩) (by assumption) ?restq21
              case hyq21 => (intro w hSw; (try dsimp only at hSw); go_simp; (try with_reducible rfl))
              (try simp only [Act.put, List.setIfInBounds_toArray, List.set_cons_zero, List.set_cons_succ])
              refine wpAnyH_take (i := 22) (oi := ({ dst := some 106, op := Go.Op.fieldAddr 24 (Go.Operand.tmp 1) 0, type := 0, pos := "law.go:174", after := #[{ on := 10, ground := Go.Ground.guard }], guard := some (10, false) } : Oper)) (v := ?vq22) rfl (by kernel_rfl) (by kernel_rfl) (by kernel_rfl) (fun _ _ _ h => h) (Or.inl ⟨by rfl, ?hyq22⟩) (by assumption) ?restq22
              case hyq22 => (intro w hSw; (try dsimp only at hSw); go_simp; (try with_reducible rfl))
              (try simp only [Act.put, List.setIfInBounds_toArray, List.set_cons_zero, List.set_cons_succ])
              refine wpAnyH_take (i := 23) (oi := ({ dst := some 107, op := Go.Op.load 22 (Go.Operand.tmp 106), type := 22, pos := "law.go:174", after := #[{ on := 22, ground := Go.Ground.data }, { on := 10, ground := Go.Ground.guard }], guard := some (10, false) } : Oper)) (v := ?vq23) rfl (by kernel_rfl) (by kernel_rfl) (by kernel_rfl) (fun _ _ _ h => h) (Or.inl ⟨by rfl, ?hyq23⟩) (by assumption) ?restq23
              case hyq23 => (intro w hSw; (try dsimp only at hSw); go_simp; (try with_reducible rfl))
              (try simp only [Act.put, List.setIfInBounds_toArray, List.set_cons_zero, List.set_cons_succ])
              refine wpAnyH_take (i := 24) (oi := ({ dst := some 108, op := Go.Op.call { callee := Go.Callee.builtin Go.Builtin.len, args := #[Go.Operand.tmp 107], argTypes := #[22] }, type := 3, pos := "law.go:174", after := #[{ on := 23, ground := Go.Ground.data }, { on := 10, ground := Go.Ground.guard }], guard := some (10, false) } : Oper)) (v := ?vq24) rfl (by kernel_rfl) (by kernel_rfl) (by kernel_rfl) (fun _ _ _ h => h) (Or.inl ⟨by rfl, ?hyq24⟩) (by assumption) ?restq24
              case hyq24 => (intro w hSw; (try dsimp only at hSw); go_simp; (try with_reducible rfl))
              (try simp only [Act.put, List.setIfInBounds_toArray, List.set_cons_zero, List.set_cons_succ])
              refine wpAnyH_take (i := 25) (oi := ({ dst := some 109, op := Go.Op.binOp Go.BinOp.sub 3 (Go.Operand.tmp 105) (Go.Operand.tmp 108) 3, type := 3, pos := "law.go:174", after := #[{ on := 21, ground := Go.Ground.data }, { on := 24, ground := Go.Ground.data }, { on := 10, ground := Go.Ground.guard }], guard := some (10, false) } : Oper)) (v := Value.int .i64 dd) rfl (by kernel_rfl) (by kernel_rfl) (by kernel_rfl) (fun _ _ _ h => h) (Or.inl ⟨by rfl, ?hyq25⟩) (by assumption) ?restq25
              case hyq25 => (intro w hSw; (try dsimp only at hSw); go_simp; rw [HDD.out]; (try (rw [IntKind.wrap_i64]; omega)))
              (try simp only [Act.put, List.setIfInBounds_toArray, List.set_cons_zero, List.set_cons_succ])
              refine wpAnyH_ready (rs := [14]) (by kernel_rfl) (by simp) ?_
              refine AllReadyH.cons (o := ({ dst := some 98, op := Go.Op.call { callee := Go.Callee.value (Go.Operand.func 14), args := #[Go.Operand.tmp 95, Go.Operand.tmp 97], argTypes := #[22, 22] }, type := 4, pos := "law.go:174", after := #[{ on := 11, ground := Go.Ground.data }, { on := 13, ground := Go.Ground.data }, { on := 10, ground := Go.Ground.chain }, { on := 10, ground := Go.Ground.guard }], guard := some (10, false) } : Oper)) rfl (fun K hK => ?_) AllReadyH.nil
              go_simp
              refine (globC.calls Aa ca la Au cu U _ b5 G5.out (Kd.C_below HLs.out.a (s3b (by assumption))) hca IA.out (by omega) (Kd.C_below HLs.out.st.u (s3b (by assumption))) hcu HIU.out (by omega) (HLs.out.st.gl.below (s3b (by assumption)))).mono ?_
              rintro e wx ⟨rfl, hb⟩
              have hS1 := s3 (by assumption) hb
              clear hb
              (try go_wp2_with fail)
              refine hK.out _ _ (by assumption) (fun hHeld => ?_)
              clear hK K
              (try simp only [Act.put, List.setIfInBounds_toArray, List.set_cons_zero, List.set_cons_succ])
              refine wpAnyH_ready (rs := [26]) (by kernel_rfl) (by simp) ?_
              refine AllReadyH.cons (o := ({ dst := some 110, op := Go.Op.call { callee := Go.Callee.value (Go.Operand.func 13), args := #[Go.Operand.tmp 100, Go.Operand.tmp 102, Go.Operand.tmp 109], argTypes := #[22, 22, 3] }, type := 4, pos := "law.go:174", after := #[{ on := 16, ground := Go.Ground.data }, { on := 18, ground := Go.Ground.data }, { on := 25, ground := Go.Ground.data }, { on := 14, ground := Go.Ground.chain }, { on := 10, ground := Go.Ground.guard }], guard := some (10, false) } : Oper)) rfl (fun K hK => ?_) AllReadyH.nil
              go_simp
              refine (holdsB.calls Au cu U At ct T dd b5 HB5.out _ (Kd.C_below HLs.out.st.u (s3b (by assumption))) hcu (Kd.C_below HLs.out.st.t (s3b (by assumption))) hct (by omega) (by omega) (by omega)).mono ?_
              rintro e wx ⟨rfl, hb⟩
              have hS1 := s3 (by assumption) hb
              clear hb
              (try go_wp2_with fail)
              refine hK.out _ _ (by assumption) (fun hHeld => ?_)
              clear hK K
              (try simp only [Act.put, List.setIfInBounds_toArray, List.set_cons_zero, List.set_cons_succ])
              refine wpAnyH_take (i := 27) (oi := ({ dst := some 111, op := Go.Op.binOp Go.BinOp.neq 4 (Go.Operand.tmp 98) (Go.Operand.tmp 110) 4, type := 4, pos := "law.go:174", after := #[{ on := 14, ground := Go.Ground.data }, { on := 26, ground := Go.Ground.data }, { on := 10, ground := Go.Ground.guard }], guard := some (10, false) } : Oper)) (v := ?vq27) rfl (by kernel_rfl) (by kernel_rfl) (by kernel_rfl) (fun _ _ _ h => h) (Or.inl ⟨by rfl, ?hyq27⟩) (by assumption) ?restq27
              case hyq27 => (intro w hSw; (try dsimp only at hSw); go_simp; (try with_reducible rfl))
              (try simp only [Act.put, List.setIfInBounds_toArray, List.set_cons_zero, List.set_cons_succ])
              refine wpAnyH_take (i := 28) (oi := ({ dst := some 112, op := Go.Op.pick (Go.Operand.tmp 94) (Go.Operand.const (Go.Value.bool true)) (Go.Operand.tmp 111), type := 4, pos := "law.go:174", after := #[{ on := 10, ground := Go.Ground.data }, { on := 27, ground := Go.Ground.data }], guard := none } : Oper)) (v := ?vq28) rfl (by kernel_rfl) (by kernel_rfl) (by kernel_rfl) (fun _ _ _ h => h) (Or.inl ⟨by rfl, ?hyq28⟩) (by assumption) ?restq28
              case hyq28 => (intro w hSw; (try dsimp only at hSw); go_simp; (try with_reducible rfl))
              (try simp only [Act.put, List.setIfInBounds_toArray, List.set_cons_zero, List.set_cons_succ])
              refine wpAnyH_done (by kernel_rfl) ?_ _
              (try go_wp2_with fail)
              go_meet
              exact ⟨rfl, ⟨s3b (by assumption)⟩⟩
            case rest =>
              obtain ⟨rfl, HC17⟩ := hcut
              have HLt := Aside0.mk (HLs.out.next HC17.out)
              clear HC17 hS2
              rename World => wt
              obtain ⟨y0, y1, y2⟩ := HLt.out.st.z
              by_cases hz : T.length = 0
              · have e0 : ((T.length : Int) == 0) = true := beq_iff_eq.2 (by omega)
                have e0' : (T.length == 0) = true := beq_iff_eq.2 hz
                go_wp2_with fail
                go_ret
                exact ⟨rfl, HLt.out.st.bel⟩
              have e0 : ((T.length : Int) == 0) = false := beq_eq_false_iff_ne.2 (by omega)
              have e0' : (T.length == 0) = false := beq_eq_false_iff_ne.2 hz
              obtain ⟨mm, hmm⟩ : ∃ mm, Int.tmod N (T.length : Int) = mm := ⟨_, rfl⟩
              have hpos : (0 : Int) < T.length := by omega
              have m1 := Int.tmod_lt_of_pos N hpos
              have m2 : -(T.length : Int) < Int.tmod N T.length := by
                rcases Int.le_total 0 N with h | h
                · have := Int.tmod_nonneg (T.length : Int) h; omega
                · have h3 := Int.tmod_lt_of_pos (-N) hpos
                  rw [Int.neg_tmod] at h3
                  omega
              rw [hmm] at m1 m2
              obtain ⟨k, hk⟩ : ∃ k : Nat, (k : Int) = (if mm < 0 then mm + T.length else mm) := ⟨(if mm < 0 then mm + T.length else mm).toNat, by split <;> omega⟩
              have hkT : k < T.length := by split at hk <;> omega
              have HK := Aside0.mk hk
              clear hk
              go_upto_if 124 with (fail)
              go_cut [10] (fun v10 wc => v10 = .int .i64 (k : Int) ∧ wc = wt)
              case first =>
                by_cases hneg : mm < 0
                · have dn : decide (mm < 0) = true := decide_eq_true hneg
                  have HKK := Aside0.mk (show mm + (T.length : Int) = (k : Int) by have := HK.out; rw [if_pos hneg] at this; omega)
                  go_wp2_with fail
                  go_meet
                  exact ⟨congrArg (Value.int .i64) (by first | exact HKK.out | (rw [HKK.out]; first | rfl | (rw [IntKind.wrap_i64]; omega) | (unfold wrap64; omega))), rfl⟩
                · have dn : decide (mm < 0) = false := decide_eq_false hneg
                  have HKK := Aside0.mk (show mm = (k : Int) by have := HK.out; rw [if_neg hneg] at this; omega)
                  go_wp2_with fail
                  go_meet
                  exact ⟨congrArg (Value.int .i64) HKK.out, rfl⟩
              case rest =>
                obtain ⟨rfl, hwc⟩ := hcut
                subst hwc
                rename World => wt
                clear m1 m2 hmm
                obtain ⟨z0, z1, z2⟩ := HLt.out.st.z
                obtain ⟨hrt, hCt⟩ := cut_at T At ct hct k (by omega)
                obtain ⟨Atd, hrd, hCd, hcd⟩ := cut_drop2 T At ct hct (k + 1) (by omega)
                have hrd : ∀ W : World, (Instr.slice 22 (.slice At T.length ct) (some (.int .i64 ((k : Int) + 1))) none none).run Tryd.prog W = .ok (.slice Atd (T.drop (k + 1)).length (ct - (k + 1))) W := hrd
                have hia : QuoteS.inB (T.take k) := fun x hx => HIT.out x (List.mem_of_mem_take hx)
                have hib : QuoteS.inB (T.drop (k + 1)) := inB_drop HIT.out _
                have hG6 := glob_one (T.take k) (T.drop (k + 1)) U hia hib HIU.out
                have hl1 : (T.take k).length = k := by rw [List.length_take]; omega
                have hl2 : (T.drop (k + 1)).length = T.length - (k + 1) := List.length_drop
                have hxa := rfl (a := T.take k)
                have hxb := rfl (a := T.drop (k + 1))
                generalize hta : T.take k = ta at hrt hCt hia hG6 hl1
                generalize htb : T.drop (k + 1) = tb at hrd hCd hcd hib hG6 hl2
                obtain ⟨qa, hqa⟩ : ∃ qa, qa = quoteL ta := ⟨_, rfl⟩
                obtain ⟨qb, hqb⟩ : ∃ qb, qb = quoteL tb := ⟨_, rfl⟩
                obtain ⟨q1, hq1⟩ : ∃ q1, q1 = qa ++ [63] := ⟨_, rfl⟩
                obtain ⟨q2, hq2⟩ : ∃ q2, q2 = q1 ++ qb := ⟨_, rfl⟩
                have la1 : qa.length = 2 * ta.length := by rw [hqa]; exact quoteL_len ta
                have lb1 : qb.length = 2 * tb.length := by rw [hqb]; exact quoteL_len tb
                have lq1 : q1.length = qa.length + 1 := by rw [hq1, List.length_append, List.length_singleton]
                have lq2 : q2.length = q1.length + qb.length := by rw [hq2, List.length_append]
                have bta : ta.length ≤ 300 := by omega
                have btb : tb.length ≤ 300 := by omega
                have bqa : qa.length ≤ 600 := by omega
                have bqb : qb.length ≤ 600 := by omega
                have bq1 : q1.length ≤ 601 := by omega
                have bq2 : q2.length ≤ 1201 := by omega
                have hiqa : QuoteS.inB qa := by rw [hqa]; exact quoteL_in hia
                have hiqb : QuoteS.inB qb := by rw [hqb]; exact quoteL_in hib
                have IQ2 := Aside0.mk (show QuoteS.inB q2 by rw [hq2, hq1]; exact inB_app (inB_app hiqa (by unfold QuoteS.inB; decide)) hiqb)
                have HG6 := Aside0.mk (show globL q2 U = decide (U.length = T.length ∧ U.take k = ta ∧ U.drop (k + 1) = tb) by
                  rw [hq2, hq1, hqa, hqb, List.append_assoc]
                  refine Eq.trans hG6 ?_
                  rw [hl1, decide_eq_decide, show k + 1 + tb.length = T.length by omega])
                have HTA := Aside0.mk hta
                have HTB := Aside0.mk htb
                have HQA := Aside0.mk hqa
                have HQB := Aside0.mk hqb
                have HQ1 := Aside0.mk hq1
                have HQ2 := Aside0.mk hq2
                have HL1 := Aside0.mk hl1
                have HL22 := Aside0.mk hl2
                have HCta := Aside0.mk hCt
                have HCtb := Aside0.mk hCd
                have hcta : ta.length ≤ ct := by omega
                have hctb := hcd
                clear hta htb hqa hqb hq1 hq2 hl1 hl2 hCt hCd hcd la1 lb1 lq1 lq2 hiqa hiqb hia hib hG6 hxa hxb
                go_wp2_with fail
                refine (quote.calls At ct ta qa HQA.out _ (HCta.out _ HLt.out.st.t) hcta (by omega)).mono ?_
                rintro e w20 ⟨v20, rfl, hR, hb⟩
                have HR20 := Aside0.mk hR
                have HB20 := Aside0.mk hb
                clear hR hb z0 z1 z2 y0 y1 y2
                have HL20 := Aside0.mk (HLt.out.next HB20.out)
                obtain ⟨z0, z1, z2⟩ := HL20.out.st.z
                go_wp2_with (first
                  | ((with_reducible refine gate_builtin (b := .append) (xs := #[.tmp 134, .tmp 135]) rfl ?_); at_builtin; refine Kd.R_append_rows (Kd.int .u8) (w0 := wt) wt.heap.size rfl (.tmp 134) (.tmp 135) 22 5 (.int .u8 0) 1 rfl Tryd.underlying22 PB.spi rfl (by decide) (by omega) v20 qa [63] _ _ _ (fun _ => True) (fun _ => False) rfl rfl ?aO ?aR (fun _ _ h => h) (fun _ h => h.elim) ?aF ?aB ?aS ?aL ?_; (case aR => exact got_const w20 _ rfl [63] (0, 0) (by decide)); (case aB => exact below_alloc HB20.out _); (case aF => exact (fun _ _ => trivial)); (case aO => exact Kd.R_alloc HR20.out _); (case aS => exact (below_alloc HB20.out _).size); (case aL => (try simp only [List.length_singleton]); omega); intro v21 w21 ho hb hg hat; rw [← HQ1.out] at ho; have HR21 := Aside0.mk ho; have HB21 := Aside0.mk hb; clear ho hb hg hat HR20 HB20 HL20 z0 z1 z2; have HL21 := Aside0.mk (HLt.out.next HB21.out); obtain ⟨z0, z1, z2⟩ := HL21.out.st.z))
                refine (quote.calls Atd (ct - (k + 1)) tb qb HQB.out _ (HCtb.out _ HL21.out.st.t) hctb (by omega)).mono ?_
                rintro e w22 ⟨v22, rfl, hR, hb⟩
                obtain ⟨Aq, cq, rfl, hcq, hCq⟩ := Kd.R_reads hR
                have HCQ := Aside0.mk hCq
                have HR22 := Aside0.mk (Kd.R_below HR21.out hb)
                have HB22 := Aside0.mk (PB.below_next HB21.out hb)
                clear hR hb hCq z0 z1 z2 HR21 HB21 HL21
                go_wp2_with (first
                  | ((with_reducible refine gate_builtin (b := .append) (xs := #[.tmp 137, .tmp 143]) rfl ?_); at_builtin; refine Kd.R_append_rows (Kd.int .u8) (w0 := wt) wt.heap.size rfl (.tmp 137) (.tmp 143) 22 5 (.int .u8 0) 1 rfl Tryd.underlying22 PB.spi rfl (by decide) (by omega) v21 q1 qb _ _ _ (fun _ => True) (fun _ => False) rfl rfl ?aO ?aR (fun _ _ h => h) (fun _ h => h.elim) ?aF ?aB ?aS ?aL ?_; (case aR => exact HCQ.out); (case aB => exact HB22.out); (case aF => exact (fun _ _ => trivial)); (case aO => exact HR22.out); (case aS => exact HB22.out.size); (case aL => omega); intro v23 wu ho hb hg hat; rw [← HQ2.out] at ho; obtain ⟨A2, c2, rfl, hc2, hC2⟩ := Kd.R_reads ho; have HC2 := Aside0.mk hC2; have HBU := Aside0.mk hb; clear ho hb hg hat HR22 HB22 HCQ hC2; have HLu := Aside0.mk (HLt.out.next HBU.out); obtain ⟨z0, z1, z2⟩ := HLu.out.st.z))
                obtain ⟨nr, hnr⟩ : ∃ nr, decide (U.length = T.length ∧ U.take k = ta ∧ U.drop (k + 1) = tb) = nr := ⟨_, rfl⟩
                have HNR := Aside0.mk hnr
                have hS3 : wu.drew.cell? ⟨gb, 0, none⟩ = some (.slice At T.length ct) ∧ wu.drew.cell? ⟨gb, 1, none⟩ = some (.slice Au U.length cu) ∧ Aside0 (Below wu.heap.size wu wu.drew) := ⟨z0, z1, ⟨(Below.refl _ wu).drew⟩⟩
                clear hnr z0 z1 z2
                go_upto_region 26 with (fail)
                go_cut [12] (fun v12 wc => v12 = .bool nr ∧ Aside0 (Below wu.heap.size wu wc))
                case first =>
                  by_cases hl : U.length = T.length
                  · have e1 : ((U.length : Int) == (T.length : Int)) = true := beq_iff_eq.2 (by omega)
                    have e1' : (U.length == T.length) = true := beq_iff_eq.2 hl
                    obtain ⟨hru, hCu⟩ := cut_at U Au cu hcu k (by omega)
                    obtain ⟨Aud, hrud, hCud, hcud⟩ := cut_drop2 U Au cu hcu (k + 1) (by omega)
                    have hrud : ∀ W : World, (Instr.slice 22 (.slice Au U.length cu) (some (.int .i64 ((k : Int) + 1))) none none).run Tryd.prog W = .ok (.slice Aud (U.drop (k + 1)).length (cu - (k + 1))) W := hrud
                    have hlu : (U.take k).length ≤ cu := by rw [List.length_take]; omega
                    have hlu2 : (U.take k).length ≤ 300 := by rw [List.length_take]; omega
                    have hlu3 : (U.drop (k + 1)).length ≤ 300 := by rw [List.length_drop]; omega
                    have HNR2 := Aside0.mk (fun (hx : decide (U.take k = ta) = false) => show nr = false by rw [← HNR.out, decide_eq_false_iff_not]; exact fun h => of_decide_eq_false hx h.2.1)
                    have HNR3 := Aside0.mk (fun (b : Bool) (hx : decide (U.take k = ta) = true) (hy : decide (U.drop (k + 1) = tb) = b) => show nr = b by
                      rw [← HNR.out, ← hy, decide_eq_decide]
                      exact ⟨fun h => h.2.2, fun h => ⟨hl, of_decide_eq_true hx, h⟩⟩)
                    generalize U.take k = ua at *
                    generalize U.drop (k + 1) = ub at *
                    have HCua := Aside0.mk hCu
                    have HCub := Aside0.mk hCud
                    have hcua := hlu
                    have hcub := hcud
                    clear hCu hCud hl hcud hlu
                    obtain ⟨ba, hba⟩ : ∃ ba, decide (ua = ta) = ba := ⟨_, rfl⟩
                    have HBA := Aside0.mk hba
                    cases ba
                    · have HN := Aside0.mk (HNR2.out hba)
                      clear hba HNR3 HNR2
                      refine wp_region_held_drew (S := (fun w' => w'.cell? ⟨gb, 0, none⟩ = some (.slice At T.length ct) ∧ w'.cell? ⟨gb, 1, none⟩ = some (.slice Au U.length cu) ∧ Aside0 (Below wu.heap.size wu w'))) (by kernel_rfl) (by exact hS3) (fun hHeld => ?_)
                      refine wpAnyH_take (i := 0) (oi := ({ dst := some 145, op := Go.Op.fieldAddr 24 (Go.Operand.tmp 1) 1, type := 0, pos := "law.go:186", after := #[], guard := none } : Oper)) (v := ?vb0) rfl (by kernel_rfl) (by kernel_rfl) (by kernel_rfl) (fun _ _ _ h => h) (Or.inl ⟨by rfl, ?hyb0⟩) (by assumption) ?restb0
                      case hyb0 => (intro w hSw; (try dsimp only at hSw); go_simp; (try with_reducible rfl))
                      (try simp only [Act.put, List.setIfInBounds_toArray, List.set_cons_zero, List.set_cons_succ])
                      refine wpAnyH_take (i := 1) (oi := ({ dst := some 146, op := Go.Op.load 22 (Go.Operand.tmp 145), type := 22, pos := "law.go:186", after := #[{ on := 0, ground := Go.Ground.data }], guard := none } : Oper)) (v := ?vb1) rfl (by kernel_rfl) (by kernel_rfl) (by kernel_rfl) (fun _ _ _ h => h) (Or.inl ⟨by rfl, ?hyb1⟩) (by assumption) ?restb1
                      case hyb1 => (intro w hSw; (try dsimp only at hSw); go_simp; (try with_reducible rfl))
                      (try simp only [Act.put, List.setIfInBounds_toArray, List.set_cons_zero, List.set_cons_succ])
                      refine wpAnyH_take (i := 2) (oi := ({ dst := some 147, op := Go.Op.call { callee := Go.Callee.builtin Go.Builtin.len, args := #[Go.Operand.tmp 146], argTypes := #[22] }, type := 3, pos := "law.go:186", after := #[{ on := 1, ground := Go.Ground.data }], guard := none } : Oper)) (v := ?vb2) rfl (by kernel_rfl) (by kernel_rfl) (by kernel_rfl) (fun _ _ _ h => h) (Or.inl ⟨by rfl, ?hyb2⟩) (by assumption) ?restb2
                      case hyb2 => (intro w hSw; (try dsimp only at hSw); go_simp; (try with_reducible rfl))
                      (try simp only [Act.put, List.setIfInBounds_toArray, List.set_cons_zero, List.set_cons_succ])
                      refine wpAnyH_take (i := 3) (oi := ({ dst := some 148, op := Go.Op.fieldAddr 24 (Go.Operand.tmp 1) 0, type := 0, pos := "law.go:186", after := #[], guard := none } : Oper)) (v := ?vb3) rfl (by kernel_rfl) (by kernel_rfl) (by kernel_rfl) (fun _ _ _ h => h) (Or.inl ⟨by rfl, ?hyb3⟩) (by assumption) ?restb3
                      case hyb3 => (intro w hSw; (try dsimp only at hSw); go_simp; (try with_reducible rfl))
                      (try simp only [Act.put, List.setIfInBounds_toArray, List.set_cons_zero, List.set_cons_succ])
                      refine wpAnyH_take (i := 4) (oi := ({ dst := some 149, op := Go.Op.load 22 (Go.Operand.tmp 148), type := 22, pos := "law.go:186", after := #[{ on := 3, ground := Go.Ground.data }], guard := none } : Oper)) (v := ?vb4) rfl (by kernel_rfl) (by kernel_rfl) (by kernel_rfl) (fun _ _ _ h => h) (Or.inl ⟨by rfl, ?hyb4⟩) (by assumption) ?restb4
                      case hyb4 => (intro w hSw; (try dsimp only at hSw); go_simp; (try with_reducible rfl))
                      (try simp only [Act.put, List.setIfInBounds_toArray, List.set_cons_zero, List.set_cons_succ])
                      refine wpAnyH_take (i := 5) (oi := ({ dst := some 150, op := Go.Op.call { callee := Go.Callee.builtin Go.Builtin.len, args := #[Go.Operand.tmp 149], argTypes := #[22] }, type := 3, pos := "law.go:186", after := #[{ on := 4, ground := Go.Ground.data }], guard := none } : Oper)) (v := ?vb5) rfl (by kernel_rfl) (by kernel_rfl) (by kernel_rfl) (fun _ _ _ h => h) (Or.inl ⟨by rfl, ?hyb5⟩) (by assumption) ?restb5
                      case hyb5 => (intro w hSw; (try dsimp only at hSw); go_simp; (try with_reducible rfl))
                      (try simp only [Act.put, List.setIfInBounds_toArray, List.set_cons_zero, List.set_cons_succ])
                      refine wpAnyH_take (i := 6) (oi := ({ dst := some 151, op := Go.Op.binOp Go.BinOp.eql 3 (Go.Operand.tmp 147) (Go.Operand.tmp 150) 3, type := 4, pos := "law.go:186", after := #[{ on := 2, ground := Go.Ground.data }, { on := 5, ground := Go.Ground.data }], guard := none } : Oper)) (v := ?vb6) rfl (by kernel_rfl) (by kernel_rfl) (by kernel_rfl) (fun _ _ _ h => h) (Or.inl ⟨by rfl, ?hyb6⟩) (by assumption) ?restb6
                      case hyb6 => (intro w hSw; (try dsimp only at hSw); go_simp; (try with_reducible rfl))
                      (try simp only [Act.put, List.setIfInBounds_toArray, List.set_cons_zero, List.set_cons_succ])
                      refine wpAnyH_take (i := 7) (oi := ({ dst := some 152, op := Go.Op.move (Go.Operand.tmp 151), type := 4, pos := "law.go:186", after := #[{ on := 6, ground := Go.Ground.data }], guard := none } : Oper)) (v := ?vb7) rfl (by kernel_rfl) (by kernel_rfl) (by kernel_rfl) (fun _ _ _ h => h) (Or.inl ⟨by rfl, ?hyb7⟩) (by assumption) ?restb7
                      case hyb7 => (intro w hSw; (try dsimp only at hSw); go_simp; (try with_reducible rfl))
                      (try simp only [Act.put, List.setIfInBounds_toArray, List.set_cons_zero, List.set_cons_succ])
                      refine wpAnyH_take (i := 8) (oi := ({ dst := some 153, op := Go.Op.fieldAddr 24 (Go.Operand.tmp 1) 1, type := 0, pos := "law.go:186", after := #[{ on := 7, ground := Go.Ground.guard }], guard := some (7, true) } : Oper)) (v := ?vb8) rfl (by kernel_rfl) (by kernel_rfl) (by kernel_rfl) (fun _ _ _ h => h) (Or.inl ⟨by rfl, ?hyb8⟩) (by assumption) ?restb8
                      case hyb8 => (intro w hSw; (try dsimp only at hSw); go_simp; (try with_reducible rfl))
                      (try simp only [Act.put, List.setIfInBounds_toArray, List.set_cons_zero, List.set_cons_succ])
                      refine wpAnyH_take (i := 9) (oi := ({ dst := some 154, op := Go.Op.load 22 (Go.Operand.tmp 153), type := 22, pos := "law.go:186", after := #[{ on := 8, ground := Go.Ground.data }, { on := 7, ground := Go.Ground.guard }], guard := some (7, true) } : Oper)) (v := ?vb9) rfl (by kernel_rfl) (by kernel_rfl) (by kernel_rfl) (fun _ _ _ h => h) (Or.inl ⟨by rfl, ?hyb9⟩) (by assumption) ?restb9
                      case hyb9 => (intro w hSw; (try dsimp only at hSw); go_simp; (try with_reducible rfl))
                      (try simp only [Act.put, List.setIfInBounds_toArray, List.set_cons_zero, List.set_cons_succ])
                      refine wpAnyH_take (i := 10) (oi := ({ dst := some 155, op := Go.Op.move (Go.Operand.tmp 10), type := 3, pos := "law.go:186", after := #[{ on := 7, ground := Go.Ground.guard }], guard := some (7, true) } : Oper)) (v := ?vb10) rfl (by kernel_rfl) (by kernel_rfl) (by kernel_rfl) (fun _ _ _ h => h) (Or.inl ⟨by rfl, ?hyb10⟩) (by assumption) ?restb10
                      case hyb10 => (intro w hSw; (try dsimp only at hSw); go_simp; (try with_reducible rfl))
                      (try simp only [Act.put, List.setIfInBounds_toArray, List.set_cons_zero, List.set_cons_succ])
                      refine wpAnyH_take (i := 11) (oi := ({ dst := some 156, op := Go.Op.slice 22 (Go.Operand.tmp 154) none (some (Go.Operand.tmp 155)) none, type := 22, pos := "law.go:186", after := #[{ on := 9, ground := Go.Ground.data }, { on := 10, ground := Go.Ground.data }, { on := 7, ground := Go.Ground.guard }], guard := some (7, true) } : Oper)) (v := ?vb11) rfl (by kernel_rfl) (by kernel_rfl) (by kernel_rfl) (fun _ _ _ h => h) (Or.inl ⟨by rfl, ?hyb11⟩) (by assumption) ?restb11
                      case hyb11 => (intro w hSw; (try dsimp only at hSw); go_simp; (try with_reducible rfl))
                      (try simp only [Act.put, List.setIfInBounds_toArray, List.set_cons_zero, List.set_cons_succ])
                      refine wpAnyH_take (i := 12) (oi := ({ dst := some 157, op := Go.Op.fieldAddr 24 (Go.Operand.tmp 1) 0, type := 0, pos := "law.go:186", after := #[{ on := 7, ground := Go.Ground.guard }], guard := some (7, true) } : Oper)) (v := ?vb12) rfl (by kernel_rfl) (by kernel_rfl) (by kernel_rfl) (fun _ _ _ h => h) (Or.inl ⟨by rfl, ?hyb12⟩) (by assumption) ?restb12
                      case hyb12 => (intro w hSw; (try dsimp only at hSw); go_simp; (try with_reducible rfl))
                      (try simp only [Act.put, List.setIfInBounds_toArray, List.set_cons_zero, List.set_cons_succ])
                      refine wpAnyH_take (i := 13) (oi := ({ dst := some 158, op := Go.Op.load 22 (Go.Operand.tmp 157), type := 22, pos := "law.go:186", after := #[{ on := 12, ground := Go.Ground.data }, { on := 7, ground := Go.Ground.guard }], guard := some (7, true) } : Oper)) (v := ?vb13) rfl (by kernel_rfl) (by kernel_rfl) (by kernel_rfl) (fun _ _ _ h => h) (Or.inl ⟨by rfl, ?hyb13⟩) (by assumption) ?restb13
                      case hyb13 => (intro w hSw; (try dsimp only at hSw); go_simp; (try with_reducible rfl))
                      (try simp only [Act.put, List.setIfInBounds_toArray, List.set_cons_zero, List.set_cons_succ])
                      refine wpAnyH_take (i := 14) (oi := ({ dst := some 159, op := Go.Op.move (Go.Operand.tmp 10), type := 3, pos := "law.go:186", after := #[{ on := 7, ground := Go.Ground.guard }], guard := some (7, true) } : Oper)) (v := ?vb14) rfl (by kernel_rfl) (by kernel_rfl) (by kernel_rfl) (fun _ _ _ h => h) (Or.inl ⟨by rfl, ?hyb14⟩) (by assumption) ?restb14
                      case hyb14 => (intro w hSw; (try dsimp only at hSw); go_simp; (try with_reducible rfl))
                      (try simp only [Act.put, List.setIfInBounds_toArray, List.set_cons_zero, List.set_cons_succ])
                      refine wpAnyH_take (i := 15) (oi := ({ dst := some 160, op := Go.Op.slice 22 (Go.Operand.tmp 158) none (some (Go.Operand.tmp 159)) none, type := 22, pos := "law.go:186", after := #[{ on := 13, ground := Go.Ground.data }, { on := 14, ground := Go.Ground.data }, { on := 7, ground := Go.Ground.guard }], guard := some (7, true) } : Oper)) (v := ?vb15) rfl (by kernel_rfl) (by kernel_rfl) (by kernel_rfl) (fun _ _ _ h => h) (Or.inl ⟨by rfl, ?hyb15⟩) (by assumption) ?restb15
                      case hyb15 => (intro w hSw; (try dsimp only at hSw); go_simp; (try with_reducible rfl))
                      (try simp only [Act.put, List.setIfInBounds_toArray, List.set_cons_zero, List.set_cons_succ])
                      refine wpAnyH_ready (rs := [16]) (by kernel_rfl) (by simp) ?_
                      refine AllReadyH.cons (o := ({ dst := some 161, op := Go.Op.call { callee := Go.Callee.value (Go.Operand.func 15), args := #[Go.Operand.tmp 156, Go.Operand.tmp 160], argTypes := #[22, 22] }, type := 4, pos := "law.go:186", after := #[{ on := 11, ground := Go.Ground.data }, { on := 15, ground := Go.Ground.data }, { on := 7, ground := Go.Ground.chain }, { on := 7, ground := Go.Ground.guard }], guard := some (7, true) } : Oper)) rfl (fun K hK => ?_) AllReadyH.nil
                      go_simp
                      refine (eqB.calls Au cu ua At ct ta _ HBA.out _ (HCua.out _ (Kd.C_below HLu.out.st.u (s3b (by assumption)))) hcua (HCta.out _ (Kd.C_below HLu.out.st.t (s3b (by assumption)))) hcta (by omega)).mono ?_
                      rintro e wx ⟨rfl, hb⟩
                      have hS1 := s3 (by assumption) hb
                      clear hb
                      (try go_wp2_with fail)
                      refine hK.out _ _ (by assumption) (fun hHeld => ?_)
                      clear hK K
                      (try simp only [Act.put, List.setIfInBounds_toArray, List.set_cons_zero, List.set_cons_succ])
                      refine wpAnyH_take (i := 17) (oi := ({ dst := some 162, op := Go.Op.pick (Go.Operand.tmp 152) (Go.Operand.tmp 161) (Go.Operand.const (Go.Value.bool false)), type := 4, pos := "law.go:186", after := #[{ on := 7, ground := Go.Ground.data }, { on := 16, ground := Go.Ground.data }], guard := none } : Oper)) (v := ?vb17) rfl (by kernel_rfl) (by kernel_rfl) (by kernel_rfl) (fun _ _ _ h => h) (Or.inl ⟨by rfl, ?hyb17⟩) (by assumption) ?restb17
                      case hyb17 => (intro w hSw; (try dsimp only at hSw); go_simp; (try with_reducible rfl))
                      (try simp only [Act.put, List.setIfInBounds_toArray, List.set_cons_zero, List.set_cons_succ])
                      refine wpAnyH_take (i := 18) (oi := ({ dst := some 163, op := Go.Op.move (Go.Operand.tmp 162), type := 4, pos := "law.go:186", after := #[{ on := 17, ground := Go.Ground.data }, { on := 16, ground := Go.Ground.chain }], guard := none } : Oper)) (v := ?vb18) rfl (by kernel_rfl) (by kernel_rfl) (by kernel_rfl) (fun _ _ _ h => h) (Or.inl ⟨by rfl, ?hyb18⟩) (by assumption) ?restb18
                      case hyb18 => (intro w hSw; (try dsimp only at hSw); go_simp; (try with_reducible rfl))
                      (try simp only [Act.put, List.setIfInBounds_toArray, List.set_cons_zero, List.set_cons_succ])
                      refine wpAnyH_take (i := 19) (oi := ({ dst := some 164, op := Go.Op.fieldAddr 24 (Go.Operand.tmp 1) 1, type := 0, pos := "law.go:186", after := #[{ on := 18, ground := Go.Ground.guard }], guard := some (18, true) } : Oper)) (v := undef) rfl (by kernel_rfl) (by kernel_rfl) (by kernel_rfl) (fun _ _ _ h => h) (Or.inr ⟨by rfl, rfl⟩) (by assumption) ?_
                      (try simp only [Act.put, List.setIfInBounds_toArray, List.set_cons_zero, List.set_cons_succ])
                      refine wpAnyH_take (i := 20) (oi := ({ dst := some 165, op := Go.Op.load 22 (Go.Operand.tmp 164), type := 22, pos := "law.go:186", after := #[{ on := 19, ground := Go.Ground.data }, { on := 18, ground := Go.Ground.guard }], guard := some (18, true) } : Oper)) (v := undef) rfl (by kernel_rfl) (by kernel_rfl) (by kernel_rfl) (fun _ _ _ h => h) (Or.inr ⟨by rfl, rfl⟩) (by assumption) ?_
                      (try simp only [Act.put, List.setIfInBounds_toArray, List.set_cons_zero, List.set_cons_succ])
                      refine wpAnyH_take (i := 21) (oi := ({ dst := some 166, op := Go.Op.move (Go.Operand.tmp 10), type := 3, pos := "law.go:186", after := #[{ on := 18, ground := Go.Ground.guard }], guard := some (18, true) } : Oper)) (v := undef) rfl (by kernel_rfl) (by kernel_rfl) (by kernel_rfl) (fun _ _ _ h => h) (Or.inr ⟨by rfl, rfl⟩) (by assumption) ?_
                      (try simp only [Act.put, List.setIfInBounds_toArray, List.set_cons_zero, List.set_cons_succ])
                      refine wpAnyH_take (i := 22) (oi := ({ dst := some 167, op := Go.Op.binOp Go.BinOp.add 3 (Go.Operand.tmp 166) (Go.Operand.const (Go.Value.int Go.IntKind.i64 1)) 3, type := 3, pos := "law.go:186", after := #[{ on := 21, ground := Go.Ground.data }, { on := 18, ground := Go.Ground.guard }], guard := some (18, true) } : Oper)) (v := undef) rfl (by kernel_rfl) (by kernel_rfl) (by kernel_rfl) (fun _ _ _ h => h) (Or.inr ⟨by rfl, rfl⟩) (by assumption) ?_
                      (try simp only [Act.put, List.setIfInBounds_toArray, List.set_cons_zero, List.set_cons_succ])
                      refine wpAnyH_take (i := 23) (oi := ({ dst := some 168, op := Go.Op.slice 22 (Go.Operand.tmp 165) (some (Go.Operand.tmp 167)) none none, type := 22, pos := "law.go:186", after := #[{ on := 20, ground := Go.Ground.data }, { on := 22, ground := Go.Ground.data }, { on := 18, ground := Go.Ground.guard }], guard := some (18, true) } : Oper)) (v := undef) rfl (by kernel_rfl) (by kernel_rfl) (by kernel_rfl) (fun _ _ _ h => h) (Or.inr ⟨by rfl, rfl⟩) (by assumption) ?_
                      (try simp only [Act.put, List.setIfInBounds_toArray, List.set_cons_zero, List.set_cons_succ])
                      refine wpAnyH_take (i := 24) (oi := ({ dst := some 169, op := Go.Op.fieldAddr 24 (Go.Operand.tmp 1) 0, type := 0, pos := "law.go:186", after := #[{ on := 18, ground := Go.Ground.guard }], guard := some (18, true) } : Oper)) (v := undef) rfl (by kernel_rfl) (by kernel_rfl) (by kernel_rfl) (fun _ _ _ h => h) (Or.inr ⟨by rfl, rfl⟩) (by assumption) ?_
                      (try simp only [Act.put, List.setIfInBounds_toArray, List.set_cons_zero, List.set_cons_succ])
                      refine wpAnyH_take (i := 25) (oi := ({ dst := some 170, op := Go.Op.load 22 (Go.Operand.tmp 169), type := 22, pos := "law.go:186", after := #[{ on := 24, ground := Go.Ground.data }, { on := 18, ground := Go.Ground.guard }], guard := some (18, true) } : Oper)) (v := undef) rfl (by kernel_rfl) (by kernel_rfl) (by kernel_rfl) (fun _ _ _ h => h) (Or.inr ⟨by rfl, rfl⟩) (by assumption) ?_
                      (try simp only [Act.put, List.setIfInBounds_toArray, List.set_cons_zero, List.set_cons_succ])
                      refine wpAnyH_take (i := 26) (oi := ({ dst := some 171, op := Go.Op.move (Go.Operand.tmp 10), type := 3, pos := "law.go:186", after := #[{ on := 18, ground := Go.Ground.guard }], guard := some (18, true) } : Oper)) (v := undef) rfl (by kernel_rfl) (by kernel_rfl) (by kernel_rfl) (fun _ _ _ h => h) (Or.inr ⟨by rfl, rfl⟩) (by assumption) ?_
                      (try simp only [Act.put, List.setIfInBounds_toArray, List.set_cons_zero, List.set_cons_succ])
                      refine wpAnyH_take (i := 27) (oi := ({ dst := some 172, op := Go.Op.binOp Go.BinOp.add 3 (Go.Operand.tmp 171) (Go.Operand.const (Go.Value.int Go.IntKind.i64 1)) 3, type := 3, pos := "law.go:186", after := #[{ on := 26, ground := Go.Ground.data }, { on := 18, ground := Go.Ground.guard }], guard := some (18, true) } : Oper)) (v := undef) rfl (by kernel_rfl) (by kernel_rfl) (by kernel_rfl) (fun _ _ _ h => h) (Or.inr ⟨by rfl, rfl⟩) (by assumption) ?_
                      (try simp only [Act.put, List.setIfInBounds_toArray, List.set_cons_zero, List.set_cons_succ])
                      refine wpAnyH_take (i := 28) (oi := ({ dst := some 173, op := Go.Op.slice 22 (Go.Operand.tmp 170) (some (Go.Operand.tmp 172)) none none, type := 22, pos := "law.go:186", after := #[{ on := 25, ground := Go.Ground.data }, { on := 27, ground := Go.Ground.data }, { on := 18, ground := Go.Ground.guard }], guard := some (18, true) } : Oper)) (v := undef) rfl (by kernel_rfl) (by kernel_rfl) (by kernel_rfl) (fun _ _ _ h => h) (Or.inr ⟨by rfl, rfl⟩) (by assumption) ?_
                      (try simp only [Act.put, List.setIfInBounds_toArray, List.set_cons_zero, List.set_cons_succ])
                      refine wpAnyH_take (i := 29) (oi := ({ dst := some 174, op := Go.Op.call { callee := Go.Callee.value (Go.Operand.func 15), args := #[Go.Operand.tmp 168, Go.Operand.tmp 173], argTypes := #[22, 22] }, type := 4, pos := "law.go:186", after := #[{ on := 23, ground := Go.Ground.data }, { on := 28, ground := Go.Ground.data }, { on := 18, ground := Go.Ground.chain }, { on := 18, ground := Go.Ground.guard }], guard := some (18, true) } : Oper)) (v := undef) rfl (by kernel_rfl) (by kernel_rfl) (by kernel_rfl) (fun _ _ _ h => h) (Or.inr ⟨by rfl, rfl⟩) (by assumption) ?_
                      (try simp only [Act.put, List.setIfInBounds_toArray, List.set_cons_zero, List.set_cons_succ])
                      refine wpAnyH_take (i := 30) (oi := ({ dst := some 175, op := Go.Op.pick (Go.Operand.tmp 163) (Go.Operand.tmp 174) (Go.Operand.const (Go.Value.bool false)), type := 4, pos := "law.go:186", after := #[{ on := 18, ground := Go.Ground.data }, { on := 29, ground := Go.Ground.data }], guard := none } : Oper)) (v := ?vb30) rfl (by kernel_rfl) (by kernel_rfl) (by kernel_rfl) (fun _ _ _ h => h) (Or.inl ⟨by rfl, ?hyb30⟩) (by assumption) ?restb30
                      case hyb30 => (intro w hSw; (try dsimp only at hSw); go_simp; (try with_reducible rfl))
                      (try simp only [Act.put, List.setIfInBounds_toArray, List.set_cons_zero, List.set_cons_succ])
                      refine wpAnyH_take (i := 31) (oi := ({ dst := some 12, op := Go.Op.assign (Go.Operand.tmp 175), type := 4, pos := "law.go:186", after := #[{ on := 30, ground := Go.Ground.data }, { on := 29, ground := Go.Ground.chain }, { on := 0, ground := Go.Ground.phase }, { on := 1, ground := Go.Ground.phase }, { on := 2, ground := Go.Ground.phase }, { on := 3, ground := Go.Ground.phase }, { on := 4, ground := Go.Ground.phase }, { on := 5, ground := Go.Ground.phase }, { on := 6, ground := Go.Ground.phase }, { on := 7, ground := Go.Ground.phase }, { on := 8, ground := Go.Ground.phase }, { on := 9, ground := Go.Ground.phase }, { on := 10, ground := Go.Ground.phase }, { on := 11, ground := Go.Ground.phase }, { on := 12, ground := Go.Ground.phase }, { on := 13, ground := Go.Ground.phase }, { on := 14, ground := Go.Ground.phase }, { on := 15, ground := Go.Ground.phase }, { on := 16, ground := Go.Ground.phase }, { on := 17, ground := Go.Ground.phase }, { on := 18, ground := Go.Ground.phase }, { on := 19, ground := Go.Ground.phase }, { on := 20, ground := Go.Ground.phase }, { on := 21, ground := Go.Ground.phase }, { on := 22, ground := Go.Ground.phase }, { on := 23, ground := Go.Ground.phase }, { on := 24, ground := Go.Ground.phase }, { on := 25, ground := Go.Ground.phase }, { on := 26, ground := Go.Ground.phase }, { on := 27, ground := Go.Ground.phase }, { on := 28, ground := Go.Ground.phase }, { on := 29, ground := Go.Ground.phase }, { on := 30, ground := Go.Ground.phase }], guard := none } : Oper)) (v := ?vb31) rfl (by kernel_rfl) (by kernel_rfl) (by kernel_rfl) (fun _ _ _ h => h) (Or.inl ⟨by rfl, ?hyb31⟩) (by assumption) ?restb31
                      case hyb31 => (intro w hSw; (try dsimp only at hSw); go_simp; (try with_reducible rfl))
                      (try simp only [Act.put, List.setIfInBounds_toArray, List.set_cons_zero, List.set_cons_succ])
                      refine wpAnyH_done (by kernel_rfl) ?_ _
                      (try go_wp2_with fail)
                      go_meet
                      exact ⟨by rw [HN.out], ⟨s3b (by assumption)⟩⟩
                    · obtain ⟨bb, hbb⟩ : ∃ bb, decide (ub = tb) = bb := ⟨_, rfl⟩
                      have HBB := Aside0.mk hbb
                      have HN := Aside0.mk (HNR3.out bb hba hbb)
                      clear hba hbb HNR3 HNR2
                      refine wp_region_held_drew (S := (fun w' => w'.cell? ⟨gb, 0, none⟩ = some (.slice At T.length ct) ∧ w'.cell? ⟨gb, 1, none⟩ = some (.slice Au U.length cu) ∧ Aside0 (Below wu.heap.size wu w'))) (by kernel_rfl) (by exact hS3) (fun hHeld => ?_)
                      refine wpAnyH_take (i := 0) (oi := ({ dst := some 145, op := Go.Op.fieldAddr 24 (Go.Operand.tmp 1) 1, type := 0, pos := "law.go:186", after := #[], guard := none } : Oper)) (v := ?vc0) rfl (by kernel_rfl) (by kernel_rfl) (by kernel_rfl) (fun _ _ _ h => h) (Or.inl ⟨by rfl, ?hyc0⟩) (by assumption) ?restc0
                      case hyc0 => (intro w hSw; (try dsimp only at hSw); go_simp; (try with_reducible rfl))
                      (try simp only [Act.put, List.setIfInBounds_toArray, List.set_cons_zero, List.set_cons_succ])
                      refine wpAnyH_take (i := 1) (oi := ({ dst := some 146, op := Go.Op.load 22 (Go.Operand.tmp 145), type := 22, pos := "law.go:186", after := #[{ on := 0, ground := Go.Ground.data }], guard := none } : Oper)) (v := ?vc1) rfl (by kernel_rfl) (by kernel_rfl) (by kernel_rfl) (fun _ _ _ h => h) (Or.inl ⟨by rfl, ?hyc1⟩) (by assumption) ?restc1
                      case hyc1 => (intro w hSw; (try dsimp only at hSw); go_simp; (try with_reducible rfl))
                      (try simp only [Act.put, List.setIfInBounds_toArray, List.set_cons_zero, List.set_cons_succ])
                      refine wpAnyH_take (i := 2) (oi := ({ dst := some 147, op := Go.Op.call { callee := Go.Callee.builtin Go.Builtin.len, args := #[Go.Operand.tmp 146], argTypes := #[22] }, type := 3, pos := "law.go:186", after := #[{ on := 1, ground := Go.Ground.data }], guard := none } : Oper)) (v := ?vc2) rfl (by kernel_rfl) (by kernel_rfl) (by kernel_rfl) (fun _ _ _ h => h) (Or.inl ⟨by rfl, ?hyc2⟩) (by assumption) ?restc2
                      case hyc2 => (intro w hSw; (try dsimp only at hSw); go_simp; (try with_reducible rfl))
                      (try simp only [Act.put, List.setIfInBounds_toArray, List.set_cons_zero, List.set_cons_succ])
                      refine wpAnyH_take (i := 3) (oi := ({ dst := some 148, op := Go.Op.fieldAddr 24 (Go.Operand.tmp 1) 0, type := 0, pos := "law.go:186", after := #[], guard := none } : Oper)) (v := ?vc3) rfl (by kernel_rfl) (by kernel_rfl) (by kernel_rfl) (fun _ _ _ h => h) (Or.inl ⟨by rfl, ?hyc3⟩) (by assumption) ?restc3
                      case hyc3 => (intro w hSw; (try dsimp only at hSw); go_simp; (try with_reducible rfl))
                      (try simp only [Act.put, List.setIfInBounds_toArray, List.set_cons_zero, List.set_cons_succ])
                      refine wpAnyH_take (i := 4) (oi := ({ dst := some 149, op := Go.Op.load 22 (Go.Operand.tmp 148), type := 22, pos := "law.go:186", after := #[{ on := 3, ground := Go.Ground.data }], guard := none } : Oper)) (v := ?vc4) rfl (by kernel_rfl) (by kernel_rfl) (by kernel_rfl) (fun _ _ _ h => h) (Or.inl ⟨by rfl, ?hyc4⟩) (by assumption) ?restc4
                      case hyc4 => (intro w hSw; (try dsimp only at hSw); go_simp; (try with_reducible rfl))
                      (try simp only [Act.put, List.setIfInBounds_toArray, List.set_cons_zero, List.set_cons_succ])
                      refine wpAnyH_take (i := 5) (oi := ({ dst := some 150, op := Go.Op.call { callee := Go.Callee.builtin Go.Builtin.len, args := #[Go.Operand.tmp 149], argTypes := #[22] }, type := 3, pos := "law.go:186", after := #[{ on := 4, ground := Go.Ground.data }], guard := none } : Oper)) (v := ?vc5) rfl (by kernel_rfl) (by kernel_rfl) (by kernel_rfl) (fun _ _ _ h => h) (Or.inl ⟨by rfl, ?hyc5⟩) (by assumption) ?restc5
                      case hyc5 => (intro w hSw; (try dsimp only at hSw); go_simp; (try with_reducible rfl))
                      (try simp only [Act.put, List.setIfInBounds_toArray, List.set_cons_zero, List.set_cons_succ])
                      refine wpAnyH_take (i := 6) (oi := ({ dst := some 151, op := Go.Op.binOp Go.BinOp.eql 3 (Go.Operand.tmp 147) (Go.Operand.tmp 150) 3, type := 4, pos := "law.go:186", after := #[{ on := 2, ground := Go.Ground.data }, { on := 5, ground := Go.Ground.data }], guard := none } : Oper)) (v := ?vc6) rfl (by kernel_rfl) (by kernel_rfl) (by kernel_rfl) (fun _ _ _ h => h) (Or.inl ⟨by rfl, ?hyc6⟩) (by assumption) ?restc6
                      case hyc6 => (intro w hSw; (try dsimp only at hSw); go_simp; (try with_reducible rfl))
                      (try simp only [Act.put, List.setIfInBounds_toArray, List.set_cons_zero, List.set_cons_succ])
                      refine wpAnyH_take (i := 7) (oi := ({ dst := some 152, op := Go.Op.move (Go.Operand.tmp 151), type := 4, pos := "law.go:186", after := #[{ on := 6, ground := Go.Ground.data }], guard := none } : Oper)) (v := ?vc7) rfl (by kernel_rfl) (by kernel_rfl) (by kernel_rfl) (fun _ _ _ h => h) (Or.inl ⟨by rfl, ?hyc7⟩) (by assumption) ?restc7
                      case hyc7 => (intro w hSw; (try dsimp only at hSw); go_simp; (try with_reducible rfl))
                      (try simp only [Act.put, List.setIfInBounds_toArray, List.set_cons_zero, List.set_cons_succ])
                      refine wpAnyH_take (i := 8) (oi := ({ dst := some 153, op := Go.Op.fieldAddr 24 (Go.Operand.tmp 1) 1, type := 0, pos := "law.go:186", after := #[{ on := 7, ground := Go.Ground.guard }], guard := some (7, true) } : Oper)) (v := ?vc8) rfl (by kernel_rfl) (by kernel_rfl) (by kernel_rfl) (fun _ _ _ h => h) (Or.inl ⟨by rfl, ?hyc8⟩) (by assumption) ?restc8
                      case hyc8 => (intro w hSw; (try dsimp only at hSw); go_simp; (try with_reducible rfl))
                      (try simp only [Act.put, List.setIfInBounds_toArray, List.set_cons_zero, List.set_cons_succ])
                      refine wpAnyH_take (i := 9) (oi := ({ dst := some 154, op := Go.Op.load 22 (Go.Operand.tmp 153), type := 22, pos := "law.go:186", after := #[{ on := 8, ground := Go.Ground.data }, { on := 7, ground := Go.Ground.guard }], guard := some (7, true) } : Oper)) (v := ?vc9) rfl (by kernel_rfl) (by kernel_rfl) (by kernel_rfl) (fun _ _ _ h => h) (Or.inl ⟨by rfl, ?hyc9⟩) (by assumption) ?restc9
                      case hyc9 => (intro w hSw; (try dsimp only at hSw); go_simp; (try with_reducible rfl))
                      (try simp only [Act.put, List.setIfInBounds_toArray, List.set_cons_zero, List.set_cons_succ])
                      refine wpAnyH_take (i := 10) (oi := ({ dst := some 155, op := Go.Op.move (Go.Operand.tmp 10), type := 3, pos := "law.go:186", after := #[{ on := 7, ground := Go.Ground.guard }], guard := some (7, true) } : Oper)) (v := ?vc10) rfl (by kernel_rfl) (by kernel_rfl) (by kernel_rfl) (fun _ _ _ h => h) (Or.inl ⟨by rfl, ?hyc10⟩) (by assumption) ?restc10
                      case hyc10 => (intro w hSw; (try dsimp only at hSw); go_simp; (try with_reducible rfl))
                      (try simp only [Act.put, List.setIfInBounds_toArray, List.set_cons_zero, List.set_cons_succ])
                      refine wpAnyH_take (i := 11) (oi := ({ dst := some 156, op := Go.Op.slice 22 (Go.Operand.tmp 154) none (some (Go.Operand.tmp 155)) none, type := 22, pos := "law.go:186", after := #[{ on := 9, ground := Go.Ground.data }, { on := 10, ground := Go.Ground.data }, { on := 7, ground := Go.Ground.guard }], guard := some (7, true) } : Oper)) (v := ?vc11) rfl (by kernel_rfl) (by kernel_rfl) (by kernel_rfl) (fun _ _ _ h => h) (Or.inl ⟨by rfl, ?hyc11⟩) (by assumption) ?restc11
                      case hyc11 => (intro w hSw; (try dsimp only at hSw); go_simp; (try with_reducible rfl))
                      (try simp only [Act.put, List.setIfInBounds_toArray, List.set_cons_zero, List.set_cons_succ])
                      refine wpAnyH_take (i := 12) (oi := ({ dst := some 157, op := Go.Op.fieldAddr 24 (Go.Operand.tmp 1) 0, type := 0, pos := "law.go:186", after := #[{ on := 7, ground := Go.Ground.guard }], guard := some (7, true) } : Oper)) (v := ?vc12) rfl (by kernel_rfl) (by kernel_rfl) (by kernel_rfl) (fun _ _ _ h => h) (Or.inl ⟨by rfl, ?hyc12⟩) (by assumption) ?restc12
                      case hyc12 => (intro w hSw; (try dsimp only at hSw); go_simp; (try with_reducible rfl))
                      (try simp only [Act.put, List.setIfInBounds_toArray, List.set_cons_zero, List.set_cons_succ])
                      refine wpAnyH_take (i := 13) (oi := ({ dst := some 158, op := Go.Op.load 22 (Go.Operand.tmp 157), type := 22, pos := "law.go:186", after := #[{ on := 12, ground := Go.Ground.data }, { on := 7, ground := Go.Ground.guard }], guard := some (7, true) } : Oper)) (v := ?vc13) rfl (by kernel_rfl) (by kernel_rfl) (by kernel_rfl) (fun _ _ _ h => h) (Or.inl ⟨by rfl, ?hyc13⟩) (by assumption) ?restc13
                      case hyc13 => (intro w hSw; (try dsimp only at hSw); go_simp; (try with_reducible rfl))
                      (try simp only [Act.put, List.setIfInBounds_toArray, List.set_cons_zero, List.set_cons_succ])
                      refine wpAnyH_take (i := 14) (oi := ({ dst := some 159, op := Go.Op.move (Go.Operand.tmp 10), type := 3, pos := "law.go:186", after := #[{ on := 7, ground := Go.Ground.guard }], guard := some (7, true) } : Oper)) (v := ?vc14) rfl (by kernel_rfl) (by kernel_rfl) (by kernel_rfl) (fun _ _ _ h => h) (Or.inl ⟨by rfl, ?hyc14⟩) (by assumption) ?restc14
                      case hyc14 => (intro w hSw; (try dsimp only at hSw); go_simp; (try with_reducible rfl))
                      (try simp only [Act.put, List.setIfInBounds_toArray, List.set_cons_zero, List.set_cons_succ])
                      refine wpAnyH_take (i := 15) (oi := ({ dst := some 160, op := Go.Op.slice 22 (Go.Operand.tmp 158) none (some (Go.Operand.tmp 159)) none, type := 22, pos := "law.go:186", after := #[{ on := 13, ground := Go.Ground.data }, { on := 14, ground := Go.Ground.data }, { on := 7, ground := Go.Ground.guard }], guard := some (7, true) } : Oper)) (v := ?vc15) rfl (by kernel_rfl) (by kernel_rfl) (by kernel_rfl) (fun _ _ _ h => h) (Or.inl ⟨by rfl, ?hyc15⟩) (by assumption) ?restc15
                      case hyc15 => (intro w hSw; (try dsimp only at hSw); go_simp; (try with_reducible rfl))
                      (try simp only [Act.put, List.setIfInBounds_toArray, List.set_cons_zero, List.set_cons_succ])
                      refine wpAnyH_ready (rs := [16]) (by kernel_rfl) (by simp) ?_
                      refine AllReadyH.cons (o := ({ dst := some 161, op := Go.Op.call { callee := Go.Callee.value (Go.Operand.func 15), args := #[Go.Operand.tmp 156, Go.Operand.tmp 160], argTypes := #[22, 22] }, type := 4, pos := "law.go:186", after := #[{ on := 11, ground := Go.Ground.data }, { on := 15, ground := Go.Ground.data }, { on := 7, ground := Go.Ground.chain }, { on := 7, ground := Go.Ground.guard }], guard := some (7, true) } : Oper)) rfl (fun K hK => ?_) AllReadyH.nil
                      go_simp
                      refine (eqB.calls Au cu ua At ct ta _ HBA.out _ (HCua.out _ (Kd.C_below HLu.out.st.u (s3b (by assumption)))) hcua (HCta.out _ (Kd.C_below HLu.out.st.t (s3b (by assumption)))) hcta (by omega)).mono ?_
                      rintro e wx ⟨rfl, hb⟩
                      have hS1 := s3 (by assumption) hb
                      clear hb
                      (try go_wp2_with fail)
                      refine hK.out _ _ (by assumption) (fun hHeld => ?_)
                      clear hK K
                      (try simp only [Act.put, List.setIfInBounds_toArray, List.set_cons_zero, List.set_cons_succ])
                      refine wpAnyH_take (i := 17) (oi := ({ dst := some 162, op := Go.Op.pick (Go.Operand.tmp 152) (Go.Operand.tmp 161) (Go.Operand.const (Go.Value.bool false)), type := 4, pos := "law.go:186", after := #[{ on := 7, ground := Go.Ground.data }, { on := 16, ground := Go.Ground.data }], guard := none } : Oper)) (v := ?vc17) rfl (by kernel_rfl) (by kernel_rfl) (by kernel_rfl) (fun _ _ _ h => h) (Or.inl ⟨by rfl, ?hyc17⟩) (by assumption) ?restc17
                      case hyc17 => (intro w hSw; (try dsimp only at hSw); go_simp; (try with_reducible rfl))
                      (try simp only [Act.put, List.setIfInBounds_toArray, List.set_cons_zero, List.set_cons_succ])
                      refine wpAnyH_take (i := 18) (oi := ({ dst := some 163, op := Go.Op.move (Go.Operand.tmp 162), type := 4, pos := "law.go:186", after := #[{ on := 17, ground := Go.Ground.data }, { on := 16, ground := Go.Ground.chain }], guard := none } : Oper)) (v := ?vc18) rfl (by kernel_rfl) (by kernel_rfl) (by kernel_rfl) (fun _ _ _ h => h) (Or.inl ⟨by rfl, ?hyc18⟩) (by assumption) ?restc18
                      case hyc18 => (intro w hSw; (try dsimp only at hSw); go_simp; (try with_reducible rfl))
                      (try simp only [Act.put, List.setIfInBounds_toArray, List.set_cons_zero, List.set_cons_succ])
                      refine wpAnyH_take (i := 19) (oi := ({ dst := some 164, op := Go.Op.fieldAddr 24 (Go.Operand.tmp 1) 1, type := 0, pos := "law.go:186", after := #[{ on := 18, ground := Go.Ground.guard }], guard := some (18, true) } : Oper)) (v := ?vc19) rfl (by kernel_rfl) (by kernel_rfl) (by kernel_rfl) (fun _ _ _ h => h) (Or.inl ⟨by rfl, ?hyc19⟩) (by assumption) ?restc19
                      case hyc19 => (intro w hSw; (try dsimp only at hSw); go_simp; (try with_reducible rfl))
                      (try simp only [Act.put, List.setIfInBounds_toArray, List.set_cons_zero, List.set_cons_succ])
                      refine wpAnyH_take (i := 20) (oi := ({ dst := some 165, op := Go.Op.load 22 (Go.Operand.tmp 164), type := 22, pos := "law.go:186", after := #[{ on := 19, ground := Go.Ground.data }, { on := 18, ground := Go.Ground.guard }], guard := some (18, true) } : Oper)) (v := ?vc20) rfl (by kernel_rfl) (by kernel_rfl) (by kernel_rfl) (fun _ _ _ h => h) (Or.inl ⟨by rfl, ?hyc20⟩) (by assumption) ?restc20
                      case hyc20 => (intro w hSw; (try dsimp only at hSw); go_simp; (try with_reducible rfl))
                      (try simp only [Act.put, List.setIfInBounds_toArray, List.set_cons_zero, List.set_cons_succ])
                      refine wpAnyH_take (i := 21) (oi := ({ dst := some 166, op := Go.Op.move (Go.Operand.tmp 10), type := 3, pos := "law.go:186", after := #[{ on := 18, ground := Go.Ground.guard }], guard := some (18, true) } : Oper)) (v := ?vc21) rfl (by kernel_rfl) (by kernel_rfl) (by kernel_rfl) (fun _ _ _ h => h) (Or.inl ⟨by rfl, ?hyc21⟩) (by assumption) ?restc21
                      case hyc21 => (intro w hSw; (try dsimp only at hSw); go_simp; (try with_reducible rfl))
                      (try simp only [Act.put, List.setIfInBounds_toArray, List.set_cons_zero, List.set_cons_succ])
                      refine wpAnyH_take (i := 22) (oi := ({ dst := some 167, op := Go.Op.binOp Go.BinOp.add 3 (Go.Operand.tmp 166) (Go.Operand.const (Go.Value.int Go.IntKind.i64 1)) 3, type := 3, pos := "law.go:186", after := #[{ on := 21, ground := Go.Ground.data }, { on := 18, ground := Go.Ground.guard }], guard := some (18, true) } : Oper)) (v := Value.int .i64 ((k : Int) + 1)) rfl (by kernel_rfl) (by kernel_rfl) (by kernel_rfl) (fun _ _ _ h => h) (Or.inl ⟨by rfl, ?hyc22⟩) (by assumption) ?restc22
                      case hyc22 => (intro w hSw; (try dsimp only at hSw); go_simp; (try (rw [IntKind.wrap_i64]; omega)))
                      (try simp only [Act.put, List.setIfInBounds_toArray, List.set_cons_zero, List.set_cons_succ])
                      refine wpAnyH_take (i := 23) (oi := ({ dst := some 168, op := Go.Op.slice 22 (Go.Operand.tmp 165) (some (Go.Operand.tmp 167)) none none, type := 22, pos := "law.go:186", after := #[{ on := 20, ground := Go.Ground.data }, { on := 22, ground := Go.Ground.data }, { on := 18, ground := Go.Ground.guard }], guard := some (18, true) } : Oper)) (v := ?vc23) rfl (by kernel_rfl) (by kernel_rfl) (by kernel_rfl) (fun _ _ _ h => h) (Or.inl ⟨by rfl, ?hyc23⟩) (by assumption) ?restc23
                      case hyc23 => (intro w hSw; (try dsimp only at hSw); go_simp; (try with_reducible rfl))
                      (try simp only [Act.put, List.setIfInBounds_toArray, List.set_cons_zero, List.set_cons_succ])
                      refine wpAnyH_take (i := 24) (oi := ({ dst := some 169, op := Go.Op.fieldAddr 24 (Go.Operand.tmp 1) 0, type := 0, pos := "law.go:186", after := #[{ on := 18, ground := Go.Ground.guard }], guard := some (18, true) } : Oper)) (v := ?vc24) rfl (by kernel_rfl) (by kernel_rfl) (by kernel_rfl) (fun _ _ _ h => h) (Or.inl ⟨by rfl, ?hyc24⟩) (by assumption) ?restc24
                      case hyc24 => (intro w hSw; (try dsimp only at hSw); go_simp; (try with_reducible rfl))
                      (try simp only [Act.put, List.setIfInBounds_toArray, List.set_cons_zero, List.set_cons_succ])
                      refine wpAnyH_take (i := 25) (oi := ({ dst := some 170, op := Go.Op.load 22 (Go.Operand.tmp 169), type := 22, pos := "law.go:186", after := #[{ on := 24, ground := Go.Ground.data }, { on := 18, ground := Go.Ground.guard }], guard := some (18, true) } : Oper)) (v := ?vc25) rfl (by kernel_rfl) (by kernel_rfl) (by kernel_rfl) (fun _ _ _ h => h) (Or.inl ⟨by rfl, ?hyc25⟩) (by assumption) ?restc25
                      case hyc25 => (intro w hSw; (try dsimp only at hSw); go_simp; (try with_reducible rfl))
                      (try simp only [Act.put, List.setIfInBounds_toArray, List.set_cons_zero, List.set_cons_succ])
                      refine wpAnyH_take (i := 26) (oi := ({ dst := some 171, op := Go.Op.move (Go.Operand.tmp 10), type := 3, pos := "law.go:186", after := #[{ on := 18, ground := Go.Ground.guard }], guard := some (18, true) } : Oper)) (v := ?vc26) rfl (by kernel_rfl) (by kernel_rfl) (by kernel_rfl) (fun _ _ _ h => h) (Or.inl ⟨by rfl, ?hyc26⟩) (by assumption) ?restc26
                      case hyc26 => (intro w hSw; (try dsimp only at hSw); go_simp; (try with_reducible rfl))
                      (try simp only [Act.put, List.setIfInBounds_toArray, List.set_cons_zero, List.set_cons_succ])
                      refine wpAnyH_take (i := 27) (oi := ({ dst := some 172, op := Go.Op.binOp Go.BinOp.add 3 (Go.Operand.tmp 171) (Go.Operand.const (Go.Value.int Go.IntKind.i64 1)) 3, type := 3, pos := "law.go:186", after := #[{ on := 26, ground := Go.Ground.data }, { on := 18, ground := Go.Ground.guard }], guard := some (18, true) } : Oper)) (v := Value.int .i64 ((k : Int) + 1)) rfl (by kernel_rfl) (by kernel_rfl) (by kernel_rfl) (fun _ _ _ h => h) (Or.inl ⟨by rfl, ?hyc27⟩) (by assumption) ?restc27
                      case hyc27 => (intro w hSw; (try dsimp only at hSw); go_simp; (try (rw [IntKind.wrap_i64]; omega)))
                      (try simp only [Act.put, List.setIfInBounds_toArray, List.set_cons_zero, List.set_cons_succ])
                      refine wpAnyH_take (i := 28) (oi := ({ dst := some 173, op := Go.Op.slice 22 (Go.Operand.tmp 170) (some (Go.Operand.tmp 172)) none none, type := 22, pos := "law.go:186", after := #[{ on := 25, ground := Go.Ground.data }, { on := 27, ground := Go.Ground.data }, { on := 18, ground := Go.Ground.guard }], guard := some (18, true) } : Oper)) (v := ?vc28) rfl (by kernel_rfl) (by kernel_rfl) (by kernel_rfl) (fun _ _ _ h => h) (Or.inl ⟨by rfl, ?hyc28⟩) (by assumption) ?restc28
                      case hyc28 => (intro w hSw; (try dsimp only at hSw); go_simp; (try with_reducible rfl))
                      (try simp only [Act.put, List.setIfInBounds_toArray, List.set_cons_zero, List.set_cons_succ])
                      refine wpAnyH_ready (rs := [29]) (by kernel_rfl) (by simp) ?_
                      refine AllReadyH.cons (o := ({ dst := some 174, op := Go.Op.call { callee := Go.Callee.value (Go.Operand.func 15), args := #[Go.Operand.tmp 168, Go.Operand.tmp 173], argTypes := #[22, 22] }, type := 4, pos := "law.go:186", after := #[{ on := 23, ground := Go.Ground.data }, { on := 28, ground := Go.Ground.data }, { on := 18, ground := Go.Ground.chain }, { on := 18, ground := Go.Ground.guard }], guard := some (18, true) } : Oper)) rfl (fun K hK => ?_) AllReadyH.nil
                      go_simp
                      refine (eqB.calls Aud (cu - (k + 1)) ub Atd (ct - (k + 1)) tb _ HBB.out _ (HCub.out _ (Kd.C_below HLu.out.st.u (s3b (by assumption)))) hcub (HCtb.out _ (Kd.C_below HLu.out.st.t (s3b (by assumption)))) hctb (by omega)).mono ?_
                      rintro e wx ⟨rfl, hb⟩
                      have hS1 := s3 (by assumption) hb
                      clear hb
                      (try go_wp2_with fail)
                      refine hK.out _ _ (by assumption) (fun hHeld => ?_)
                      clear hK K
                      (try simp only [Act.put, List.setIfInBounds_toArray, List.set_cons_zero, List.set_cons_succ])
                      refine wpAnyH_take (i := 30) (oi := ({ dst := some 175, op := Go.Op.pick (Go.Operand.tmp 163) (Go.Operand.tmp 174) (Go.Operand.const (Go.Value.bool false)), type := 4, pos := "law.go:186", after := #[{ on := 18, ground := Go.Ground.data }, { on := 29, ground := Go.Ground.data }], guard := none } : Oper)) (v := ?vc30) rfl (by kernel_rfl) (by kernel_rfl) (by kernel_rfl) (fun _ _ _ h => h) (Or.inl ⟨by rfl, ?hyc30⟩) (by assumption) ?restc30
                      case hyc30 => (intro w hSw; (try dsimp only at hSw); go_simp; (try with_reducible rfl))
                      (try simp only [Act.put, List.setIfInBounds_toArray, List.set_cons_zero, List.set_cons_succ])
                      refine wpAnyH_take (i := 31) (oi := ({ dst := some 12, op := Go.Op.assign (Go.Operand.tmp 175), type := 4, pos := "law.go:186", after := #[{ on := 30, ground := Go.Ground.data }, { on := 29, ground := Go.Ground.chain }, { on := 0, ground := Go.Ground.phase }, { on := 1, ground := Go.Ground.phase }, { on := 2, ground := Go.Ground.phase }, { on := 3, ground := Go.Ground.phase }, { on := 4, ground := Go.Ground.phase }, { on := 5, ground := Go.Ground.phase }, { on := 6, ground := Go.Ground.phase }, { on := 7, ground := Go.Ground.phase }, { on := 8, ground := Go.Ground.phase }, { on := 9, ground := Go.Ground.phase }, { on := 10, ground := Go.Ground.phase }, { on := 11, ground := Go.Ground.phase }, { on := 12, ground := Go.Ground.phase }, { on := 13, ground := Go.Ground.phase }, { on := 14, ground := Go.Ground.phase }, { on := 15, ground := Go.Ground.phase }, { on := 16, ground := Go.Ground.phase }, { on := 17, ground := Go.Ground.phase }, { on := 18, ground := Go.Ground.phase }, { on := 19, ground := Go.Ground.phase }, { on := 20, ground := Go.Ground.phase }, { on := 21, ground := Go.Ground.phase }, { on := 22, ground := Go.Ground.phase }, { on := 23, ground := Go.Ground.phase }, { on := 24, ground := Go.Ground.phase }, { on := 25, ground := Go.Ground.phase }, { on := 26, ground := Go.Ground.phase }, { on := 27, ground := Go.Ground.phase }, { on := 28, ground := Go.Ground.phase }, { on := 29, ground := Go.Ground.phase }, { on := 30, ground := Go.Ground.phase }], guard := none } : Oper)) (v := ?vc31) rfl (by kernel_rfl) (by kernel_rfl) (by kernel_rfl) (fun _ _ _ h => h) (Or.inl ⟨by rfl, ?hyc31⟩) (by assumption) ?restc31
                      case hyc31 => (intro w hSw; (try dsimp only at hSw); go_simp; (try with_reducible rfl))
                      (try simp only [Act.put, List.setIfInBounds_toArray, List.set_cons_zero, List.set_cons_succ])
                      refine wpAnyH_done (by kernel_rfl) ?_ _
                      (try go_wp2_with fail)
                      go_meet
                      exact ⟨by rw [HN.out], ⟨s3b (by assumption)⟩⟩
                  · have e1 : ((U.length : Int) == (T.length : Int)) = false := beq_eq_false_iff_ne.2 (by omega)
                    have e1' : (U.length == T.length) = false := beq_eq_false_iff_ne.2 hl
                    have HN := Aside0.mk (show nr = false by rw [← HNR.out, decide_eq_false_iff_not]; exact fun h => hl h.1)
                    clear hl
                    refine wp_region_held_drew (S := (fun w' => w'.cell? ⟨gb, 0, none⟩ = some (.slice At T.length ct) ∧ w'.cell? ⟨gb, 1, none⟩ = some (.slice Au U.length cu) ∧ Aside0 (Below wu.heap.size wu w'))) (by kernel_rfl) (by exact hS3) (fun hHeld => ?_)
                    refine wpAnyH_take (i := 0) (oi := ({ dst := some 145, op := Go.Op.fieldAddr 24 (Go.Operand.tmp 1) 1, type := 0, pos := "law.go:186", after := #[], guard := none } : Oper)) (v := ?va0) rfl (by kernel_rfl) (by kernel_rfl) (by kernel_rfl) (fun _ _ _ h => h) (Or.inl ⟨by rfl, ?hya0⟩) (by assumption) ?resta0
                    case hya0 => (intro w hSw; (try dsimp only at hSw); go_simp; (try with_reducible rfl))
                    (try simp only [Act.put, List.setIfInBounds_toArray, List.set_cons_zero, List.set_cons_succ])
                    refine wpAnyH_take (i := 1) (oi := ({ dst := some 146, op := Go.Op.load 22 (Go.Operand.tmp 145), type := 22, pos := "law.go:186", after := #[{ on := 0, ground := Go.Ground.data }], guard := none } : Oper)) (v := ?va1) rfl (by kernel_rfl) (by kernel_rfl) (by kernel_rfl) (fun _ _ _ h => h) (Or.inl ⟨by rfl, ?hya1⟩) (by assumption) ?resta1
                    case hya1 => (intro w hSw; (try dsimp only at hSw); go_simp; (try with_reducible rfl))
                    (try simp only [Act.put, List.setIfInBounds_toArray, List.set_cons_zero, List.set_cons_succ])
                    refine wpAnyH_take (i := 2) (oi := ({ dst := some 147, op := Go.Op.call { callee := Go.Callee.builtin Go.Builtin.len, args := #[Go.Operand.tmp 146], argTypes := #[22] }, type := 3, pos := "law.go:186", after := #[{ on := 1, ground := Go.Ground.data }], guard := none } : Oper)) (v := ?va2) rfl (by kernel_rfl) (by kernel_rfl) (by kernel_rfl) (fun _ _ _ h => h) (Or.inl ⟨by rfl, ?hya2⟩) (by assumption) ?resta2
                    case hya2 => (intro w hSw; (try dsimp only at hSw); go_simp; (try with_reducible rfl))
                    (try simp only [Act.put, List.setIfInBounds_toArray, List.set_cons_zero, List.set_cons_succ])
                    refine wpAnyH_take (i := 3) (oi := ({ dst := some 148, op := Go.Op.fieldAddr 24 (Go.Operand.tmp 1) 0, type := 0, pos := "law.go:186", after := #[], guard := none } : Oper)) (v := ?va3) rfl (by kernel_rfl) (by kernel_rfl) (by kernel_rfl) (fun _ _ _ h => h) (Or.inl ⟨by rfl, ?hya3⟩) (by assumption) ?resta3
                    case hya3 => (intro w hSw; (try dsimp only at hSw); go_simp; (try with_reducible rfl))
                    (try simp only [Act.put, List.setIfInBounds_toArray, List.set_cons_zero, List.set_cons_succ])
                    refine wpAnyH_take (i := 4) (oi := ({ dst := some 149, op := Go.Op.load 22 (Go.Operand.tmp 148), type := 22, pos := "law.go:186", after := #[{ on := 3, ground := Go.Ground.data }], guard := none } : Oper)) (v := ?va4) rfl (by kernel_rfl) (by kernel_rfl) (by kernel_rfl) (fun _ _ _ h => h) (Or.inl ⟨by rfl, ?hya4⟩) (by assumption) ?resta4
                    case hya4 => (intro w hSw; (try dsimp only at hSw); go_simp; (try with_reducible rfl))
                    (try simp only [Act.put, List.setIfInBounds_toArray, List.set_cons_zero, List.set_cons_succ])
                    refine wpAnyH_take (i := 5) (oi := ({ dst := some 150, op := Go.Op.call { callee := Go.Callee.builtin Go.Builtin.len, args := #[Go.Operand.tmp 149], argTypes := #[22] }, type := 3, pos := "law.go:186", after := #[{ on := 4, ground := Go.Ground.data }], guard := none } : Oper)) (v := ?va5) rfl (by kernel_rfl) (by kernel_rfl) (by kernel_rfl) (fun _ _ _ h => h) (Or.inl ⟨by rfl, ?hya5⟩) (by assumption) ?resta5
                    case hya5 => (intro w hSw; (try dsimp only at hSw); go_simp; (try with_reducible rfl))
                    (try simp only [Act.put, List.setIfInBounds_toArray, List.set_cons_zero, List.set_cons_succ])
                    refine wpAnyH_take (i := 6) (oi := ({ dst := some 151, op := Go.Op.binOp Go.BinOp.eql 3 (Go.Operand.tmp 147) (Go.Operand.tmp 150) 3, type := 4, pos := "law.go:186", after := #[{ on := 2, ground := Go.Ground.data }, { on := 5, ground := Go.Ground.data }], guard := none } : Oper)) (v := ?va6) rfl (by kernel_rfl) (by kernel_rfl) (by kernel_rfl) (fun _ _ _ h => h) (Or.inl ⟨by rfl, ?hya6⟩) (by assumption) ?resta6
                    case hya6 => (intro w hSw; (try dsimp only at hSw); go_simp; (try with_reducible rfl))
                    (try simp only [Act.put, List.setIfInBounds_toArray, List.set_cons_zero, List.set_cons_succ])
                    refine wpAnyH_take (i := 7) (oi := ({ dst := some 152, op := Go.Op.move (Go.Operand.tmp 151), type := 4, pos := "law.go:186", after := #[{ on := 6, ground := Go.Ground.data }], guard := none } : Oper)) (v := ?va7) rfl (by kernel_rfl) (by kernel_rfl) (by kernel_rfl) (fun _ _ _ h => h) (Or.inl ⟨by rfl, ?hya7⟩) (by assumption) ?resta7
                    case hya7 => (intro w hSw; (try dsimp only at hSw); go_simp; (try with_reducible rfl))
                    (try simp only [Act.put, List.setIfInBounds_toArray, List.set_cons_zero, List.set_cons_succ])
                    refine wpAnyH_take (i := 8) (oi := ({ dst := some 153, op := Go.Op.fieldAddr 24 (Go.Operand.tmp 1) 1, type := 0, pos := "law.go:186", after := #[{ on := 7, ground := Go.Ground.guard }], guard := some (7, true) } : Oper)) (v := undef) rfl (by kernel_rfl) (by kernel_rfl) (by kernel_rfl) (fun _ _ _ h => h) (Or.inr ⟨by rfl, rfl⟩) (by assumption) ?_
                    (try simp only [Act.put, List.setIfInBounds_toArray, List.set_cons_zero, List.set_cons_succ])
                    refine wpAnyH_take (i := 9) (oi := ({ dst := some 154, op := Go.Op.load 22 (Go.Operand.tmp 153), type := 22, pos := "law.go:186", after := #[{ on := 8, ground := Go.Ground.data }, { on := 7, ground := Go.Ground.guard }], guard := some (7, true) } : Oper)) (v := undef) rfl (by kernel_rfl) (by kernel_rfl) (by kernel_rfl) (fun _ _ _ h => h) (Or.inr ⟨by rfl, rfl⟩) (by assumption) ?_
                    (try simp only [Act.put, List.setIfInBounds_toArray, List.set_cons_zero, List.set_cons_succ])
                    refine wpAnyH_take (i := 10) (oi := ({ dst := some 155, op := Go.Op.move (Go.Operand.tmp 10), type := 3, pos := "law.go:186", after := #[{ on := 7, ground := Go.Ground.guard }], guard := some (7, true) } : Oper)) (v := undef) rfl (by kernel_rfl) (by kernel_rfl) (by kernel_rfl) (fun _ _ _ h => h) (Or.inr ⟨by rfl, rfl⟩) (by assumption) ?_
                    (try simp only [Act.put, List.setIfInBounds_toArray, List.set_cons_zero, List.set_cons_succ])
                    refine wpAnyH_take (i := 11) (oi := ({ dst := some 156, op := Go.Op.slice 22 (Go.Operand.tmp 154) none (some (Go.Operand.tmp 155)) none, type := 22, pos := "law.go:186", after := #[{ on := 9, ground := Go.Ground.data }, { on := 10, ground := Go.Ground.data }, { on := 7, ground := Go.Ground.guard }], guard := some (7, true) } : Oper)) (v := undef) rfl (by kernel_rfl) (by kernel_rfl) (by kernel_rfl) (fun _ _ _ h => h) (Or.inr ⟨by rfl, rfl⟩) (by assumption) ?_
                    (try simp only [Act.put, List.setIfInBounds_toArray, List.set_cons_zero, List.set_cons_succ])
                    refine wpAnyH_take (i := 12) (oi := ({ dst := some 157, op := Go.Op.fieldAddr 24 (Go.Operand.tmp 1) 0, type := 0, pos := "law.go:186", after := #[{ on := 7, ground := Go.Ground.guard }], guard := some (7, true) } : Oper)) (v := undef) rfl (by kernel_rfl) (by kernel_rfl) (by kernel_rfl) (fun _ _ _ h => h) (Or.inr ⟨by rfl, rfl⟩) (by assumption) ?_
                    (try simp only [Act.put, List.setIfInBounds_toArray, List.set_cons_zero, List.set_cons_succ])
                    refine wpAnyH_take (i := 13) (oi := ({ dst := some 158, op := Go.Op.load 22 (Go.Operand.tmp 157), type := 22, pos := "law.go:186", after := #[{ on := 12, ground := Go.Ground.data }, { on := 7, ground := Go.Ground.guard }], guard := some (7, true) } : Oper)) (v := undef) rfl (by kernel_rfl) (by kernel_rfl) (by kernel_rfl) (fun _ _ _ h => h) (Or.inr ⟨by rfl, rfl⟩) (by assumption) ?_
                    (try simp only [Act.put, List.setIfInBounds_toArray, List.set_cons_zero, List.set_cons_succ])
                    refine wpAnyH_take (i := 14) (oi := ({ dst := some 159, op := Go.Op.move (Go.Operand.tmp 10), type := 3, pos := "law.go:186", after := #[{ on := 7, ground := Go.Ground.guard }], guard := some (7, true) } : Oper)) (v := undef) rfl (by kernel_rfl) (by kernel_rfl) (by kernel_rfl) (fun _ _ _ h => h) (Or.inr ⟨by rfl, rfl⟩) (by assumption) ?_
                    (try simp only [Act.put, List.setIfInBounds_toArray, List.set_cons_zero, List.set_cons_succ])
                    refine wpAnyH_take (i := 15) (oi := ({ dst := some 160, op := Go.Op.slice 22 (Go.Operand.tmp 158) none (some (Go.Operand.tmp 159)) none, type := 22, pos := "law.go:186", after := #[{ on := 13, ground := Go.Ground.data }, { on := 14, ground := Go.Ground.data }, { on := 7, ground := Go.Ground.guard }], guard := some (7, true) } : Oper)) (v := undef) rfl (by kernel_rfl) (by kernel_rfl) (by kernel_rfl) (fun _ _ _ h => h) (Or.inr ⟨by rfl, rfl⟩) (by assumption) ?_
                    (try simp only [Act.put, List.setIfInBounds_toArray, List.set_cons_zero, List.set_cons_succ])
                    refine wpAnyH_take (i := 16) (oi := ({ dst := some 161, op := Go.Op.call { callee := Go.Callee.value (Go.Operand.func 15), args := #[Go.Operand.tmp 156, Go.Operand.tmp 160], argTypes := #[22, 22] }, type := 4, pos := "law.go:186", after := #[{ on := 11, ground := Go.Ground.data }, { on := 15, ground := Go.Ground.data }, { on := 7, ground := Go.Ground.chain }, { on := 7, ground := Go.Ground.guard }], guard := some (7, true) } : Oper)) (v := undef) rfl (by kernel_rfl) (by kernel_rfl) (by kernel_rfl) (fun _ _ _ h => h) (Or.inr ⟨by rfl, rfl⟩) (by assumption) ?_
                    (try simp only [Act.put, List.setIfInBounds_toArray, List.set_cons_zero, List.set_cons_succ])
                    refine wpAnyH_take (i := 17) (oi := ({ dst := some 162, op := Go.Op.pick (Go.Operand.tmp 152) (Go.Operand.tmp 161) (Go.Operand.const (Go.Value.bool false)), type := 4, pos := "law.go:186", after := #[{ on := 7, ground := Go.Ground.data }, { on := 16, ground := Go.Ground.data }], guard := none } : Oper)) (v := ?va17) rfl (by kernel_rfl) (by kernel_rfl) (by kernel_rfl) (fun _ _ _ h => h) (Or.inl ⟨by rfl, ?hya17⟩) (by assumption) ?resta17
                    case hya17 => (intro w hSw; (try dsimp only at hSw); go_simp; (try with_reducible rfl))
                    (try simp only [Act.put, List.setIfInBounds_toArray, List.set_cons_zero, List.set_cons_succ])
                    refine wpAnyH_take (i := 18) (oi := ({ dst := some 163, op := Go.Op.move (Go.Operand.tmp 162), type := 4, pos := "law.go:186", after := #[{ on := 17, ground := Go.Ground.data }, { on := 16, ground := Go.Ground.chain }], guard := none } : Oper)) (v := ?va18) rfl (by kernel_rfl) (by kernel_rfl) (by kernel_rfl) (fun _ _ _ h => h) (Or.inl ⟨by rfl, ?hya18⟩) (by assumption) ?resta18
                    case hya18 => (intro w hSw; (try dsimp only at hSw); go_simp; (try with_reducible rfl))
                    (try simp only [Act.put, List.setIfInBounds_toArray, List.set_cons_zero, List.set_cons_succ])
                    refine wpAnyH_take (i := 19) (oi := ({ dst := some 164, op := Go.Op.fieldAddr 24 (Go.Operand.tmp 1) 1, type := 0, pos := "law.go:186", after := #[{ on := 18, ground := Go.Ground.guard }], guard := some (18, true) } : Oper)) (v := undef) rfl (by kernel_rfl) (by kernel_rfl) (by kernel_rfl) (fun _ _ _ h => h) (Or.inr ⟨by rfl, rfl⟩) (by assumption) ?_
                    (try simp only [Act.put, List.setIfInBounds_toArray, List.set_cons_zero, List.set_cons_succ])
                    refine wpAnyH_take (i := 20) (oi := ({ dst := some 165, op := Go.Op.load 22 (Go.Operand.tmp 164), type := 22, pos := "law.go:186", after := #[{ on := 19, ground := Go.Ground.data }, { on := 18, ground := Go.Ground.guard }], guard := some (18, true) } : Oper)) (v := undef) rfl (by kernel_rfl) (by kernel_rfl) (by kernel_rfl) (fun _ _ _ h => h) (Or.inr ⟨by rfl, rfl⟩) (by assumption) ?_
                    (try simp only [Act.put, List.setIfInBounds_toArray, List.set_cons_zero, List.set_cons_succ])
                    refine wpAnyH_take (i := 21) (oi := ({ dst := some 166, op := Go.Op.move (Go.Operand.tmp 10), type := 3, pos := "law.go:186", after := #[{ on := 18, ground := Go.Ground.guard }], guard := some (18, true) } : Oper)) (v := undef) rfl (by kernel_rfl) (by kernel_rfl) (by kernel_rfl) (fun _ _ _ h => h) (Or.inr ⟨by rfl, rfl⟩) (by assumption) ?_
                    (try simp only [Act.put, List.setIfInBounds_toArray, List.set_cons_zero, List.set_cons_succ])
                    refine wpAnyH_take (i := 22) (oi := ({ dst := some 167, op := Go.Op.binOp Go.BinOp.add 3 (Go.Operand.tmp 166) (Go.Operand.const (Go.Value.int Go.IntKind.i64 1)) 3, type := 3, pos := "law.go:186", after := #[{ on := 21, ground := Go.Ground.data }, { on := 18, ground := Go.Ground.guard }], guard := some (18, true) } : Oper)) (v := undef) rfl (by kernel_rfl) (by kernel_rfl) (by kernel_rfl) (fun _ _ _ h => h) (Or.inr ⟨by rfl, rfl⟩) (by assumption) ?_
                    (try simp only [Act.put, List.setIfInBounds_toArray, List.set_cons_zero, List.set_cons_succ])
                    refine wpAnyH_take (i := 23) (oi := ({ dst := some 168, op := Go.Op.slice 22 (Go.Operand.tmp 165) (some (Go.Operand.tmp 167)) none none, type := 22, pos := "law.go:186", after := #[{ on := 20, ground := Go.Ground.data }, { on := 22, ground := Go.Ground.data }, { on := 18, ground := Go.Ground.guard }], guard := some (18, true) } : Oper)) (v := undef) rfl (by kernel_rfl) (by kernel_rfl) (by kernel_rfl) (fun _ _ _ h => h) (Or.inr ⟨by rfl, rfl⟩) (by assumption) ?_
                    (try simp only [Act.put, List.setIfInBounds_toArray, List.set_cons_zero, List.set_cons_succ])
                    refine wpAnyH_take (i := 24) (oi := ({ dst := some 169, op := Go.Op.fieldAddr 24 (Go.Operand.tmp 1) 0, type := 0, pos := "law.go:186", after := #[{ on := 18, ground := Go.Ground.guard }], guard := some (18, true) } : Oper)) (v := undef) rfl (by kernel_rfl) (by kernel_rfl) (by kernel_rfl) (fun _ _ _ h => h) (Or.inr ⟨by rfl, rfl⟩) (by assumption) ?_
                    (try simp only [Act.put, List.setIfInBounds_toArray, List.set_cons_zero, List.set_cons_succ])
                    refine wpAnyH_take (i := 25) (oi := ({ dst := some 170, op := Go.Op.load 22 (Go.Operand.tmp 169), type := 22, pos := "law.go:186", after := #[{ on := 24, ground := Go.Ground.data }, { on := 18, ground := Go.Ground.guard }], guard := some (18, true) } : Oper)) (v := undef) rfl (by kernel_rfl) (by kernel_rfl) (by kernel_rfl) (fun _ _ _ h => h) (Or.inr ⟨by rfl, rfl⟩) (by assumption) ?_
                    (try simp only [Act.put, List.setIfInBounds_toArray, List.set_cons_zero, List.set_cons_succ])
                    refine wpAnyH_take (i := 26) (oi := ({ dst := some 171, op := Go.Op.move (Go.Operand.tmp 10), type := 3, pos := "law.go:186", after := #[{ on := 18, ground := Go.Ground.guard }], guard := some (18, true) } : Oper)) (v := undef) rfl (by kernel_rfl) (by kernel_rfl) (by kernel_rfl) (fun _ _ _ h => h) (Or.inr ⟨by rfl, rfl⟩) (by assumption) ?_
                    (try simp only [Act.put, List.setIfInBounds_toArray, List.set_cons_zero, List.set_cons_succ])
                    refine wpAnyH_take (i := 27) (oi := ({ dst := some 172, op := Go.Op.binOp Go.BinOp.add 3 (Go.Operand.tmp 171) (Go.Operand.const (Go.Value.int Go.IntKind.i64 1)) 3, type := 3, pos := "law.go:186", after := #[{ on := 26, ground := Go.Ground.data }, { on := 18, ground := Go.Ground.guard }], guard := some (18, true) } : Oper)) (v := undef) rfl (by kernel_rfl) (by kernel_rfl) (by kernel_rfl) (fun _ _ _ h => h) (Or.inr ⟨by rfl, rfl⟩) (by assumption) ?_
                    (try simp only [Act.put, List.setIfInBounds_toArray, List.set_cons_zero, List.set_cons_succ])
                    refine wpAnyH_take (i := 28) (oi := ({ dst := some 173, op := Go.Op.slice 22 (Go.Operand.tmp 170) (some (Go.Operand.tmp 172)) none none, type := 22, pos := "law.go:186", after := #[{ on := 25, ground := Go.Ground.data }, { on := 27, ground := Go.Ground.data }, { on := 18, ground := Go.Ground.guard }], guard := some (18, true) } : Oper)) (v := undef) rfl (by kernel_rfl) (by kernel_rfl) (by kernel_rfl) (fun _ _ _ h => h) (Or.inr ⟨by rfl, rfl⟩) (by assumption) ?_
                    (try simp only [Act.put, List.setIfInBounds_toArray, List.set_cons_zero, List.set_cons_succ])
                    refine wpAnyH_take (i := 29) (oi := ({ dst := some 174, op := Go.Op.call { callee := Go.Callee.value (Go.Operand.func 15), args := #[Go.Operand.tmp 168, Go.Operand.tmp 173], argTypes := #[22, 22] }, type := 4, pos := "law.go:186", after := #[{ on := 23, ground := Go.Ground.data }, { on := 28, ground := Go.Ground.data }, { on := 18, ground := Go.Ground.chain }, { on := 18, ground := Go.Ground.guard }], guard := some (18, true) } : Oper)) (v := undef) rfl (by kernel_rfl) (by kernel_rfl) (by kernel_rfl) (fun _ _ _ h => h) (Or.inr ⟨by rfl, rfl⟩) (by assumption) ?_
                    (try simp only [Act.put, List.setIfInBounds_toArray, List.set_cons_zero, List.set_cons_succ])
                    refine wpAnyH_take (i := 30) (oi := ({ dst := some 175, op := Go.Op.pick (Go.Operand.tmp 163) (Go.Operand.tmp 174) (Go.Operand.const (Go.Value.bool false)), type := 4, pos := "law.go:186", after := #[{ on := 18, ground := Go.Ground.data }, { on := 29, ground := Go.Ground.data }], guard := none } : Oper)) (v := ?va30) rfl (by kernel_rfl) (by kernel_rfl) (by kernel_rfl) (fun _ _ _ h => h) (Or.inl ⟨by rfl, ?hya30⟩) (by assumption) ?resta30
                    case hya30 => (intro w hSw; (try dsimp only at hSw); go_simp; (try with_reducible rfl))
                    (try simp only [Act.put, List.setIfInBounds_toArray, List.set_cons_zero, List.set_cons_succ])
                    refine wpAnyH_take (i := 31) (oi := ({ dst := some 12, op := Go.Op.assign (Go.Operand.tmp 175), type := 4, pos := "law.go:186", after := #[{ on := 30, ground := Go.Ground.data }, { on := 29, ground := Go.Ground.chain }, { on := 0, ground := Go.Ground.phase }, { on := 1, ground := Go.Ground.phase }, { on := 2, ground := Go.Ground.phase }, { on := 3, ground := Go.Ground.phase }, { on := 4, ground := Go.Ground.phase }, { on := 5, ground := Go.Ground.phase }, { on := 6, ground := Go.Ground.phase }, { on := 7, ground := Go.Ground.phase }, { on := 8, ground := Go.Ground.phase }, { on := 9, ground := Go.Ground.phase }, { on := 10, ground := Go.Ground.phase }, { on := 11, ground := Go.Ground.phase }, { on := 12, ground := Go.Ground.phase }, { on := 13, ground := Go.Ground.phase }, { on := 14, ground := Go.Ground.phase }, { on := 15, ground := Go.Ground.phase }, { on := 16, ground := Go.Ground.phase }, { on := 17, ground := Go.Ground.phase }, { on := 18, ground := Go.Ground.phase }, { on := 19, ground := Go.Ground.phase }, { on := 20, ground := Go.Ground.phase }, { on := 21, ground := Go.Ground.phase }, { on := 22, ground := Go.Ground.phase }, { on := 23, ground := Go.Ground.phase }, { on := 24, ground := Go.Ground.phase }, { on := 25, ground := Go.Ground.phase }, { on := 26, ground := Go.Ground.phase }, { on := 27, ground := Go.Ground.phase }, { on := 28, ground := Go.Ground.phase }, { on := 29, ground := Go.Ground.phase }, { on := 30, ground := Go.Ground.phase }], guard := none } : Oper)) (v := ?va31) rfl (by kernel_rfl) (by kernel_rfl) (by kernel_rfl) (fun _ _ _ h => h) (Or.inl ⟨by rfl, ?hya31⟩) (by assumption) ?resta31
                    case hya31 => (intro w hSw; (try dsimp only at hSw); go_simp; (try with_reducible rfl))
                    (try simp only [Act.put, List.setIfInBounds_toArray, List.set_cons_zero, List.set_cons_succ])
                    refine wpAnyH_done (by kernel_rfl) ?_ _
                    (try go_wp2_with fail)
                    go_meet
                    exact ⟨by rw [HN.out], ⟨s3b (by assumption)⟩⟩
                case rest =>
                  obtain ⟨rfl, HC26⟩ := hcut
                  have HLv := Aside0.mk (HLu.out.next HC26.out)
                  have HC2v := Aside0.mk (Kd.C_below HC2.out HC26.out)
                  clear HC26 hS3
                  rename World => wv
                  obtain ⟨z0, z1, z2⟩ := HLv.out.st.z
                  have nn : (nr == nr) = true := by simp
                  go_wp2_with fail
                  refine (globC.calls A2 c2 q2 Au cu U _ nr (HG6.out.trans HNR.out) HC2v.out hc2 IQ2.out (by omega) HLv.out.st.u hcu HIU.out (by omega) HLv.out.st.gl).mono ?_
                  rintro e wz ⟨rfl, hb⟩
                  go_wp2_with fail
                  go_ret
                  exact ⟨rfl, PB.below_next HLv.out.st.bel hb⟩
          -- GIB
    · have d2 : decide ((300 : Int) < U.length) = true := decide_eq_true (by omega)
      have d2' : decide (300 < U.length) = true := decide_eq_true (by omega)
      go_wp2_with fail
      go_ret
      exact ⟨rfl, HS6.out.bel⟩
  · have d1 : decide ((300 : Int) < T.length) = true := decide_eq_true (by omega)
    have d1' : decide (300 < T.length) = true := decide_eq_true (by omega)
    go_wp2_with fail
    go_ret
    exact ⟨rfl, HS6.out.bel⟩
end
end Go.Proofs.YtdflblegdfpdpaaDoor.QuotedW
