-- JOINED by tailmerge3.py: TypW ParM ParA ParB ParC PAx1 PAx2 PAx3
import Derived.Test.YtfdkcnbkoagmiaaTypS
import Derived.Test.YtfdkcnbkoagmiaaFinA
import Derived.StillTailTactics
import Derived.Laws.Strings2
import Derived.Test.YtfdkcnbkoagmiaaOwnL
import Derived.Test.YtfdkcnbkoagmiaaParS
import Derived.Laws.EntriesVeiled
import Derived.Deep.DeepMust
import Derived.Laws.MakeOwn
import Derived.Test.YtfdkcnbkoagmiaaPAx0

section
namespace Go.Proofs.Ytfdkcnbkoagmiaa.TypW
open Go Go.RowKit Go.Proofs.YtfdkcnbkoagmiaaW.PrintWords Go.Proofs.YtfdkcnbkoagmiaaW.PrintLast Go.Proofs.YtfdkcnbkoagmiaaW.PrintMore Go.Proofs.Ytfdkcnbkoagmiaa.PA Go.Proofs.Ytfdkcnbkoagmiaa.RowU Go.Proofs.Ytfdkcnbkoagmiaa.CopL Go.Proofs.Ytfdkcnbkoagmiaa.ApnG Go.Proofs.Ytfdkcnbkoagmiaa.TypS Go.Proofs.Ytfdkcnbkoagmiaa.FinV Go.Proofs.Ytfdkcnbkoagmiaa.FinA
open Go.Proofs.Ytfdkcnbkoagmiaa.LinS (inB encX encD encS hexd)
set_option linter.unusedVariables false
set_option maxRecDepth 100000
def pl (l : List Int) (k : Nat) : Bool := decide (l ≠ []) && (l.take k).all (fun c => decide (32 < c ∧ c ≠ 34 ∧ c ≠ 39))
theorem pl_zero (l : List Int) : pl l 0 = decide (l ≠ []) := by simp [pl]
theorem pl_end (l : List Int) : pl l l.length = plainB l := by unfold pl plainB; rw [List.take_length]
theorem pl_succ {l : List Int} {k : Nat} {x : Int} (hx : l[k]? = some x) : pl l (k + 1) = (pl l k && decide (32 < x ∧ x ≠ 34 ∧ x ≠ 39)) := by
  obtain ⟨hk, rfl⟩ := List.getElem?_eq_some_iff.1 hx
  unfold pl
  rw [List.take_add_one, List.getElem?_eq_getElem hk, Option.toList_some, List.all_append, Bool.and_assoc]
  simp
theorem one_str {w : World} {ad : Addr} {l : List Int} {k c : Nat} {x : Int} (h : (Kd.int .u8).C w (some ad) l.length l) (hx : l[k]? = some x) : (convert 26 9 (.slice (some (ad.add k)) 1 c)).run Try.prog w = .ok (.string (strOfNums [x])) w := by
  have hk := (List.getElem?_eq_some_iff.1 hx).1
  have := C_mid (m := [x]) (j := k) h (fun p y hy => by
    have hp : p = 0 := by have := (List.getElem?_eq_some_iff.1 hy).1; simp at this; exact this
    subst hp
    obtain rfl : x = y := by simpa using hy
    exact hx) (by simp only [List.length_singleton]; omega)
  exact StrR.str_run this
theorem C_drew {w : World} {A : Option Addr} {l : List Int} (h : (Kd.int .u8).C w A l.length l) : (Kd.int .u8).C w.drew A l.length l := Kd.C_below h (Below.refl w.heap.size w).drew
abbrev Typ (A : Option Addr) (c : Nat) (l : List Int) (style : Int) (r : List Int) (w : World) : Prop := Calls Try.prog 8 #[.slice A l.length c, .int .i64 style] w fun e w' => e = .returned (.string (strOfNums r)) ∧ Below w.heap.size w w'
theorem encX_len (l : List Int) : (l.flatMap encX).length ≤ 4 * l.length := by
  induction l with
  | nil => exact Nat.le_refl _
  | cons c l ih => rw [List.flatMap_cons, List.length_append, List.length_cons]; simp only [encX, List.length_cons, List.length_nil]; omega
theorem encD_len (l : List Int) : (l.flatMap encD).length ≤ 4 * l.length := by
  induction l with
  | nil => exact Nat.le_refl _
  | cons c l ih =>
    rw [List.flatMap_cons, List.length_append, List.length_cons]
    have : (encD c).length ≤ 2 := by unfold encD; repeat' split
                                     all_goals simp
    omega
theorem encS_len (l : List Int) : (l.flatMap encS).length ≤ 4 * l.length := by
  induction l with
  | nil => exact Nat.le_refl _
  | cons c l ih =>
    rw [List.flatMap_cons, List.length_append, List.length_cons]
    have : (encS c).length ≤ 2 := by unfold encS; split <;> simp
    omega
def hexS : ByteArray := ⟨#[48, 49, 50, 51, 52, 53, 54, 55, 56, 57, 97, 98, 99, 100, 101, 102]⟩
theorem hex_cut (a : Nat) (h : a < 16) : hexS.extract a (a + 1) = strOfNums [hexd a] := by
  have : a = 0 ∨ a = 1 ∨ a = 2 ∨ a = 3 ∨ a = 4 ∨ a = 5 ∨ a = 6 ∨ a = 7 ∨ a = 8 ∨ a = 9 ∨ a = 10 ∨ a = 11 ∨ a = 12 ∨ a = 13 ∨ a = 14 ∨ a = 15 := by omega
  rcases this with rfl | rfl | rfl | rfl | rfl | rfl | rfl | rfl | rfl | rfl | rfl | rfl | rfl | rfl | rfl | rfl <;> (apply ByteArray.ext; rfl)
theorem hex_run (a : Int) (h : 0 ≤ a ∧ a < 16) (W : World) : (Instr.slice 9 (.string ⟨#[48, 49, 50, 51, 52, 53, 54, 55, 56, 57, 97, 98, 99, 100, 101, 102]⟩) (some (.int .u8 a)) (some (.int .u8 (IntKind.u8.wrap (a + 1)))) none).run Try.prog W = .ok (.string (strOfNums [hexd a])) W := by
  obtain ⟨n, rfl⟩ := Int.eq_ofNat_of_zero_le h.1
  have hn : n < 16 := by omega
  have hw : IntKind.u8.wrap ((n : Int) + 1) = ((n + 1 : Nat) : Int) := by rw [IntKind.wrap_u8]; omega
  have := run_slice_string (P := Try.prog) W 9 ⟨#[48, 49, 50, 51, 52, 53, 54, 55, 56, 57, 97, 98, 99, 100, 101, 102]⟩ .u8 .u8 (n : Int) ((n + 1 : Nat) : Int) Try.underlying9 (by omega) (by omega) (by show ((n + 1 : Nat) : Int) ≤ ((16 : Nat) : Int); omega)
  rw [hw, this]
  have e := hex_cut n hn
  unfold hexS at e
  rw [← e]
  rfl
theorem hex_hi {x : Int} (h : 0 ≤ x ∧ x < 256) : IntKind.u8.wrap (Int.tdiv x 16) = x / 16 := by rw [IntKind.wrap_u8, Int.tdiv_eq_ediv_of_nonneg h.1]; omega
theorem hex_lo {x : Int} (h : 0 ≤ x ∧ x < 256) : Int.tmod x 16 = x % 16 := Int.tmod_eq_emod_of_nonneg h.1
set_option maxHeartbeats 8000000 in
theorem typ_p (A : Option Addr) (c : Nat) (l : List Int) (w : World) (hr : (Kd.int .u8).C w A l.length l) (hc : l.length ≤ c) (hl : l.length ≤ 240) (hin : inB l) (hp : plainB l = true) : Typ A c l 3 (l) w := by
  have HR := Aside0.mk hr
  have HL := Aside0.mk (And.intro hl hc)
  have HIN := Aside0.mk hin
  have hln : decide (0 < l.length) = pl l 0 := by rw [pl_zero]; cases l <;> simp
  have HLN := Aside0.mk hln
  clear hr hl hc hin hln
  go_enter Try.func8, Try.ntmps8
  go_wp2_with fail
  go_loopw [5, 6] (fun v i wr => ∃ k : Nat, v = .bool (pl l k) ∧ i = .int .i64 k ∧ Aside0 (k ≤ l.length) ∧ w = wr) (fun _ i _ => l.length - (intOf i).toNat)
  case atStart => exact ⟨0, by first | rfl | (rw [← HLN.out]; rfl) | (rw [← HLN.out]), rfl, ⟨Nat.zero_le _⟩, rfl⟩
  case round =>
    obtain ⟨k, rfl, rfl, HK, rfl⟩ := hrel
    have hk := HK.out
    have hl := HL.out
    by_cases hlt : k < l.length
    · obtain ⟨x, hx⟩ : ∃ x, l[k]? = some x := ⟨_, List.getElem?_eq_getElem hlt⟩
      obtain ⟨ad, rfl, hcell⟩ := byteAt HR.out hx
      have HP := Aside0.mk (pl_succ hx)
      have hlt' : (k : Int) < (l.length : Int) := by omega
      have h0 : (0 : Int) ≤ (k : Int) := by omega
      have hk2 : (k : Int) ≤ 100000 := by omega
      have HM : Aside0 (k < l.length ∧ k + 1 ≤ l.length) := ⟨by omega⟩
      obtain ⟨V, hV⟩ : ∃ V, V = pl l k := ⟨_, rfl⟩
      rw [← hV] at HP
      rw [← hV]
      by_cases hgood : 32 < x ∧ x ≠ 34 ∧ x ≠ 39
      · rw [decide_eq_true hgood, Bool.and_true] at HP
        obtain ⟨g1, g2, g3⟩ := hgood
        have b2 : (x == 34) = false := beq_false_of_ne g2
        have b3 : (x == 39) = false := beq_false_of_ne g3
        clear hk hl hlt hx hV g2 g3
        go_wp2_with fail
        refine ⟨?_, meas _ _ _ h0 (by have := HM.out.1; omega) (by first | rfl | omega)⟩
        have hp := HP.out
        subst hp
        first
          | exact ⟨k + 1, rfl, rfl, ⟨HM.out.2⟩, by trivial⟩
          | ((repeat apply Exists.intro); exact ⟨⟨k + 1, rfl, rfl, ⟨HM.out.2⟩, by trivial⟩, rfl⟩)
      · rw [decide_eq_false hgood, Bool.and_false] at HP
        have HPF : Aside0 (false = pl l (k + 1)) := ⟨HP.out.symm⟩
        have hb : x ≤ 32 ∨ 32 < x ∧ x = 34 ∨ 32 < x ∧ x = 39 := by omega
        clear hk hl hlt hx hV hgood HP
        rcases hb with hb | ⟨_, rfl⟩ | ⟨_, rfl⟩
        all_goals
          go_wp2_with fail
          refine ⟨?_, meas _ _ _ h0 (by have := HM.out.1; omega) (by first | rfl | omega)⟩
          first
            | exact ⟨k + 1, by rw [← HPF.out], rfl, ⟨HM.out.2⟩, by trivial⟩
            | ((repeat apply Exists.intro); exact ⟨⟨k + 1, by rw [← HPF.out], rfl, ⟨HM.out.2⟩, by trivial⟩, rfl⟩)
    · obtain rfl : k = l.length := by omega
      have hlt' : ¬ (l.length : Int) < (l.length : Int) := by omega
      rw [pl_end]
      clear hk hlt HK HLN
      have hcv := StrR.str_run (c := c) HR.out
      rw [hp]
      go_wp2_with fail
      go_ret
      exact ⟨rfl, Below.refl _ _⟩
set_option maxHeartbeats 8000000 in
theorem typ_d (A : Option Addr) (c : Nat) (l : List Int) (w : World) (hr : (Kd.int .u8).C w A l.length l) (hc : l.length ≤ c) (hl : l.length ≤ 240) (hin : inB l)  : Typ A c l 1 (typD l) w := by
  have HR := Aside0.mk hr
  have HL := Aside0.mk (And.intro hl hc)
  have HIN := Aside0.mk hin
  have hln : decide (0 < l.length) = pl l 0 := by rw [pl_zero]; cases l <;> simp
  have HLN := Aside0.mk hln
  clear hr hl hc hin hln
  go_enter Try.func8, Try.ntmps8
  go_wp2_with fail
  go_loopw [5, 6] (fun v i wr => ∃ k : Nat, v = .bool (pl l k) ∧ i = .int .i64 k ∧ Aside0 (k ≤ l.length) ∧ w = wr) (fun _ i _ => l.length - (intOf i).toNat)
  case atStart => exact ⟨0, by first | rfl | (rw [← HLN.out]; rfl) | (rw [← HLN.out]), rfl, ⟨Nat.zero_le _⟩, rfl⟩
  case round =>
    obtain ⟨k, rfl, rfl, HK, rfl⟩ := hrel
    have hk := HK.out
    have hl := HL.out
    by_cases hlt : k < l.length
    · obtain ⟨x, hx⟩ : ∃ x, l[k]? = some x := ⟨_, List.getElem?_eq_getElem hlt⟩
      obtain ⟨ad, rfl, hcell⟩ := byteAt HR.out hx
      have HP := Aside0.mk (pl_succ hx)
      have hlt' : (k : Int) < (l.length : Int) := by omega
      have h0 : (0 : Int) ≤ (k : Int) := by omega
      have hk2 : (k : Int) ≤ 100000 := by omega
      have HM : Aside0 (k < l.length ∧ k + 1 ≤ l.length) := ⟨by omega⟩
      obtain ⟨V, hV⟩ : ∃ V, V = pl l k := ⟨_, rfl⟩
      rw [← hV] at HP
      rw [← hV]
      by_cases hgood : 32 < x ∧ x ≠ 34 ∧ x ≠ 39
      · rw [decide_eq_true hgood, Bool.and_true] at HP
        obtain ⟨g1, g2, g3⟩ := hgood
        have b2 : (x == 34) = false := beq_false_of_ne g2
        have b3 : (x == 39) = false := beq_false_of_ne g3
        clear hk hl hlt hx hV g2 g3
        go_wp2_with fail
        refine ⟨?_, meas _ _ _ h0 (by have := HM.out.1; omega) (by first | rfl | omega)⟩
        have hp := HP.out
        subst hp
        first
          | exact ⟨k + 1, rfl, rfl, ⟨HM.out.2⟩, by trivial⟩
          | ((repeat apply Exists.intro); exact ⟨⟨k + 1, rfl, rfl, ⟨HM.out.2⟩, by trivial⟩, rfl⟩)
      · rw [decide_eq_false hgood, Bool.and_false] at HP
        have HPF : Aside0 (false = pl l (k + 1)) := ⟨HP.out.symm⟩
        have hb : x ≤ 32 ∨ 32 < x ∧ x = 34 ∨ 32 < x ∧ x = 39 := by omega
        clear hk hl hlt hx hV hgood HP
        rcases hb with hb | ⟨_, rfl⟩ | ⟨_, rfl⟩
        all_goals
          go_wp2_with fail
          refine ⟨?_, meas _ _ _ h0 (by have := HM.out.1; omega) (by first | rfl | omega)⟩
          first
            | exact ⟨k + 1, by rw [← HPF.out], rfl, ⟨HM.out.2⟩, by trivial⟩
            | ((repeat apply Exists.intro); exact ⟨⟨k + 1, by rw [← HPF.out], rfl, ⟨HM.out.2⟩, by trivial⟩, rfl⟩)
    · obtain rfl : k = l.length := by omega
      have hlt' : ¬ (l.length : Int) < (l.length : Int) := by omega
      rw [pl_end]
      clear hk hlt HK HLN
      go_wp2_with fail
      go_loopw [10, 11] (fun s i wr => ∃ (k : Nat) (S : ByteArray), s = .string S ∧ i = .int .i64 k ∧ Aside0 (k ≤ l.length ∧ S = strOfNums (34 :: (l.take k).flatMap encD) ∧ Below w.heap.size w wr)) (fun _ i _ => l.length - (intOf i).toNat)
      case atStart => exact ⟨0, _, rfl, rfl, ⟨Nat.zero_le _, rfl, Below.refl _ _⟩⟩
      case round =>
        rename World => wr
        obtain ⟨k, S, rfl, rfl, HQ⟩ := hrel
        have hq := HQ.out.1
        have hsz : S.size ≤ 4 * k + 1 := by rw [HQ.out.2.1, strOfNums_size, List.length_cons]; have := encD_len (l.take k); rw [List.length_take, Nat.min_eq_left hq] at this; omega
        have hRr := Kd.C_below HR.out HQ.out.2.2
        by_cases hlt : k < l.length
        · obtain ⟨x, hx⟩ : ∃ x, l[k]? = some x := ⟨_, List.getElem?_eq_getElem hlt⟩
          obtain ⟨ad, rfl, hcell⟩ := byteAt hRr hx
          have hxb := HIN.out x (List.mem_of_getElem? hx)
          have HNX : Aside0 (strOfNums (34 :: (l.take (k + 1)).flatMap encD) = S ++ strOfNums (encD x)) := ⟨by rw [HQ.out.2.1, StrR.str_append, List.take_add_one, hx, Option.toList_some, List.flatMap_append]; simp⟩
          have hlt' : (k : Int) < (l.length : Int) := by omega
          have h0 : (0 : Int) ≤ (k : Int) := by omega
          have hk2 : (k : Int) ≤ 100000 := by omega
          have hs9 : S.size ≤ 100000 := by omega
          have HM : Aside0 (k < l.length ∧ k + 1 ≤ l.length) := ⟨by omega⟩
          have hcv : ∀ (cc : Nat), (convert 26 9 (.slice (some (ad.add k)) 1 cc)).run Try.prog wr = .ok (.string (strOfNums [x])) wr := fun cc => one_str hRr hx
          have hone : (strOfNums [x]).size = 1 := rfl
          obtain ⟨Sx, hSx⟩ : ∃ Sx, Sx = strOfNums [x] := ⟨_, rfl⟩
          have hcc := HL.out.2
          have hk3 : (k : Int) + 1 ≤ (l.length : Int) := by omega
          have hk4 : (k : Int) + 1 ≤ (c : Int) := by omega
          have hk5 : (k : Int) ≤ (k : Int) + 1 := by omega
          have hk6 : ¬ c = k := by omega
          have hk7 : (0 : Int) ≤ (k : Int) + 1 := by omega
          have HSX := Aside0.mk hSx
          rw [← hSx] at hcv hone
          clear hq hsz hRr hlt hx hSx hcc
          by_cases h1 : x = 34 ∨ x = 92
          · have he : encD x = [92, x] := by unfold encD; rw [if_pos h1]
            have HE9 : Aside0 (S ++ ⟨#[92]⟩ ++ Sx = strOfNums (34 :: (l.take (k + 1)).flatMap encD)) := ⟨by rw [HNX.out, he, HSX.out, show strOfNums [92, x] = ⟨#[92]⟩ ++ strOfNums [x] from by rw [show (⟨#[92]⟩ : ByteArray) = strOfNums [92] from rfl, StrR.str_append]; rfl, ByteArray.append_assoc]⟩
            clear he
            have h2 : x = 34 ∨ ¬ x = 34 ∧ x = 92 := by omega
            clear h1
            rcases h2 with rfl | ⟨_, rfl⟩
            all_goals
              go_wp2_with fail
              refine ⟨?_, meas _ _ _ h0 (by have := HM.out.1; omega) (by first | rfl | omega)⟩
              first
                | exact ⟨k + 1, _, rfl, rfl, ⟨HM.out.2, HE9.out, HQ.out.2.2⟩⟩
                | ((repeat apply Exists.intro); exact ⟨⟨k + 1, _, rfl, rfl, ⟨HM.out.2, HE9.out, HQ.out.2.2⟩⟩, rfl⟩)
          · by_cases h3 : x = 10
            · subst h3
              have HE9 : Aside0 (S ++ ⟨#[92, 110]⟩ = strOfNums (34 :: (l.take (k + 1)).flatMap encD)) := ⟨by rw [HNX.out]; rfl⟩
              clear h1
              go_wp2_with fail
              refine ⟨?_, meas _ _ _ h0 (by have := HM.out.1; omega) (by first | rfl | omega)⟩
              first
                | exact ⟨k + 1, _, rfl, rfl, ⟨HM.out.2, HE9.out, HQ.out.2.2⟩⟩
                | ((repeat apply Exists.intro); exact ⟨⟨k + 1, _, rfl, rfl, ⟨HM.out.2, HE9.out, HQ.out.2.2⟩⟩, rfl⟩)
            · have he : encD x = [x] := by unfold encD; rw [if_neg h1, if_neg h3]
              have HE9 : Aside0 (S ++ Sx = strOfNums (34 :: (l.take (k + 1)).flatMap encD)) := ⟨by rw [HNX.out, he, HSX.out]⟩
              have b1 : (x == 34) = false := beq_false_of_ne fun h => h1 (.inl h)
              have b2 : (x == 92) = false := beq_false_of_ne fun h => h1 (.inr h)
              have b3 : (x == 10) = false := beq_false_of_ne h3
              clear he h1 h3
              go_wp2_with fail
              refine ⟨?_, meas _ _ _ h0 (by have := HM.out.1; omega) (by first | rfl | omega)⟩
              first
                | exact ⟨k + 1, _, rfl, rfl, ⟨HM.out.2, HE9.out, HQ.out.2.2⟩⟩
                | ((repeat apply Exists.intro); exact ⟨⟨k + 1, _, rfl, rfl, ⟨HM.out.2, HE9.out, HQ.out.2.2⟩⟩, rfl⟩)
        · obtain rfl : k = l.length := by omega
          have hlt' : ¬ (l.length : Int) < (l.length : Int) := by omega
          have hs9 : S.size ≤ 100000 := by omega
          have HE : Aside0 (strOfNums (typD l) = S ++ ⟨#[34]⟩) := ⟨by rw [HQ.out.2.1, List.take_length, show (⟨#[34]⟩ : ByteArray) = strOfNums [34] from rfl, StrR.str_append]; rfl⟩
          clear hq hsz hRr hlt
          go_wp2_with fail
          go_ret
          exact ⟨by rw [HE.out]; rfl, HQ.out.2.2⟩
set_option maxHeartbeats 8000000 in
theorem typ_x0 (A : Option Addr) (c : Nat) (l : List Int) (w : World) (hr : (Kd.int .u8).C w A l.length l) (hc : l.length ≤ c) (hl : l.length ≤ 240) (hin : inB l)  : Typ A c l 0 (typX l) w := by
  have HR := Aside0.mk hr
  have HL := Aside0.mk (And.intro hl hc)
  have HIN := Aside0.mk hin
  have hln : decide (0 < l.length) = pl l 0 := by rw [pl_zero]; cases l <;> simp
  have HLN := Aside0.mk hln
  clear hr hl hc hin hln
  go_enter Try.func8, Try.ntmps8
  go_wp2_with fail
  go_loopw [5, 6] (fun v i wr => ∃ k : Nat, v = .bool (pl l k) ∧ i = .int .i64 k ∧ Aside0 (k ≤ l.length) ∧ w = wr) (fun _ i _ => l.length - (intOf i).toNat)
  case atStart => exact ⟨0, by first | rfl | (rw [← HLN.out]; rfl) | (rw [← HLN.out]), rfl, ⟨Nat.zero_le _⟩, rfl⟩
  case round =>
    obtain ⟨k, rfl, rfl, HK, rfl⟩ := hrel
    have hk := HK.out
    have hl := HL.out
    by_cases hlt : k < l.length
    · obtain ⟨x, hx⟩ : ∃ x, l[k]? = some x := ⟨_, List.getElem?_eq_getElem hlt⟩
      obtain ⟨ad, rfl, hcell⟩ := byteAt HR.out hx
      have HP := Aside0.mk (pl_succ hx)
      have hlt' : (k : Int) < (l.length : Int) := by omega
      have h0 : (0 : Int) ≤ (k : Int) := by omega
      have hk2 : (k : Int) ≤ 100000 := by omega
      have HM : Aside0 (k < l.length ∧ k + 1 ≤ l.length) := ⟨by omega⟩
      obtain ⟨V, hV⟩ : ∃ V, V = pl l k := ⟨_, rfl⟩
      rw [← hV] at HP
      rw [← hV]
      by_cases hgood : 32 < x ∧ x ≠ 34 ∧ x ≠ 39
      · rw [decide_eq_true hgood, Bool.and_true] at HP
        obtain ⟨g1, g2, g3⟩ := hgood
        have b2 : (x == 34) = false := beq_false_of_ne g2
        have b3 : (x == 39) = false := beq_false_of_ne g3
        clear hk hl hlt hx hV g2 g3
        go_wp2_with fail
        refine ⟨?_, meas _ _ _ h0 (by have := HM.out.1; omega) (by first | rfl | omega)⟩
        have hp := HP.out
        subst hp
        first
          | exact ⟨k + 1, rfl, rfl, ⟨HM.out.2⟩, by trivial⟩
          | ((repeat apply Exists.intro); exact ⟨⟨k + 1, rfl, rfl, ⟨HM.out.2⟩, by trivial⟩, rfl⟩)
      · rw [decide_eq_false hgood, Bool.and_false] at HP
        have HPF : Aside0 (false = pl l (k + 1)) := ⟨HP.out.symm⟩
        have hb : x ≤ 32 ∨ 32 < x ∧ x = 34 ∨ 32 < x ∧ x = 39 := by omega
        clear hk hl hlt hx hV hgood HP
        rcases hb with hb | ⟨_, rfl⟩ | ⟨_, rfl⟩
        all_goals
          go_wp2_with fail
          refine ⟨?_, meas _ _ _ h0 (by have := HM.out.1; omega) (by first | rfl | omega)⟩
          first
            | exact ⟨k + 1, by rw [← HPF.out], rfl, ⟨HM.out.2⟩, by trivial⟩
            | ((repeat apply Exists.intro); exact ⟨⟨k + 1, by rw [← HPF.out], rfl, ⟨HM.out.2⟩, by trivial⟩, rfl⟩)
    · obtain rfl : k = l.length := by omega
      have hlt' : ¬ (l.length : Int) < (l.length : Int) := by omega
      rw [pl_end]
      clear hk hlt HK HLN
      go_wp2_with fail
      go_loopw [10, 11] (fun s i wr => ∃ (k : Nat) (S : ByteArray), s = .string S ∧ i = .int .i64 k ∧ Aside0 (k ≤ l.length ∧ S = strOfNums (34 :: (l.take k).flatMap encX) ∧ Below w.heap.size w wr)) (fun _ i _ => l.length - (intOf i).toNat)
      case atStart => exact ⟨0, _, rfl, rfl, ⟨Nat.zero_le _, rfl, Below.refl _ _⟩⟩
      case round =>
        rename World => wr
        obtain ⟨k, S, rfl, rfl, HQ⟩ := hrel
        have hq := HQ.out.1
        have hsz : S.size ≤ 4 * k + 1 := by rw [HQ.out.2.1, strOfNums_size, List.length_cons]; have := encX_len (l.take k); rw [List.length_take, Nat.min_eq_left hq] at this; omega
        have hRr := Kd.C_below HR.out HQ.out.2.2
        by_cases hlt : k < l.length
        · obtain ⟨x, hx⟩ : ∃ x, l[k]? = some x := ⟨_, List.getElem?_eq_getElem hlt⟩
          obtain ⟨ad, rfl, hcell⟩ := byteAt hRr hx
          have hxb := HIN.out x (List.mem_of_getElem? hx)
          have HNX : Aside0 (strOfNums (34 :: (l.take (k + 1)).flatMap encX) = S ++ strOfNums (encX x)) := ⟨by rw [HQ.out.2.1, StrR.str_append, List.take_add_one, hx, Option.toList_some, List.flatMap_append]; simp⟩
          have hlt' : (k : Int) < (l.length : Int) := by omega
          have h0 : (0 : Int) ≤ (k : Int) := by omega
          have hk2 : (k : Int) ≤ 100000 := by omega
          have hs9 : S.size ≤ 100000 := by omega
          have HM : Aside0 (k < l.length ∧ k + 1 ≤ l.length) := ⟨by omega⟩
          have hx0 : (0 : Int) ≤ x := hxb.1
          have hx1 : x < 256 := hxb.2
          have hs1 : ∀ W, (Instr.slice 9 (.string ⟨#[48, 49, 50, 51, 52, 53, 54, 55, 56, 57, 97, 98, 99, 100, 101, 102]⟩) (some (.int .u8 (IntKind.u8.wrap (Int.tdiv x 16)))) (some (.int .u8 (IntKind.u8.wrap (IntKind.u8.wrap (Int.tdiv x 16) + 1)))) none).run Try.prog W = .ok (.string (strOfNums [hexd (x / 16)])) W := fun W => by rw [hex_hi hxb]; exact hex_run _ (by omega) W
          have hs2 : ∀ W, (Instr.slice 9 (.string ⟨#[48, 49, 50, 51, 52, 53, 54, 55, 56, 57, 97, 98, 99, 100, 101, 102]⟩) (some (.int .u8 (Int.tmod x 16))) (some (.int .u8 (IntKind.u8.wrap (Int.tmod x 16 + 1)))) none).run Try.prog W = .ok (.string (strOfNums [hexd (x % 16)])) W := fun W => by rw [hex_lo hxb]; exact hex_run _ (by omega) W
          have hz1 : (strOfNums [hexd (x / 16)]).size = 1 := rfl
          have hz2 : (strOfNums [hexd (x % 16)]).size = 1 := rfl
          have HE9 : Aside0 (S ++ ⟨#[92, 120]⟩ ++ strOfNums [hexd (x / 16)] ++ strOfNums [hexd (x % 16)] = strOfNums (34 :: (l.take (k + 1)).flatMap encX)) := ⟨by rw [HNX.out, show (⟨#[92, 120]⟩ : ByteArray) = strOfNums [92, 120] from rfl, ByteArray.append_assoc, ByteArray.append_assoc, StrR.str_append, StrR.str_append]; rfl⟩
          obtain ⟨H1, hH1⟩ : ∃ H1, H1 = strOfNums [hexd (x / 16)] := ⟨_, rfl⟩
          obtain ⟨H2, hH2⟩ : ∃ H2, H2 = strOfNums [hexd (x % 16)] := ⟨_, rfl⟩
          rw [← hH1, ← hH2] at HE9
          rw [← hH1] at hs1 hz1
          rw [← hH2] at hs2 hz2
          have hA1 : ¬ 9223372036854775807 < S.size + 2 := by omega
          have hA2 : ¬ 9223372036854775807 < S.size + 2 + 1 := by omega
          have hA3 : ¬ 9223372036854775807 < S.size + 2 + 1 + 1 := by omega
          clear hq hsz hRr hlt hx hxb hH1 hH2
          go_wp2_with fail
          go_still (by kernel_rfl)
          clear hs1 hs2 hA1 hA2 hA3
          go_wp2_with fail
          refine ⟨?_, meas _ _ _ h0 (by have := HM.out.1; omega) (by first | rfl | omega)⟩
          first
            | exact ⟨k + 1, _, rfl, rfl, ⟨HM.out.2, HE9.out, HQ.out.2.2.drew⟩⟩
            | ((repeat apply Exists.intro); exact ⟨⟨k + 1, _, rfl, rfl, ⟨HM.out.2, HE9.out, HQ.out.2.2.drew⟩⟩, rfl⟩)
        · obtain rfl : k = l.length := by omega
          have hlt' : ¬ (l.length : Int) < (l.length : Int) := by omega
          have hs9 : S.size ≤ 100000 := by omega
          have HE : Aside0 (strOfNums (typX l) = S ++ ⟨#[34]⟩) := ⟨by rw [HQ.out.2.1, List.take_length, show (⟨#[34]⟩ : ByteArray) = strOfNums [34] from rfl, StrR.str_append]; rfl⟩
          clear hq hsz hRr hlt
          go_wp2_with fail
          go_ret
          exact ⟨by rw [HE.out]; rfl, HQ.out.2.2⟩
set_option maxHeartbeats 8000000 in
theorem typ_x3 (A : Option Addr) (c : Nat) (l : List Int) (w : World) (hr : (Kd.int .u8).C w A l.length l) (hc : l.length ≤ c) (hl : l.length ≤ 240) (hin : inB l) (hp : plainB l = false) : Typ A c l 3 (typX l) w := by
  have HR := Aside0.mk hr
  have HL := Aside0.mk (And.intro hl hc)
  have HIN := Aside0.mk hin
  have hln : decide (0 < l.length) = pl l 0 := by rw [pl_zero]; cases l <;> simp
  have HLN := Aside0.mk hln
  clear hr hl hc hin hln
  go_enter Try.func8, Try.ntmps8
  go_wp2_with fail
  go_loopw [5, 6] (fun v i wr => ∃ k : Nat, v = .bool (pl l k) ∧ i = .int .i64 k ∧ Aside0 (k ≤ l.length) ∧ w = wr) (fun _ i _ => l.length - (intOf i).toNat)
  case atStart => exact ⟨0, by first | rfl | (rw [← HLN.out]; rfl) | (rw [← HLN.out]), rfl, ⟨Nat.zero_le _⟩, rfl⟩
  case round =>
    obtain ⟨k, rfl, rfl, HK, rfl⟩ := hrel
    have hk := HK.out
    have hl := HL.out
    by_cases hlt : k < l.length
    · obtain ⟨x, hx⟩ : ∃ x, l[k]? = some x := ⟨_, List.getElem?_eq_getElem hlt⟩
      obtain ⟨ad, rfl, hcell⟩ := byteAt HR.out hx
      have HP := Aside0.mk (pl_succ hx)
      have hlt' : (k : Int) < (l.length : Int) := by omega
      have h0 : (0 : Int) ≤ (k : Int) := by omega
      have hk2 : (k : Int) ≤ 100000 := by omega
      have HM : Aside0 (k < l.length ∧ k + 1 ≤ l.length) := ⟨by omega⟩
      obtain ⟨V, hV⟩ : ∃ V, V = pl l k := ⟨_, rfl⟩
      rw [← hV] at HP
      rw [← hV]
      by_cases hgood : 32 < x ∧ x ≠ 34 ∧ x ≠ 39
      · rw [decide_eq_true hgood, Bool.and_true] at HP
        obtain ⟨g1, g2, g3⟩ := hgood
        have b2 : (x == 34) = false := beq_false_of_ne g2
        have b3 : (x == 39) = false := beq_false_of_ne g3
        clear hk hl hlt hx hV g2 g3
        go_wp2_with fail
        refine ⟨?_, meas _ _ _ h0 (by have := HM.out.1; omega) (by first | rfl | omega)⟩
        have hp := HP.out
        subst hp
        first
          | exact ⟨k + 1, rfl, rfl, ⟨HM.out.2⟩, by trivial⟩
          | ((repeat apply Exists.intro); exact ⟨⟨k + 1, rfl, rfl, ⟨HM.out.2⟩, by trivial⟩, rfl⟩)
      · rw [decide_eq_false hgood, Bool.and_false] at HP
        have HPF : Aside0 (false = pl l (k + 1)) := ⟨HP.out.symm⟩
        have hb : x ≤ 32 ∨ 32 < x ∧ x = 34 ∨ 32 < x ∧ x = 39 := by omega
        clear hk hl hlt hx hV hgood HP
        rcases hb with hb | ⟨_, rfl⟩ | ⟨_, rfl⟩
        all_goals
          go_wp2_with fail
          refine ⟨?_, meas _ _ _ h0 (by have := HM.out.1; omega) (by first | rfl | omega)⟩
          first
            | exact ⟨k + 1, by rw [← HPF.out], rfl, ⟨HM.out.2⟩, by trivial⟩
            | ((repeat apply Exists.intro); exact ⟨⟨k + 1, by rw [← HPF.out], rfl, ⟨HM.out.2⟩, by trivial⟩, rfl⟩)
    · obtain rfl : k = l.length := by omega
      have hlt' : ¬ (l.length : Int) < (l.length : Int) := by omega
      rw [pl_end]
      clear hk hlt HK HLN
      rw [hp]
      go_wp2_with fail
      go_loopw [10, 11] (fun s i wr => ∃ (k : Nat) (S : ByteArray), s = .string S ∧ i = .int .i64 k ∧ Aside0 (k ≤ l.length ∧ S = strOfNums (34 :: (l.take k).flatMap encX) ∧ Below w.heap.size w wr)) (fun _ i _ => l.length - (intOf i).toNat)
      case atStart => exact ⟨0, _, rfl, rfl, ⟨Nat.zero_le _, rfl, Below.refl _ _⟩⟩
      case round =>
        rename World => wr
        obtain ⟨k, S, rfl, rfl, HQ⟩ := hrel
        have hq := HQ.out.1
        have hsz : S.size ≤ 4 * k + 1 := by rw [HQ.out.2.1, strOfNums_size, List.length_cons]; have := encX_len (l.take k); rw [List.length_take, Nat.min_eq_left hq] at this; omega
        have hRr := Kd.C_below HR.out HQ.out.2.2
        by_cases hlt : k < l.length
        · obtain ⟨x, hx⟩ : ∃ x, l[k]? = some x := ⟨_, List.getElem?_eq_getElem hlt⟩
          obtain ⟨ad, rfl, hcell⟩ := byteAt hRr hx
          have hxb := HIN.out x (List.mem_of_getElem? hx)
          have HNX : Aside0 (strOfNums (34 :: (l.take (k + 1)).flatMap encX) = S ++ strOfNums (encX x)) := ⟨by rw [HQ.out.2.1, StrR.str_append, List.take_add_one, hx, Option.toList_some, List.flatMap_append]; simp⟩
          have hlt' : (k : Int) < (l.length : Int) := by omega
          have h0 : (0 : Int) ≤ (k : Int) := by omega
          have hk2 : (k : Int) ≤ 100000 := by omega
          have hs9 : S.size ≤ 100000 := by omega
          have HM : Aside0 (k < l.length ∧ k + 1 ≤ l.length) := ⟨by omega⟩
          have hx0 : (0 : Int) ≤ x := hxb.1
          have hx1 : x < 256 := hxb.2
          have hs1 : ∀ W, (Instr.slice 9 (.string ⟨#[48, 49, 50, 51, 52, 53, 54, 55, 56, 57, 97, 98, 99, 100, 101, 102]⟩) (some (.int .u8 (IntKind.u8.wrap (Int.tdiv x 16)))) (some (.int .u8 (IntKind.u8.wrap (IntKind.u8.wrap (Int.tdiv x 16) + 1)))) none).run Try.prog W = .ok (.string (strOfNums [hexd (x / 16)])) W := fun W => by rw [hex_hi hxb]; exact hex_run _ (by omega) W
          have hs2 : ∀ W, (Instr.slice 9 (.string ⟨#[48, 49, 50, 51, 52, 53, 54, 55, 56, 57, 97, 98, 99, 100, 101, 102]⟩) (some (.int .u8 (Int.tmod x 16))) (some (.int .u8 (IntKind.u8.wrap (Int.tmod x 16 + 1)))) none).run Try.prog W = .ok (.string (strOfNums [hexd (x % 16)])) W := fun W => by rw [hex_lo hxb]; exact hex_run _ (by omega) W
          have hz1 : (strOfNums [hexd (x / 16)]).size = 1 := rfl
          have hz2 : (strOfNums [hexd (x % 16)]).size = 1 := rfl
          have HE9 : Aside0 (S ++ ⟨#[92, 120]⟩ ++ strOfNums [hexd (x / 16)] ++ strOfNums [hexd (x % 16)] = strOfNums (34 :: (l.take (k + 1)).flatMap encX)) := ⟨by rw [HNX.out, show (⟨#[92, 120]⟩ : ByteArray) = strOfNums [92, 120] from rfl, ByteArray.append_assoc, ByteArray.append_assoc, StrR.str_append, StrR.str_append]; rfl⟩
          obtain ⟨H1, hH1⟩ : ∃ H1, H1 = strOfNums [hexd (x / 16)] := ⟨_, rfl⟩
          obtain ⟨H2, hH2⟩ : ∃ H2, H2 = strOfNums [hexd (x % 16)] := ⟨_, rfl⟩
          rw [← hH1, ← hH2] at HE9
          rw [← hH1] at hs1 hz1
          rw [← hH2] at hs2 hz2
          have hA1 : ¬ 9223372036854775807 < S.size + 2 := by omega
          have hA2 : ¬ 9223372036854775807 < S.size + 2 + 1 := by omega
          have hA3 : ¬ 9223372036854775807 < S.size + 2 + 1 + 1 := by omega
          clear hq hsz hRr hlt hx hxb hH1 hH2
          go_wp2_with fail
          go_still (by kernel_rfl)
          clear hs1 hs2 hA1 hA2 hA3
          go_wp2_with fail
          refine ⟨?_, meas _ _ _ h0 (by have := HM.out.1; omega) (by first | rfl | omega)⟩
          first
            | exact ⟨k + 1, _, rfl, rfl, ⟨HM.out.2, HE9.out, HQ.out.2.2.drew⟩⟩
            | ((repeat apply Exists.intro); exact ⟨⟨k + 1, _, rfl, rfl, ⟨HM.out.2, HE9.out, HQ.out.2.2.drew⟩⟩, rfl⟩)
        · obtain rfl : k = l.length := by omega
          have hlt' : ¬ (l.length : Int) < (l.length : Int) := by omega
          have hs9 : S.size ≤ 100000 := by omega
          have HE : Aside0 (strOfNums (typX l) = S ++ ⟨#[34]⟩) := ⟨by rw [HQ.out.2.1, List.take_length, show (⟨#[34]⟩ : ByteArray) = strOfNums [34] from rfl, StrR.str_append]; rfl⟩
          clear hq hsz hRr hlt
          go_wp2_with fail
          go_ret
          exact ⟨by rw [HE.out]; rfl, HQ.out.2.2⟩
set_option maxHeartbeats 8000000 in
theorem typ_x2 (A : Option Addr) (c : Nat) (l : List Int) (w : World) (hr : (Kd.int .u8).C w A l.length l) (hc : l.length ≤ c) (hl : l.length ≤ 240) (hin : inB l) (h92 : l[l.length - 1]? = some 92) : Typ A c l 2 (typX l) w := by
  have HR := Aside0.mk hr
  have HL := Aside0.mk (And.intro hl hc)
  have HIN := Aside0.mk hin
  have hln : decide (0 < l.length) = pl l 0 := by rw [pl_zero]; cases l <;> simp
  have HLN := Aside0.mk hln
  clear hr hl hc hin hln
  go_enter Try.func8, Try.ntmps8
  go_wp2_with fail
  go_loopw [5, 6] (fun v i wr => ∃ k : Nat, v = .bool (pl l k) ∧ i = .int .i64 k ∧ Aside0 (k ≤ l.length) ∧ w = wr) (fun _ i _ => l.length - (intOf i).toNat)
  case atStart => exact ⟨0, by first | rfl | (rw [← HLN.out]; rfl) | (rw [← HLN.out]), rfl, ⟨Nat.zero_le _⟩, rfl⟩
  case round =>
    obtain ⟨k, rfl, rfl, HK, rfl⟩ := hrel
    have hk := HK.out
    have hl := HL.out
    by_cases hlt : k < l.length
    · obtain ⟨x, hx⟩ : ∃ x, l[k]? = some x := ⟨_, List.getElem?_eq_getElem hlt⟩
      obtain ⟨ad, rfl, hcell⟩ := byteAt HR.out hx
      have HP := Aside0.mk (pl_succ hx)
      have hlt' : (k : Int) < (l.length : Int) := by omega
      have h0 : (0 : Int) ≤ (k : Int) := by omega
      have hk2 : (k : Int) ≤ 100000 := by omega
      have HM : Aside0 (k < l.length ∧ k + 1 ≤ l.length) := ⟨by omega⟩
      obtain ⟨V, hV⟩ : ∃ V, V = pl l k := ⟨_, rfl⟩
      rw [← hV] at HP
      rw [← hV]
      by_cases hgood : 32 < x ∧ x ≠ 34 ∧ x ≠ 39
      · rw [decide_eq_true hgood, Bool.and_true] at HP
        obtain ⟨g1, g2, g3⟩ := hgood
        have b2 : (x == 34) = false := beq_false_of_ne g2
        have b3 : (x == 39) = false := beq_false_of_ne g3
        clear hk hl hlt hx hV g2 g3
        go_wp2_with fail
        refine ⟨?_, meas _ _ _ h0 (by have := HM.out.1; omega) (by first | rfl | omega)⟩
        have hp := HP.out
        subst hp
        first
          | exact ⟨k + 1, rfl, rfl, ⟨HM.out.2⟩, by trivial⟩
          | ((repeat apply Exists.intro); exact ⟨⟨k + 1, rfl, rfl, ⟨HM.out.2⟩, by trivial⟩, rfl⟩)
      · rw [decide_eq_false hgood, Bool.and_false] at HP
        have HPF : Aside0 (false = pl l (k + 1)) := ⟨HP.out.symm⟩
        have hb : x ≤ 32 ∨ 32 < x ∧ x = 34 ∨ 32 < x ∧ x = 39 := by omega
        clear hk hl hlt hx hV hgood HP
        rcases hb with hb | ⟨_, rfl⟩ | ⟨_, rfl⟩
        all_goals
          go_wp2_with fail
          refine ⟨?_, meas _ _ _ h0 (by have := HM.out.1; omega) (by first | rfl | omega)⟩
          first
            | exact ⟨k + 1, by rw [← HPF.out], rfl, ⟨HM.out.2⟩, by trivial⟩
            | ((repeat apply Exists.intro); exact ⟨⟨k + 1, by rw [← HPF.out], rfl, ⟨HM.out.2⟩, by trivial⟩, rfl⟩)
    · obtain rfl : k = l.length := by omega
      have hlt' : ¬ (l.length : Int) < (l.length : Int) := by omega
      rw [pl_end]
      clear hk hlt HK HLN
      obtain ⟨ad, rfl, hc92⟩ := byteAt HR.out h92
      have hpos : 0 < l.length := by have := (List.getElem?_eq_some_iff.1 h92).1; omega
      have hl0 : ((l.length : Int) == 0) = false := beq_false_of_ne (by omega)
      have hl1 : (0 : Int) < (l.length : Int) := by omega
      have hl2 : (0 : Int) ≤ (l.length : Int) - 1 := by omega
      have hl3 : (l.length : Int) - 1 < (l.length : Int) := by omega
      have hl4 : (l.length : Int) ≤ 240 := by omega
      have hl5 : ((l.length : Int) - 1).toNat = l.length - 1 := by omega
      have hln : ¬ l = [] := fun h => by rw [h] at hpos; simp at hpos
      clear h92 hpos hl
      go_wp2_with fail
      clear hc92 hl0 hl1 hl2 hl3 hl4 hl5 hln
      have hl := HL.out
      go_loopw [10, 11] (fun s i wr => ∃ (k : Nat) (S : ByteArray), s = .string S ∧ i = .int .i64 k ∧ Aside0 (k ≤ l.length ∧ S = strOfNums (34 :: (l.take k).flatMap encX) ∧ Below w.heap.size w wr)) (fun _ i _ => l.length - (intOf i).toNat)
      case atStart => exact ⟨0, _, rfl, rfl, ⟨Nat.zero_le _, rfl, Below.refl _ _⟩⟩
      case round =>
        rename World => wr
        obtain ⟨k, S, rfl, rfl, HQ⟩ := hrel
        have hq := HQ.out.1
        have hsz : S.size ≤ 4 * k + 1 := by rw [HQ.out.2.1, strOfNums_size, List.length_cons]; have := encX_len (l.take k); rw [List.length_take, Nat.min_eq_left hq] at this; omega
        have hRr := Kd.C_below HR.out HQ.out.2.2
        by_cases hlt : k < l.length
        · obtain ⟨x, hx⟩ : ∃ x, l[k]? = some x := ⟨_, List.getElem?_eq_getElem hlt⟩
          obtain ⟨ad2, e2, hcell⟩ := byteAt hRr hx
          obtain rfl := Option.some.inj e2
          have hxb := HIN.out x (List.mem_of_getElem? hx)
          have HNX : Aside0 (strOfNums (34 :: (l.take (k + 1)).flatMap encX) = S ++ strOfNums (encX x)) := ⟨by rw [HQ.out.2.1, StrR.str_append, List.take_add_one, hx, Option.toList_some, List.flatMap_append]; simp⟩
          have hlt' : (k : Int) < (l.length : Int) := by omega
          have h0 : (0 : Int) ≤ (k : Int) := by omega
          have hk2 : (k : Int) ≤ 100000 := by omega
          have hs9 : S.size ≤ 100000 := by omega
          have HM : Aside0 (k < l.length ∧ k + 1 ≤ l.length) := ⟨by omega⟩
          have hx0 : (0 : Int) ≤ x := hxb.1
          have hx1 : x < 256 := hxb.2
          have hs1 : ∀ W, (Instr.slice 9 (.string ⟨#[48, 49, 50, 51, 52, 53, 54, 55, 56, 57, 97, 98, 99, 100, 101, 102]⟩) (some (.int .u8 (IntKind.u8.wrap (Int.tdiv x 16)))) (some (.int .u8 (IntKind.u8.wrap (IntKind.u8.wrap (Int.tdiv x 16) + 1)))) none).run Try.prog W = .ok (.string (strOfNums [hexd (x / 16)])) W := fun W => by rw [hex_hi hxb]; exact hex_run _ (by omega) W
          have hs2 : ∀ W, (Instr.slice 9 (.string ⟨#[48, 49, 50, 51, 52, 53, 54, 55, 56, 57, 97, 98, 99, 100, 101, 102]⟩) (some (.int .u8 (Int.tmod x 16))) (some (.int .u8 (IntKind.u8.wrap (Int.tmod x 16 + 1)))) none).run Try.prog W = .ok (.string (strOfNums [hexd (x % 16)])) W := fun W => by rw [hex_lo hxb]; exact hex_run _ (by omega) W
          have hz1 : (strOfNums [hexd (x / 16)]).size = 1 := rfl
          have hz2 : (strOfNums [hexd (x % 16)]).size = 1 := rfl
          have HE9 : Aside0 (S ++ ⟨#[92, 120]⟩ ++ strOfNums [hexd (x / 16)] ++ strOfNums [hexd (x % 16)] = strOfNums (34 :: (l.take (k + 1)).flatMap encX)) := ⟨by rw [HNX.out, show (⟨#[92, 120]⟩ : ByteArray) = strOfNums [92, 120] from rfl, ByteArray.append_assoc, ByteArray.append_assoc, StrR.str_append, StrR.str_append]; rfl⟩
          obtain ⟨H1, hH1⟩ : ∃ H1, H1 = strOfNums [hexd (x / 16)] := ⟨_, rfl⟩
          obtain ⟨H2, hH2⟩ : ∃ H2, H2 = strOfNums [hexd (x % 16)] := ⟨_, rfl⟩
          rw [← hH1, ← hH2] at HE9
          rw [← hH1] at hs1 hz1
          rw [← hH2] at hs2 hz2
          have hA1 : ¬ 9223372036854775807 < S.size + 2 := by omega
          have hA2 : ¬ 9223372036854775807 < S.size + 2 + 1 := by omega
          have hA3 : ¬ 9223372036854775807 < S.size + 2 + 1 + 1 := by omega
          clear hq hsz hRr hlt hx hxb hH1 hH2
          go_wp2_with fail
          go_still (by kernel_rfl)
          clear hs1 hs2 hA1 hA2 hA3
          go_wp2_with fail
          refine ⟨?_, meas _ _ _ h0 (by have := HM.out.1; omega) (by first | rfl | omega)⟩
          first
            | exact ⟨k + 1, _, rfl, rfl, ⟨HM.out.2, HE9.out, HQ.out.2.2.drew⟩⟩
            | ((repeat apply Exists.intro); exact ⟨⟨k + 1, _, rfl, rfl, ⟨HM.out.2, HE9.out, HQ.out.2.2.drew⟩⟩, rfl⟩)
        · obtain rfl : k = l.length := by omega
          have hlt' : ¬ (l.length : Int) < (l.length : Int) := by omega
          have hs9 : S.size ≤ 100000 := by omega
          have HE : Aside0 (strOfNums (typX l) = S ++ ⟨#[34]⟩) := ⟨by rw [HQ.out.2.1, List.take_length, show (⟨#[34]⟩ : ByteArray) = strOfNums [34] from rfl, StrR.str_append]; rfl⟩
          clear hq hsz hRr hlt
          go_wp2_with fail
          go_ret
          exact ⟨by rw [HE.out]; rfl, HQ.out.2.2⟩
set_option maxHeartbeats 8000000 in
theorem typ_s (A : Option Addr) (c : Nat) (l : List Int) (w : World) (hr : (Kd.int .u8).C w A l.length l) (hc : l.length ≤ c) (hl : l.length ≤ 240) (hin : inB l) (hlast : l = [] ∨ ∃ y, l[l.length - 1]? = some y ∧ y ≠ 92) : Typ A c l 2 (if sOkB l = true then typS l else typX l) w := by
  have HW0 := Aside0.mk (fun w' (hb : Below w.heap.size w w') => typ_x0 A c l w' (Kd.C_below hr hb) hc hl hin)
  obtain ⟨RR, hRR⟩ : ∃ RR, RR = (if sOkB l = true then typS l else typX l) := ⟨_, rfl⟩
  rw [← hRR]
  have HRR := Aside0.mk hRR
  clear hRR
  have HR := Aside0.mk hr
  have HL := Aside0.mk (And.intro hl hc)
  have HIN := Aside0.mk hin
  have hln : decide (0 < l.length) = pl l 0 := by rw [pl_zero]; cases l <;> simp
  have HLN := Aside0.mk hln
  clear hr hl hc hin hln
  go_enter Try.func8, Try.ntmps8
  go_wp2_with fail
  go_loopw [5, 6] (fun v i wr => ∃ k : Nat, v = .bool (pl l k) ∧ i = .int .i64 k ∧ Aside0 (k ≤ l.length) ∧ w = wr) (fun _ i _ => l.length - (intOf i).toNat)
  case atStart => exact ⟨0, by first | rfl | (rw [← HLN.out]; rfl) | (rw [← HLN.out]), rfl, ⟨Nat.zero_le _⟩, rfl⟩
  case round =>
    obtain ⟨k, rfl, rfl, HK, rfl⟩ := hrel
    have hk := HK.out
    have hl := HL.out
    by_cases hlt : k < l.length
    · obtain ⟨x, hx⟩ : ∃ x, l[k]? = some x := ⟨_, List.getElem?_eq_getElem hlt⟩
      obtain ⟨ad, rfl, hcell⟩ := byteAt HR.out hx
      have HP := Aside0.mk (pl_succ hx)
      have hlt' : (k : Int) < (l.length : Int) := by omega
      have h0 : (0 : Int) ≤ (k : Int) := by omega
      have hk2 : (k : Int) ≤ 100000 := by omega
      have HM : Aside0 (k < l.length ∧ k + 1 ≤ l.length) := ⟨by omega⟩
      obtain ⟨V, hV⟩ : ∃ V, V = pl l k := ⟨_, rfl⟩
      rw [← hV] at HP
      rw [← hV]
      by_cases hgood : 32 < x ∧ x ≠ 34 ∧ x ≠ 39
      · rw [decide_eq_true hgood, Bool.and_true] at HP
        obtain ⟨g1, g2, g3⟩ := hgood
        have b2 : (x == 34) = false := beq_false_of_ne g2
        have b3 : (x == 39) = false := beq_false_of_ne g3
        clear hk hl hlt hx hV g2 g3
        go_wp2_with fail
        refine ⟨?_, meas _ _ _ h0 (by have := HM.out.1; omega) (by first | rfl | omega)⟩
        have hp := HP.out
        subst hp
        first
          | exact ⟨k + 1, rfl, rfl, ⟨HM.out.2⟩, by trivial⟩
          | ((repeat apply Exists.intro); exact ⟨⟨k + 1, rfl, rfl, ⟨HM.out.2⟩, by trivial⟩, rfl⟩)
      · rw [decide_eq_false hgood, Bool.and_false] at HP
        have HPF : Aside0 (false = pl l (k + 1)) := ⟨HP.out.symm⟩
        have hb : x ≤ 32 ∨ 32 < x ∧ x = 34 ∨ 32 < x ∧ x = 39 := by omega
        clear hk hl hlt hx hV hgood HP
        rcases hb with hb | ⟨_, rfl⟩ | ⟨_, rfl⟩
        all_goals
          go_wp2_with fail
          refine ⟨?_, meas _ _ _ h0 (by have := HM.out.1; omega) (by first | rfl | omega)⟩
          first
            | exact ⟨k + 1, by rw [← HPF.out], rfl, ⟨HM.out.2⟩, by trivial⟩
            | ((repeat apply Exists.intro); exact ⟨⟨k + 1, by rw [← HPF.out], rfl, ⟨HM.out.2⟩, by trivial⟩, rfl⟩)
    · obtain rfl : k = l.length := by omega
      have hlt' : ¬ (l.length : Int) < (l.length : Int) := by omega
      rw [pl_end]
      clear hk hlt HK HLN
      have HLA := Aside0.mk hlast
      have hent : (l = [] ∧ (l.length : Int) = 0) ∨ (∃ ad y, A = some ad ∧ w.cell? (ad.add (l.length - 1)) = some (.int .u8 y) ∧ y ≠ 92 ∧ 0 < l.length) := by
        rcases hlast with rfl | ⟨y, hy, hy2⟩
        · exact .inl ⟨rfl, rfl⟩
        · obtain ⟨ad, e, hc⟩ := byteAt HR.out hy
          exact .inr ⟨ad, y, e, hc, hy2, by have := (List.getElem?_eq_some_iff.1 hy).1; omega⟩
      clear hlast
      rcases hent with ⟨hnil, hlz⟩ | ⟨ad, y, rfl, hcy, hy, hpos⟩
      · subst hnil
        have HE : Aside0 (RR = typS []) := ⟨HRR.out⟩
        clear hlz hl
        go_wp2_with fail
        go_loopw [8, 9] (fun s i wr => s = .string ⟨#[39]⟩ ∧ i = .int .i64 0 ∧ w = wr) (fun _ i _ => 0)
        case atStart => exact ⟨rfl, rfl, rfl⟩
        case round =>
          obtain ⟨rfl, rfl, rfl⟩ := hrel
          go_wp2_with fail
          go_ret
          exact ⟨by rw [HE.out]; rfl, Below.refl _ _⟩
      · have hl0 : ((l.length : Int) == 0) = false := beq_false_of_ne (by omega)
        have hl1 : (0 : Int) < (l.length : Int) := by omega
        have hl2 : (0 : Int) ≤ (l.length : Int) - 1 := by omega
        have hl3 : (l.length : Int) - 1 < (l.length : Int) := by omega
        have hl4 : (l.length : Int) ≤ 240 := by omega
        have hl5 : ((l.length : Int) - 1).toNat = l.length - 1 := by omega
        have hln : ¬ l = [] := fun h => by rw [h] at hpos; simp at hpos
        have hyb : (y != 92) = true := by simpa using hy
        clear hpos hl hy
        go_wp2_with fail
        clear hcy hyb hl5 hl2 hl3
        go_loopw [8, 9] (fun s i wr => ∃ (k : Nat) (S : ByteArray), s = .string S ∧ i = .int .i64 k ∧ Aside0 (k ≤ l.length ∧ S = strOfNums (39 :: (l.take k).flatMap encS) ∧ sOkB l = sOkB (l.drop k) ∧ Below w.heap.size w wr)) (fun _ i _ => l.length - (intOf i).toNat)
        case atStart => exact ⟨0, _, rfl, rfl, ⟨Nat.zero_le _, rfl, rfl, Below.refl _ _⟩⟩
        case round =>
          rename World => wr
          obtain ⟨k, S, rfl, rfl, HQ⟩ := hrel
          have hq := HQ.out.1
          have hsz : S.size ≤ 4 * k + 1 := by rw [HQ.out.2.1, strOfNums_size, List.length_cons]; have := encS_len (l.take k); rw [List.length_take, Nat.min_eq_left hq] at this; omega
          have hRr := Kd.C_below HR.out HQ.out.2.2.2
          have hl := HL.out
          by_cases hlt : k < l.length
          · obtain ⟨x, hx⟩ : ∃ x, l[k]? = some x := ⟨_, List.getElem?_eq_getElem hlt⟩
            obtain ⟨ad2, e2, hcell⟩ := byteAt hRr hx
            obtain rfl := Option.some.inj e2
            have hdr : l.drop k = x :: l.drop (k + 1) := by obtain ⟨hk', rfl⟩ := List.getElem?_eq_some_iff.1 hx; exact List.drop_eq_getElem_cons hk'
            have HNX : Aside0 (strOfNums (39 :: (l.take (k + 1)).flatMap encS) = S ++ strOfNums (encS x)) := ⟨by rw [HQ.out.2.1, StrR.str_append, List.take_add_one, hx, Option.toList_some, List.flatMap_append]; simp⟩
            have hlt' : (k : Int) < (l.length : Int) := by omega
            have h0 : (0 : Int) ≤ (k : Int) := by omega
            have hk2 : (k : Int) ≤ 100000 := by omega
            have hs9 : S.size ≤ 100000 := by omega
            have HM : Aside0 (k < l.length ∧ k + 1 ≤ l.length) := ⟨by omega⟩
            have HSD : Aside0 (sOkB l = sOkB (x :: l.drop (k + 1))) := ⟨by rw [← hdr]; exact HQ.out.2.2.1⟩
            have HWX := Aside0.mk (HW0.out wr HQ.out.2.2.2)
            by_cases h10 : x = 10
            · subst h10
              have HE : Aside0 (RR = typX l) := ⟨by rw [HRR.out, if_neg]; rw [HSD.out, sOkB.eq_def]; simp⟩
              clear hq hsz hRr hl hlt hx hdr
              go_wp2_with (go_at_call 8; refine Calls.mono HWX.out ?_; rintro e w3 ⟨rfl, hb3⟩; have HB3 := Aside0.mk hb3; clear hb3)
              go_ret
              exact ⟨by rw [HE.out]; rfl, below_next HQ.out.2.2.2 HB3.out⟩
            · have hcv : ∀ (cc : Nat), (convert 26 9 (.slice (some (ad.add k)) 1 cc)).run Try.prog wr = .ok (.string (strOfNums [x])) wr := fun cc => one_str hRr hx
              have hone : (strOfNums [x]).size = 1 := rfl
              have hcc := HL.out.2
              have hk3 : (k : Int) + 1 ≤ (l.length : Int) := by omega
              have hk4 : (k : Int) + 1 ≤ (c : Int) := by omega
              have hk5 : (k : Int) ≤ (k : Int) + 1 := by omega
              have hk6 : ¬ c = k := by omega
              have hk7 : (0 : Int) ≤ (k : Int) + 1 := by omega
              have b10 : (x == 10) = false := beq_false_of_ne h10
              by_cases h92 : x = 92
              · have hk1 : k + 1 < l.length := by
                  rcases HLA.out with h | ⟨y', hy', hy2⟩
                  · exact absurd h hln
                  · refine Decidable.not_not.1 fun hn => hy2 ?_
                    rw [show l.length - 1 = k by omega, hx] at hy'
                    rw [← Option.some.inj hy', h92]
                obtain ⟨z, hz⟩ : ∃ z, l[k + 1]? = some z := ⟨_, List.getElem?_eq_getElem hk1⟩
                obtain ⟨ad3, e3, hcz⟩ := byteAt hRr hz
                obtain rfl := Option.some.inj e3
                have hdr2 : l.drop (k + 1) = z :: l.drop (k + 1 + 1) := by obtain ⟨hk', rfl⟩ := List.getElem?_eq_some_iff.1 hz; exact List.drop_eq_getElem_cons hk'
                have hk8 : (k : Int) + 1 < (l.length : Int) := by omega
                have hcz2 : wr.cell? ⟨ad.block, ad.off + (k + 1), none⟩ = some (.int .u8 z) := by simpa [Addr.add] using hcz
                have hk9 : (k : Int) + 1 ≤ 100000 := by omega
                clear hcz
                subst h92
                by_cases hz39 : z = 39
                · subst hz39
                  have HE : Aside0 (RR = typX l) := ⟨by rw [HRR.out, if_neg]; rw [HSD.out, hdr2, sOkB.eq_def]; simp⟩
                  clear hq hsz hRr hl hlt hx hdr hcc hk1 hz hdr2 hcv hone
                  go_wp2_with (go_at_call 8; refine Calls.mono HWX.out ?_; rintro e w3 ⟨rfl, hb3⟩; have HB3 := Aside0.mk hb3; clear hb3)
                  go_ret
                  exact ⟨by rw [HE.out]; rfl, below_next HQ.out.2.2.2 HB3.out⟩
                · have HSN : Aside0 (sOkB l = sOkB (l.drop (k + 1))) := ⟨by rw [HSD.out, hdr2]; conv => lhs; rw [sOkB.eq_def]; simp [hz39]⟩
                  have HE9 : Aside0 (S ++ strOfNums [92] = strOfNums (39 :: (l.take (k + 1)).flatMap encS)) := ⟨by rw [HNX.out]; rfl⟩
                  obtain ⟨Sx, hSx⟩ : ∃ Sx, Sx = strOfNums [92] := ⟨_, rfl⟩
                  rw [← hSx] at hcv hone HE9
                  have bz : (z == 39) = false := beq_false_of_ne hz39
                  clear hq hsz hRr hl hlt hx hdr hcc hk1 hz hdr2 hSx hz39
                  go_wp2_with fail
                  refine ⟨?_, meas _ _ _ h0 (by have := HM.out.1; omega) (by first | rfl | omega)⟩
                  first
                    | exact ⟨k + 1, _, rfl, rfl, ⟨HM.out.2, HE9.out, HSN.out, HQ.out.2.2.2⟩⟩
                    | ((repeat apply Exists.intro); exact ⟨⟨k + 1, _, rfl, rfl, ⟨HM.out.2, HE9.out, HSN.out, HQ.out.2.2.2⟩⟩, rfl⟩)
              · have HSN : Aside0 (sOkB l = sOkB (l.drop (k + 1))) := ⟨by rw [HSD.out]; conv => lhs; rw [sOkB.eq_def]; simp [h10, h92]⟩
                have b92 : (x == 92) = false := beq_false_of_ne h92
                by_cases h39 : x = 39
                · subst h39
                  have HE9 : Aside0 (S ++ ⟨#[92]⟩ ++ strOfNums [39] = strOfNums (39 :: (l.take (k + 1)).flatMap encS)) := ⟨by rw [HNX.out, show (⟨#[92]⟩ : ByteArray) = strOfNums [92] from rfl, ByteArray.append_assoc, StrR.str_append]; rfl⟩
                  obtain ⟨Sx, hSx⟩ : ∃ Sx, Sx = strOfNums [39] := ⟨_, rfl⟩
                  rw [← hSx] at hcv hone HE9
                  clear hq hsz hRr hl hlt hx hdr hcc hSx h10 h92 b10 b92
                  go_wp2_with fail
                  refine ⟨?_, meas _ _ _ h0 (by have := HM.out.1; omega) (by first | rfl | omega)⟩
                  first
                    | exact ⟨k + 1, _, rfl, rfl, ⟨HM.out.2, HE9.out, HSN.out, HQ.out.2.2.2⟩⟩
                    | ((repeat apply Exists.intro); exact ⟨⟨k + 1, _, rfl, rfl, ⟨HM.out.2, HE9.out, HSN.out, HQ.out.2.2.2⟩⟩, rfl⟩)
                · have HE9 : Aside0 (S ++ strOfNums [x] = strOfNums (39 :: (l.take (k + 1)).flatMap encS)) := ⟨by rw [HNX.out]; unfold encS; rw [if_neg h39]⟩
                  obtain ⟨Sx, hSx⟩ : ∃ Sx, Sx = strOfNums [x] := ⟨_, rfl⟩
                  rw [← hSx] at hcv hone HE9
                  have b39 : (x == 39) = false := beq_false_of_ne h39
                  clear hq hsz hRr hl hlt hx hdr hcc hSx h10 h92 h39
                  go_wp2_with fail
                  refine ⟨?_, meas _ _ _ h0 (by have := HM.out.1; omega) (by first | rfl | omega)⟩
                  first
                    | exact ⟨k + 1, _, rfl, rfl, ⟨HM.out.2, HE9.out, HSN.out, HQ.out.2.2.2⟩⟩
                    | ((repeat apply Exists.intro); exact ⟨⟨k + 1, _, rfl, rfl, ⟨HM.out.2, HE9.out, HSN.out, HQ.out.2.2.2⟩⟩, rfl⟩)
          · obtain rfl : k = l.length := by omega
            have hlt' : ¬ (l.length : Int) < (l.length : Int) := by omega
            have hs9 : S.size ≤ 100000 := by omega
            have HE : Aside0 (strOfNums RR = S ++ ⟨#[39]⟩) := ⟨by rw [HRR.out, HQ.out.2.2.1, List.drop_length, if_pos (by rfl), HQ.out.2.1, List.take_length, show (⟨#[39]⟩ : ByteArray) = strOfNums [39] from rfl, StrR.str_append]; rfl⟩
            clear hq hsz hRr hl hlt
            go_wp2_with fail
            go_ret
            exact ⟨by rw [HE.out]; rfl, HQ.out.2.2.2⟩
theorem typed.calls (A : Option Addr) (c : Nat) (l : List Int) (w : World) (hr : (Kd.int .u8).C w A l.length l) (hc : l.length ≤ c) (hl : l.length ≤ 240) (hin : inB l) (style : Int) (hs : 0 ≤ style ∧ style < 4) : Typ A c l style (typL l style) w := by
  have hst : style = 0 ∨ style = 1 ∨ style = 2 ∨ style = 3 := by omega
  rcases hst with rfl | rfl | rfl | rfl
  · have e : typL l 0 = typX l := by unfold typL; rw [if_neg (by simp), if_neg (by simp), if_neg (by decide)]
    rw [e]
    exact typ_x0 A c l w hr hc hl hin
  · have e : typL l 1 = typD l := by unfold typL; rw [if_neg (by simp), if_neg (by simp), if_pos rfl]
    rw [e]
    exact typ_d A c l w hr hc hl hin
  · by_cases h : l = [] ∨ l.getLast? ≠ some 92
    · have e : typL l 2 = if sOkB l = true then typS l else typX l := by unfold typL; rw [if_neg (by simp), if_pos ⟨rfl, h⟩]
      rw [e]
      refine typ_s A c l w hr hc hl hin ?_
      rcases h with h | h
      · exact .inl h
      · by_cases hn : l = []
        · exact .inl hn
        · have h0 : l.length - 1 < l.length := by have := List.length_pos_iff.2 hn; omega
          refine .inr ⟨l[l.length - 1], List.getElem?_eq_getElem h0, fun e => h ?_⟩
          rw [List.getLast?_eq_getElem?, List.getElem?_eq_getElem h0, e]
    · have e : typL l 2 = typX l := by unfold typL; rw [if_neg (by simp), if_neg (fun hh => h hh.2), if_neg (by decide)]
      rw [e]
      refine typ_x2 A c l w hr hc hl hin ?_
      have h2 : l.getLast? = some 92 := Decidable.not_not.1 fun hn => h (.inr hn)
      rwa [List.getLast?_eq_getElem?] at h2
  · by_cases h : plainB l = true
    · have e : typL l 3 = l := by unfold typL; rw [if_pos ⟨rfl, h⟩]
      rw [e]
      exact typ_p A c l w hr hc hl hin h
    · have e : typL l 3 = typX l := by unfold typL; rw [if_neg (fun hh => h hh.2), if_neg (by simp), if_neg (by decide)]
      rw [e]
      exact typ_x3 A c l w hr hc hl hin (Bool.eq_false_iff.2 h)
end Go.Proofs.Ytfdkcnbkoagmiaa.TypW
end

section
namespace Go.Proofs.Ytfdkcnbkoagmiaa.ParM
open Go Go.RowKit Go.Proofs.YtfdkcnbkoagmiaaW.PrintWords Go.Proofs.YtfdkcnbkoagmiaaW.PrintLast Go.Proofs.YtfdkcnbkoagmiaaW.PrintMore Go.Proofs.Ytfdkcnbkoagmiaa.RowU Go.Proofs.Ytfdkcnbkoagmiaa.ArS Go.Proofs.Ytfdkcnbkoagmiaa.ArM Go.Proofs.Ytfdkcnbkoagmiaa.GenM Go.Proofs.Ytfdkcnbkoagmiaa.GenN Go.Proofs.Ytfdkcnbkoagmiaa.OwnL
open Go.Proofs.Ytfdkcnbkoagmiaa.ParS (St PS)
set_option linter.unusedVariables false
set_option maxRecDepth 100000
def fnN : St → Nat
  | .begin => 32
  | .digit => 52
  | .minus => 75
  | .minusR => 93
  | .numF => 74
  | .dollar => 92
  | .content => 90
  | .contR => 91
  | .contF => 97
  | .line => 43
abbrev ptr (g : Nat) : Value := .pointer (some ⟨g, 0, none⟩)
def fnV (g : Nat) (s : St) : Value := .func (.func (fnN s)) #[ptr g] #[]
def pc (g : Nat) (p : PS) (va vc vo : Value) : Array Value :=
  #[fnV g p.st, .int .i64 p.broken, .int .i64 p.held, .int .i64 p.head, .int .i64 p.num, .int .i64 p.digits, .int .i64 p.most, .int .i64 p.want, va, vc, .int .i64 p.left, vo]
def live : St → Bool
  | .content => true
  | .contR => true
  | .contF => true
  | .line => true
  | _ => false
def CuR (b : Bool) (w : World) (v : Value) (l : List Int) (O : Nat → Nat) : Prop := if b then BtR w v l O else ∀ a, O a = 0
structure PM (w : World) (g : Nat) (p : PS) (va vc vo : Value) (Oa Oc Oo : Nat → Nat) : Prop where
  hd : w.heap[g]? = some (.cells (pc g p va vc vo) 84 (0, 0))
  ar : RwR w va p.args Oa
  cu : CuR (live p.st) w vc p.cur Oc
  ou : CmR w vo p.out Oo
  one : ∀ a, (if a = g then 1 else 0) + Oa a + Oc a + Oo a ≤ 1
def PO (g : Nat) (Oa Oc Oo : Nat → Nat) (a : Nat) : Nat := (if a = g then 1 else 0) + Oa a + Oc a + Oo a
theorem CuR.upd {b : Bool} {w w' : World} {v : Value} {l : List Int} {O : Nat → Nat} {S : Nat → Prop} (h : CuR b w v l O) (hu : Upd S w w') (hS : ∀ a, O a ≠ 0 → ¬ S a) : CuR b w' v l O := by
  cases b with
  | true => exact BtR.fit.upd (R := BtR) h hu hS
  | false => exact h
theorem CuR.lt {b : Bool} {w : World} {v : Value} {l : List Int} {O : Nat → Nat} {a : Nat} (h : CuR b w v l O) (ha : O a ≠ 0) : a < w.heap.size := by
  unfold CuR at h
  split at h
  · exact BtR.fit.lt h ha
  · exact absurd (h a) ha
theorem PM.lt {w : World} {g : Nat} {p : PS} {va vc vo : Value} {Oa Oc Oo : Nat → Nat} (h : PM w g p va vc vo Oa Oc Oo) {a : Nat} (ha : PO g Oa Oc Oo a ≠ 0) : a < w.heap.size := by
  unfold PO at ha
  by_cases h1 : a = g
  · subst h1; exact cell_lt h.hd
  · rw [if_neg h1] at ha
    by_cases h2 : Oa a = 0
    · by_cases h3 : Oc a = 0
      · exact CmR.fit.lt h.ou (by omega)
      · exact h.cu.lt h3
    · exact RwR.fit.lt h.ar h2
theorem PM.upd {w w' : World} {g : Nat} {p : PS} {va vc vo : Value} {Oa Oc Oo : Nat → Nat} {S : Nat → Prop} (h : PM w g p va vc vo Oa Oc Oo) (hu : Upd S w w') (hS : ∀ a, PO g Oa Oc Oo a ≠ 0 → ¬ S a) : PM w' g p va vc vo Oa Oc Oo :=
  ⟨blk_upd h.hd hu (hS g (by unfold PO; rw [if_pos rfl]; omega)), RwR.fit.upd h.ar hu (fun a ha => hS a (by unfold PO; omega)), h.cu.upd hu (fun a ha => hS a (by unfold PO; omega)), CmR.fit.upd h.ou hu (fun a ha => hS a (by unfold PO; omega)), h.one⟩
theorem PM.stored {w w' : World} {g : Nat} {p p' : PS} {va vc vo : Value} {Oa Oc Oo : Nat → Nat} (h : PM w g p va vc vo Oa Oc Oo) (hu : Upd (fun a => a = g) w w') (hd : w'.heap[g]? = some (.cells (pc g p' va vc vo) 84 (0, 0))) (ha : p'.args = p.args) (hc : p'.cur = p.cur) (ho : p'.out = p.out) (hl : live p'.st = live p.st) : PM w' g p' va vc vo Oa Oc Oo := by
  have hg := h.one
  have hz : ∀ a, Oa a + Oc a + Oo a ≠ 0 → ¬ a = g := fun a ha e => by have := hg a; rw [if_pos e] at this; omega
  exact ⟨hd, by rw [ha]; exact RwR.fit.upd h.ar hu (fun a h0 => hz a (by omega)), by rw [hc, hl]; exact h.cu.upd hu (fun a h0 => hz a (by omega)), by rw [ho]; exact CmR.fit.upd h.ou hu (fun a h0 => hz a (by omega)), h.one⟩
theorem PM.stored0 {w w' : World} {g : Nat} {p p' : PS} {va vc vc' vo : Value} {Oa Oc Oo : Nat → Nat} (h : PM w g p va vc vo Oa Oc Oo) (hu : Upd (fun a => a = g) w w') (hd : w'.heap[g]? = some (.cells (pc g p' va vc' vo) 84 (0, 0))) (ha : p'.args = p.args) (ho : p'.out = p.out) (hl : live p'.st = false) : PM w' g p' va vc' vo Oa (fun _ => 0) Oo := by
  have hg := h.one
  have hz : ∀ a, Oa a + Oo a ≠ 0 → ¬ a = g := fun a ha e => by have := hg a; rw [if_pos e] at this; omega
  exact ⟨hd, by rw [ha]; exact RwR.fit.upd h.ar hu (fun a h0 => hz a (by omega)), by rw [hl]; exact fun _ => rfl, by rw [ho]; exact CmR.fit.upd h.ou hu (fun a h0 => hz a (by omega)), fun a => by have := hg a; show (if a = g then 1 else 0) + Oa a + 0 + Oo a ≤ 1; omega⟩
theorem up1 {g : Nat} {w w' : World} (h : Upd (fun a => a = g) w w') (j : Nat) (v : Value) : Upd (fun a => a = g) w (w'.setCell ⟨g, j, none⟩ v) := h.put (.inl rfl) j v
def PQ (w w' : World) (O : Nat → Nat) (g : Nat) (p' : PS) : Prop := ∃ va vc vo Oa Oc Oo, PM w' g p' va vc vo Oa Oc Oo ∧ (∀ a, a < w.heap.size → PO g Oa Oc Oo a ≤ O a) ∧ Upd (fun a => O a ≠ 0) w w'
theorem PQ.of {w w' : World} {g : Nat} {p' : PS} {va' vc' vo' : Value} {Oa Oc Oo Oa' Oc' Oo' : Nat → Nat} (h : PM w' g p' va' vc' vo' Oa' Oc' Oo') (hu : Upd (fun a => a = g) w w') (hO : ∀ a, PO g Oa' Oc' Oo' a ≤ PO g Oa Oc Oo a) : PQ w w' (PO g Oa Oc Oo) g p' :=
  ⟨_, _, _, _, _, _, h, fun a _ => hO a, hu.mono (fun a ha => by subst ha; unfold PO; rw [if_pos rfl]; omega)⟩
theorem PQ.trans {w w1 w2 : World} {O : Nat → Nat} {g : Nat} {p2 : PS} {va vc vo : Value} {Oa Oc Oo : Nat → Nat} {p1 : PS} (h1 : PM w1 g p1 va vc vo Oa Oc Oo) (hO : ∀ a, a < w.heap.size → PO g Oa Oc Oo a ≤ O a) (hu : Upd (fun a => O a ≠ 0) w w1) (h2 : PQ w1 w2 (PO g Oa Oc Oo) g p2) : PQ w w2 O g p2 := by
  obtain ⟨a1, a2, a3, a4, a5, a6, b1, b2, b3⟩ := h2
  have hs := hu.size
  refine ⟨a1, a2, a3, a4, a5, a6, b1, fun a ha => Nat.le_trans (b2 a (by omega)) (hO a ha), hu.trans2 b3 (fun a ha => ?_)⟩
  by_cases hl : a < w.heap.size
  · have := hO a hl
    exact .inl (by omega)
  · exact .inr (by omega)
section
variable {w : World} {g : Nat} {p : PS} {va vc vo : Value} {Oa Oc Oo : Nat → Nat}
theorem hmf_ : ∀ (fn : Fn) (first cap : Array Value) (w : World), (Instr.makeFunc fn first cap).run Try.prog w = .ok (.func fn first cap) w := fun _ _ _ _ => rfl
set_option maxHeartbeats 8000000 in
theorem number.calls (h : PM w g p va vc vo Oa Oc Oo) (hd m : Int) :
    Calls Try.prog 42 #[ptr g, .int .i64 hd, .int .i64 m] w fun e w' => e = .returned (.tuple #[]) ∧ PM w' g (ParS.number p hd m) va vc vo Oa (fun _ => 0) Oo ∧ Upd (fun a => a = g) w w' := by
  have H := Aside0.mk h
  have h0 := h.hd
  have ex0 := (blk_cell h0 3).trans (show _ = some (.int .i64 p.head : Value) from rfl)
  have ef0 := blk_frozen h0 3
  have eh0 := blk_set h0 3 (.int .i64 hd)
  have ex1 := (blk_cell eh0 4).trans (show _ = some (.int .i64 p.num : Value) from rfl)
  have ef1 := blk_frozen eh0 4
  have eh1 := blk_set eh0 4 (.int .i64 0)
  have ex2 := (blk_cell eh1 5).trans (show _ = some (.int .i64 p.digits : Value) from rfl)
  have ef2 := blk_frozen eh1 5
  have eh2 := blk_set eh1 5 (.int .i64 0)
  have ex3 := (blk_cell eh2 6).trans (show _ = some (.int .i64 p.most : Value) from rfl)
  have ef3 := blk_frozen eh2 6
  have eh3 := blk_set eh2 6 (.int .i64 m)
  have ex4 := (blk_cell eh3 0).trans (show _ = some (fnV g p.st : Value) from rfl)
  have ef4 := blk_frozen eh3 0
  have eh4 := blk_set eh3 0 (fnV g .digit)
  have EZ := Aside0.mk eh4
  clear eh0 eh1 eh2 eh3 eh4
  have hmf := hmf_
  clear h h0
  go_enter Try.func42, Try.ntmps42
  go_wp2_with fail
  go_end0
  refine ⟨rfl, H.out.stored0 ?_ EZ.out rfl rfl rfl, ?_⟩ <;> ((repeat (refine up1 ?_ _ _)); exact Upd.refl _ _)
theorem unless.calls (b : Bool) (e0 : Int) (w : World) : Calls Try.prog 53 #[.bool b, .int .i64 e0] w fun e w' => e = .returned (.int .i64 (if b then 0 else e0)) ∧ w' = w := by
  cases b <;> (go_enter Try.func53, Try.ntmps53; go_wp2_with fail; go_ret; exact ⟨rfl, rfl⟩)
theorem numErr.calls (h : PM w g p va vc vo Oa Oc Oo) : Calls Try.prog 73 #[ptr g] w fun e w' => e = .returned (.int .i64 (ParS.numErr p)) ∧ w' = w := by
  have h0 := h.hd
  have ex0 := (blk_cell h0 3).trans (show _ = some (.int .i64 p.head : Value) from rfl)
  clear h h0
  unfold ParS.numErr
  by_cases hz : p.head = 0
  · rw [if_pos hz]
    go_enter Try.func73, Try.ntmps73
    go_wp2_with fail
    go_ret
    exact ⟨rfl, rfl⟩
  · rw [if_neg hz]
    go_enter Try.func73, Try.ntmps73
    go_wp2_with fail
    go_ret
    exact ⟨rfl, rfl⟩
def StepC (s : St) : Prop := ∀ {w : World} {g : Nat} {p : PS} {va vc vo : Value} {Oa Oc Oo : Nat → Nat} (c : Int), PM w g p va vc vo Oa Oc Oo → ParS.Inv p → p.st = s → 0 ≤ c → c < 256 → p.out.length ≤ 90000000 →
  Calls Try.prog (fnN s) #[ptr g, .int .u8 c] w fun e w' => e = .returned (.int .i64 (ParS.step p c).2) ∧ PQ w w' (PO g Oa Oc Oo) g (ParS.step p c).1
set_option maxHeartbeats 8000000 in
theorem minus.calls : StepC .minus := by
  intro w g p va vc vo Oa Oc Oo c h hi hs h0 h1 hol
  have H := Aside0.mk h
  have hd0 := h.hd
  have HS := Aside0.mk hs
  rw [show pc g p va vc vo = (pc g p va vc vo) from rfl] at hd0
  have ex0 := (blk_cell hd0 0).trans (show _ = some (fnV g p.st : Value) from rfl)
  have ef0 := blk_frozen hd0 0
  have eh0 := blk_set hd0 0 (fnV g .minusR)
  have EZ := Aside0.mk eh0
  clear eh0
  have hmf := hmf_
  have HU := Aside0.mk unless.calls
  have HE : Aside0 ((ParS.step p c) = ({ p with st := .minusR }, if c = 49 then 0 else 80)) := ⟨by unfold ParS.step; rw [hs]⟩
  clear h hd0 hi hs
  show Calls Try.prog 75 _ _ _
  by_cases hc : c = 49
  · subst hc
    go_enter Try.func75, Try.ntmps75
    go_wp2_with (go_at_call 53; refine (HU.out _ _ _).mono ?_; rintro e w2 ⟨rfl, rfl⟩)
    go_ret
    rw [HE.out]
    exact ⟨rfl, PQ.of (H.out.stored0 (p' := { p with st := .minusR }) (by ((repeat (refine up1 ?_ _ _)); exact Upd.refl _ _)) EZ.out rfl rfl rfl) (by ((repeat (refine up1 ?_ _ _)); exact Upd.refl _ _)) (fun a => by unfold PO; dsimp only; omega)⟩
  · go_enter Try.func75, Try.ntmps75
    go_wp2_with (go_at_call 53; refine (HU.out _ _ _).mono ?_; rintro e w2 ⟨rfl, rfl⟩)
    go_ret
    rw [HE.out, if_neg hc]
    exact ⟨rfl, PQ.of (H.out.stored0 (p' := { p with st := .minusR }) (by ((repeat (refine up1 ?_ _ _)); exact Upd.refl _ _)) EZ.out rfl rfl rfl) (by ((repeat (refine up1 ?_ _ _)); exact Upd.refl _ _)) (fun a => by unfold PO; dsimp only; omega)⟩
set_option maxHeartbeats 8000000 in
theorem minusR.calls : StepC .minusR := by
  intro w g p va vc vo Oa Oc Oo c h hi hs h0 h1 hol
  have H := Aside0.mk h
  have hd0 := h.hd
  have HS := Aside0.mk hs
  rw [show pc g p va vc vo = (pc g p va vc vo) from rfl] at hd0
  have ex0 := (blk_cell hd0 0).trans (show _ = some (fnV g p.st : Value) from rfl)
  have ef0 := blk_frozen hd0 0
  have eh0 := blk_set hd0 0 (fnV g .numF)
  have EZ := Aside0.mk eh0
  clear eh0
  have hmf := hmf_
  have HU := Aside0.mk unless.calls
  have HE : Aside0 ((ParS.step p c) = ({ p with st := .numF }, if c = 13 then 0 else 80)) := ⟨by unfold ParS.step; rw [hs]⟩
  clear h hd0 hi hs
  show Calls Try.prog 93 _ _ _
  by_cases hc : c = 13
  · subst hc
    go_enter Try.func93, Try.ntmps93
    go_wp2_with (go_at_call 53; refine (HU.out _ _ _).mono ?_; rintro e w2 ⟨rfl, rfl⟩)
    go_ret
    rw [HE.out]
    exact ⟨rfl, PQ.of (H.out.stored0 (p' := { p with st := .numF }) (by ((repeat (refine up1 ?_ _ _)); exact Upd.refl _ _)) EZ.out rfl rfl rfl) (by ((repeat (refine up1 ?_ _ _)); exact Upd.refl _ _)) (fun a => by unfold PO; dsimp only; omega)⟩
  · go_enter Try.func93, Try.ntmps93
    go_wp2_with (go_at_call 53; refine (HU.out _ _ _).mono ?_; rintro e w2 ⟨rfl, rfl⟩)
    go_ret
    rw [HE.out, if_neg hc]
    exact ⟨rfl, PQ.of (H.out.stored0 (p' := { p with st := .numF }) (by ((repeat (refine up1 ?_ _ _)); exact Upd.refl _ _)) EZ.out rfl rfl rfl) (by ((repeat (refine up1 ?_ _ _)); exact Upd.refl _ _)) (fun a => by unfold PO; dsimp only; omega)⟩
set_option maxHeartbeats 8000000 in
theorem contR.calls : StepC .contR := by
  intro w g p va vc vo Oa Oc Oo c h hi hs h0 h1 hol
  have H := Aside0.mk h
  have hd0 := h.hd
  have HS := Aside0.mk hs
  rw [show pc g p va vc vo = (pc g p va vc vo) from rfl] at hd0
  have ex0 := (blk_cell hd0 0).trans (show _ = some (fnV g p.st : Value) from rfl)
  have ef0 := blk_frozen hd0 0
  have eh0 := blk_set hd0 0 (fnV g .contF)
  have EZ := Aside0.mk eh0
  clear eh0
  have hmf := hmf_
  have HU := Aside0.mk unless.calls
  have HE : Aside0 ((ParS.step p c) = ({ p with st := .contF }, if c = 13 then 0 else 82)) := ⟨by unfold ParS.step; rw [hs]⟩
  clear h hd0 hi hs
  show Calls Try.prog 91 _ _ _
  by_cases hc : c = 13
  · subst hc
    go_enter Try.func91, Try.ntmps91
    go_wp2_with (go_at_call 53; refine (HU.out _ _ _).mono ?_; rintro e w2 ⟨rfl, rfl⟩)
    go_ret
    rw [HE.out]
    exact ⟨rfl, PQ.of (H.out.stored (p' := { p with st := .contF }) (by ((repeat (refine up1 ?_ _ _)); exact Upd.refl _ _)) EZ.out rfl rfl rfl (by rw [HS.out]; rfl)) (by ((repeat (refine up1 ?_ _ _)); exact Upd.refl _ _)) (fun a => Nat.le_refl _)⟩
  · go_enter Try.func91, Try.ntmps91
    go_wp2_with (go_at_call 53; refine (HU.out _ _ _).mono ?_; rintro e w2 ⟨rfl, rfl⟩)
    go_ret
    rw [HE.out, if_neg hc]
    exact ⟨rfl, PQ.of (H.out.stored (p' := { p with st := .contF }) (by ((repeat (refine up1 ?_ _ _)); exact Upd.refl _ _)) EZ.out rfl rfl rfl (by rw [HS.out]; rfl)) (by ((repeat (refine up1 ?_ _ _)); exact Upd.refl _ _)) (fun a => Nat.le_refl _)⟩
end
end Go.Proofs.Ytfdkcnbkoagmiaa.ParM
end

section
namespace Go.Proofs.Ytfdkcnbkoagmiaa.ParA
open Go Go.RowKit Go.Proofs.YtfdkcnbkoagmiaaW.PrintWords Go.Proofs.YtfdkcnbkoagmiaaW.PrintLast Go.Proofs.YtfdkcnbkoagmiaaW.PrintMore Go.Proofs.Ytfdkcnbkoagmiaa.RowU Go.Proofs.Ytfdkcnbkoagmiaa.ArS Go.Proofs.Ytfdkcnbkoagmiaa.ArM Go.Proofs.Ytfdkcnbkoagmiaa.GenM Go.Proofs.Ytfdkcnbkoagmiaa.GenN Go.Proofs.Ytfdkcnbkoagmiaa.OwnL Go.Proofs.Ytfdkcnbkoagmiaa.ParM
open Go.Proofs.Ytfdkcnbkoagmiaa.ParS (St PS)
set_option linter.unusedVariables false
set_option maxRecDepth 100000
theorem step_gen2 {ops : Array Oper} {o : Oper} {a : Act} {K : Act → World → Prop} {Q : Exit → Act → World → Prop} {E : Prop} (w : World) (hg : o.guard = none) (s x : Operand) (t T : TypeId)
    (hop : o.op = Op.call { callee := Callee.builtin Builtin.append, args := #[s, x], argTypes := #[t, t] })
    (ht : Try.prog.underlying t = some (.slice T)) (z : Value) (by_ : Nat) (hi : (Try.prog.info? T).map (fun i => (i.zero, i.size, i.bytes)) = some (some z, 1, by_)) (hz : z.cells.size = 1) (hby : by_ ≤ 100)
    (v : Value) (l : List Value) (hs : a.eval s = v) (hv : GV T w v l) (ad : Addr) (y : Value) (hx : a.eval x = .slice (some ad) 1 1) (hc : w.cell? ad = some y) (h1 : y.oneCell' = true) (hb : l.length ≤ 100000000)
    (hK : ∀ v' w', Grew T w w' v v' l y → K (a.put o.dst v') w') :
    if Region.wanted o (yielded ops a.tmps) = true then Oper.wp Try.prog o a w K Q else E := by
  rw [if_pos (by simp [Region.wanted, hg])]
  exact oper_gen2 w s x t T hop ht z by_ hi hz hby v l hs hv ad y hx hc h1 hb hK
section
variable {w : World} {g : Nat} {p : PS} {va vc vo : Value} {Oa Oc Oo : Nat → Nat}
theorem fresh_one {n : Nat} {X Y Y' : Nat → Nat} (hX : ∀ a, X a ≠ 0 → a < n) (h1 : ∀ a, X a + Y a ≤ 1) (hY : ∀ a, Y' a ≤ 1) (hl : ∀ a, a < n → Y' a ≤ Y a) (a : Nat) : X a + Y' a ≤ 1 := by
  by_cases h : a < n
  · have := h1 a; have := hl a h; omega
  · have : X a = 0 := Decidable.not_not.1 fun hne => h (hX a hne)
    have := hY a
    omega
theorem oc_grew {T : TypeId} {w w1 w2 : World} {v v2 y : Value} {l : List Value} (hb : Below w.heap.size w w1) (hr : Grew T w1 w2 v v2 l y) (a : Nat) (ha : a < w.heap.size) : oc v2 a ≤ oc v a := by
  by_cases hz : oc v2 a = 0
  · omega
  · rcases hr.block a (oc_ne hz) with h | h
    · have : oc v a = 1 := by unfold oc; rw [if_pos h]
      have := oc_le v2 a
      omega
    · have := hb.size; omega
theorem curGrew (h : PM w g p va vc vo Oa Oc Oo) (hl : live p.st = true) {w1 w2 : World} {v2 : Value} {c : Int} (hb : Below w.heap.size w w1) (hr : Grew 5 w1 w2 vc v2 (p.cur.map (Value.int .u8)) (.int .u8 c)) :
    w2.heap[g]? = some (.cells (pc g p va vc vo) 84 (0, 0)) ∧ ∀ w3 p', Upd (fun a => a = g) w2 w3 → w3.heap[g]? = some (.cells (pc g p' va v2 vo) 84 (0, 0)) → p'.args = p.args → p'.out = p.out → p'.cur = p.cur ++ [c] → live p'.st = true → PQ w w3 (PO g Oa Oc Oo) g p' := by
  have hcu : BtR w vc p.cur Oc := by have := h.cu; rw [hl] at this; exact this
  have h1 := h.one
  have hOc := hcu.2
  have h12 : Upd (fun a => PO g Oa Oc Oo a ≠ 0) w w2 := (Upd.of_below hb).trans2 hr.upd (fun a ha => .inl (by unfold PO; rw [hOc]; unfold oc; rw [if_pos ha]; omega))
  have hv : Upd (fun a => vc.ownBlock = some a) w w2 := (Upd.of_below hb).trans2 hr.upd (fun a ha => .inl ha)
  have ne : ∀ a, (if a = g then 1 else 0) + Oa a + Oo a ≠ 0 → ¬ vc.ownBlock = some a := fun a ha e => by
    have := h1 a; have h2 := hOc a; unfold oc at h2; rw [if_pos e] at h2; omega
  refine ⟨blk_upd h.hd hv (ne g (by rw [if_pos rfl]; omega)), fun w3 p' hu hd ha ho hc hl' => ?_⟩
  have hg : ∀ a, Oa a + Oo a ≠ 0 → ¬ a = g := fun a ha e => by have := h1 a; rw [if_pos e] at this; omega
  have hlt : ∀ a, (if a = g then 1 else 0) + Oa a + Oo a ≠ 0 → a < w.heap.size := fun a ha => h.lt (by unfold PO; omega)
  have hocg : ∀ a, oc v2 a ≠ 0 → ¬ a = g := fun a ha e => by
    subst e
    have hg0 := hlt a (by rw [if_pos rfl]; omega)
    have := oc_grew hb hr a hg0
    have := h1 a
    rw [hOc, if_pos rfl] at this
    omega
  refine ⟨va, v2, vo, Oa, oc v2, Oo, ⟨hd, by rw [ha]; exact RwR.fit.upd (RwR.fit.upd h.ar hv (fun a h0 => ne a (by omega))) hu (fun a h0 => hg a (by omega)), ?_, by rw [ho]; exact CmR.fit.upd (CmR.fit.upd h.ou hv (fun a h0 => ne a (by omega))) hu (fun a h0 => hg a (by omega)), fun a => ?_⟩, fun a hlt' => ?_, h12.trans2 hu (fun a e => .inl (by subst e; unfold PO; rw [if_pos rfl]; omega))⟩
  · rw [hl', hc]
    refine BtR.fit.upd (R := BtR) (O := oc v2) ⟨?_, fun _ => rfl⟩ hu hocg
    have := hr.gv
    rw [List.map_append]
    exact this
  · have := fresh_one (X := fun a => (if a = g then 1 else 0) + Oa a + Oo a) (Y := Oc) (Y' := oc v2) hlt (fun a => by have := h1 a; (try dsimp only); omega) (oc_le v2) (fun a ha => by rw [hOc]; exact oc_grew hb hr a ha) a
    (try dsimp only at this)
    omega
  · have := oc_grew hb hr a hlt'
    unfold PO
    rw [hOc]
    omega
theorem argsGrew (h : PM w g p va vc vo Oa Oc Oo) (hl : live p.st = true) {vs : List Value} {O1 : Nat → Nat} (he : El BtR w vs p.args O1) (hO1 : ∀ a, Oa a = oc va a + O1 a) {w1 w2 : World} {v2 : Value} (hb : Below w.heap.size w w1) (hr : Grew 26 w1 w2 va v2 vs vc) :
    w2.heap[g]? = some (.cells (pc g p va vc vo) 84 (0, 0)) ∧ ∀ w3 p', Upd (fun a => a = g) w2 w3 → w3.heap[g]? = some (.cells (pc g p' v2 vc vo) 84 (0, 0)) → p'.args = p.args ++ [p.cur] → p'.out = p.out → live p'.st = false → ∃ Oa', PM w3 g p' v2 vc vo Oa' (fun _ => 0) Oo ∧ (∀ a, a < w.heap.size → PO g Oa' (fun _ => 0) Oo a ≤ PO g Oa Oc Oo a) ∧ Upd (fun a => PO g Oa Oc Oo a ≠ 0) w w3 := by
  have hcu : BtR w vc p.cur Oc := by have := h.cu; rw [hl] at this; exact this
  have h1 := h.one
  have hOc := hcu.2
  have hv : Upd (fun a => va.ownBlock = some a) w w2 := (Upd.of_below hb).trans2 hr.upd (fun a ha => .inl ha)
  have h12 : Upd (fun a => PO g Oa Oc Oo a ≠ 0) w w2 := hv.mono (fun a ha => by unfold PO; rw [hO1]; unfold oc; rw [if_pos ha]; omega)
  have ne : ∀ a, (if a = g then 1 else 0) + Oo a ≠ 0 → ¬ va.ownBlock = some a := fun a ha e => by
    have := h1 a; have h2 := hO1 a; unfold oc at h2; rw [if_pos e] at h2; omega
  refine ⟨blk_upd h.hd hv (ne g (by rw [if_pos rfl]; omega)), fun w3 p' hu hd ha ho hl' => ?_⟩
  have hub : ∀ a, O1 a ≠ 0 ∨ Oc a ≠ 0 → ¬ (fun _ : Nat => False) a := fun a _ hf => hf
  obtain ⟨Oa', hA, hA1, hA2⟩ := LAt.grew BtR.fit (he.upd BtR.fit (Upd.of_below hb) (fun a ha => hub a (.inl ha))) (BtR.fit.upd hcu (Upd.of_below hb) (fun a ha => hub a (.inr ha))) (fun a => by have := h1 a; rw [hO1] at this; omega) hr
  have hA2' : ∀ a, a < w.heap.size → Oa' a ≤ Oa a + Oc a := fun a ha => by
    have := hA2 a (by have := hb.size; omega)
    have := hO1 a
    omega
  have hg : ∀ a, Oo a ≠ 0 → ¬ a = g := fun a ha e => by have := h1 a; rw [if_pos e] at this; omega
  have hlt : ∀ a, (if a = g then 1 else 0) + Oo a ≠ 0 → a < w.heap.size := fun a ha => h.lt (by unfold PO; omega)
  have hAg : ∀ a, Oa' a ≠ 0 → ¬ a = g := fun a ha e => by
    subst e
    have hg0 := hlt a (by rw [if_pos rfl]; omega)
    have := hA2' a hg0
    have := h1 a
    rw [if_pos rfl] at this
    omega
  refine ⟨Oa', ⟨hd, by rw [ha]; exact RwR.fit.upd hA hu hAg, by rw [hl']; exact fun _ => rfl, by rw [ho]; exact CmR.fit.upd (CmR.fit.upd h.ou hv (fun a h0 => ne a (by omega))) hu (fun a h0 => hg a (by omega)), fun a => ?_⟩, fun a hlt' => ?_, h12.trans2 hu (fun a e => .inl (by subst e; unfold PO; rw [if_pos rfl]; omega))⟩
  · have := fresh_one (X := fun a => (if a = g then 1 else 0) + Oo a) (Y := fun a => Oa a + Oc a) (Y' := Oa') hlt (fun a => by have := h1 a; (try dsimp only); omega) hA1 (fun a ha => hA2' a ha) a
    (try dsimp only at this ⊢)
    omega
  · have := hA2' a hlt'
    unfold PO
    (try dsimp only)
    omega
theorem outGrew (h : PM w g p va vc vo Oa Oc Oo) {vs : List Value} {O1 : Nat → Nat} (he : El RwR w vs p.out O1) (hO1 : ∀ a, Oo a = oc vo a + O1 a) {w1 w2 : World} {v2 : Value} (hb : Below w.heap.size w w1) (hr : Grew 22 w1 w2 vo v2 vs va) :
    w2.heap[g]? = some (.cells (pc g p va vc vo) 84 (0, 0)) ∧ ∀ w3 p', Upd (fun a => a = g) w2 w3 → w3.heap[g]? = some (.cells (pc g p' (.slice none 0 0) (.slice none 0 0) v2) 84 (0, 0)) → p'.args = [] → p'.out = p.out ++ [p.args] → live p'.st = false → PQ w w3 (PO g Oa Oc Oo) g p' := by
  have h1 := h.one
  have hv : Upd (fun a => vo.ownBlock = some a) w w2 := (Upd.of_below hb).trans2 hr.upd (fun a ha => .inl ha)
  have h12 : Upd (fun a => PO g Oa Oc Oo a ≠ 0) w w2 := hv.mono (fun a ha => by unfold PO; rw [hO1]; unfold oc; rw [if_pos ha]; omega)
  have ne : ∀ a, (if a = g then 1 else 0) ≠ 0 → ¬ vo.ownBlock = some a := fun a ha e => by
    have := h1 a; have h2 := hO1 a; unfold oc at h2; rw [if_pos e] at h2; omega
  refine ⟨blk_upd h.hd hv (ne g (by rw [if_pos rfl]; omega)), fun w3 p' hu hd ha ho hl' => ?_⟩
  have hub : ∀ a, O1 a ≠ 0 ∨ Oa a ≠ 0 → ¬ (fun _ : Nat => False) a := fun a _ hf => hf
  obtain ⟨Oo', hA, hA1, hA2⟩ := LAt.grew RwR.fit (he.upd RwR.fit (Upd.of_below hb) (fun a ha => hub a (.inl ha))) (RwR.fit.upd h.ar (Upd.of_below hb) (fun a ha => hub a (.inr ha))) (fun a => by have := h1 a; rw [hO1] at this; omega) hr
  have hA2' : ∀ a, a < w.heap.size → Oo' a ≤ Oo a + Oa a := fun a ha => by
    have := hA2 a (by have := hb.size; omega)
    have := hO1 a
    omega
  have hlt : ∀ a, (if a = g then 1 else 0) ≠ 0 → a < w.heap.size := fun a ha => h.lt (by unfold PO; omega)
  have hAg : ∀ a, Oo' a ≠ 0 → ¬ a = g := fun a ha e => by
    subst e
    have hg0 := hlt a (by rw [if_pos rfl]; omega)
    have := hA2' a hg0
    have := h1 a
    rw [if_pos rfl] at this
    omega
  refine ⟨.slice none 0 0, .slice none 0 0, v2, fun _ => 0, fun _ => 0, Oo', ⟨hd, by rw [ha]; exact LAt.nil _ _ _, by rw [hl']; exact fun _ => rfl, by rw [ho]; exact CmR.fit.upd hA hu hAg, fun a => ?_⟩, fun a hlt' => ?_, h12.trans2 hu (fun a e => .inl (by subst e; unfold PO; rw [if_pos rfl]; omega))⟩
  · have := fresh_one (X := fun a => (if a = g then 1 else 0)) (Y := fun a => Oo a + Oa a) (Y' := Oo') hlt (fun a => by have := h1 a; (try dsimp only); omega) hA1 (fun a ha => hA2' a ha) a
    (try dsimp only at this ⊢)
    omega
  · have := hA2' a hlt'
    unfold PO
    (try dsimp only)
    omega
theorem w64s (x : Int) (h0 : -9223372036854775808 ≤ x) (h1 : x < 9223372036854775808) : wrap64 x = x := by unfold wrap64; omega
set_option maxHeartbeats 8000000 in
theorem content.calls : StepC .content := by
  intro w g p va vc vo Oa Oc Oo c h hi hs h0 h1 hol
  have hl : live p.st = true := by rw [hs]; rfl
  have hcu : BtR w vc p.cur Oc := by have := h.cu; rw [hl] at this; exact this
  have H := Aside0.mk h
  have HC := Aside0.mk hcu
  have HL := Aside0.mk hl
  have hlen := hi.cur
  have hleft := hi.left
  have hpos := hi.cont hs
  have hd0 := h.hd
  have dx0 := (blk_cell hd0 9).trans (show _ = some (vc : Value) from rfl)
  have HE : Aside0 ((ParS.step p c) = ({ p with cur := p.cur ++ [c], left := p.left - 1, st := if p.left - 1 = 0 then .contR else .content }, 0)) := ⟨by unfold ParS.step; rw [hs]⟩
  have hmf := hmf_
  have hw : wrap64 (p.left - 1) = p.left - 1 := w64s _ (by omega) (by omega)
  have HS := Aside0.mk hs
  clear h hcu hi hs hl hd0
  show Calls Try.prog 90 _ _ _
  by_cases hz : p.left - 1 = 0
  · go_enter Try.func90, Try.ntmps90
    go_upto_region 2 with ((with_reducible refine gate_builtin (b := .append) (xs := #[.tmp 9, .tmp 11]) rfl ?_); at_builtin; refine wpList_gen2 _ rfl (.tmp 9) (.tmp 11) 26 5 rfl Try.underlying26 (.int .u8 0) 1 (by kernel_rfl) rfl (by decide) vc (p.cur.map (Value.int .u8)) rfl ?hv ⟨w.heap.size, 0, none⟩ (.int .u8 c) rfl ?hc rfl ?hb ?_; (case hv => exact HC.out.1.upd (S := none_) (Upd.of_below (below_alloc (Below.refl _ _) _)) (fun _ _ h => h)); (case hc => exact cell_one_new _ _ _ 0 _ rfl); (case hb => rw [List.length_map]; omega); intro v2 w2 hr; obtain ⟨g2, c2, e2⟩ := hr.form; rw [List.length_map] at e2; subst e2; clear dx0; have G2 := Aside0.mk (curGrew H.out HL.out (below_alloc (Below.refl _ _) _) hr); clear hr; have hd2 := G2.out.1; have ex0 := (blk_cell hd2 9).trans (show _ = some (vc : Value) from rfl); have ef0 := blk_frozen hd2 9; have eh0 := blk_set hd2 9 (.slice (some ⟨g2, 0, none⟩) (p.cur.length + 1) c2); have ex1 := (blk_cell eh0 10).trans (show _ = some (.int .i64 p.left : Value) from rfl); have ex2 := (blk_cell eh0 10).trans (show _ = some (.int .i64 p.left : Value) from rfl); have ef1 := blk_frozen eh0 10; have eh1 := blk_set eh0 10 (.int .i64 0); have ex3 := (blk_cell eh1 10).trans (show _ = some (.int .i64 0 : Value) from rfl); have ex4 := (blk_cell eh1 0).trans (show _ = some (fnV g p.st : Value) from rfl); have ef2 := blk_frozen eh1 0; have eh2 := blk_set eh1 0 (fnV g .contR); have EZ := Aside0.mk eh2; clear eh0 eh1 eh2; clear hd2)
    go_wp2_with fail
    go_ret
    rw [HE.out, if_pos hz]
    exact ⟨rfl, G2.out.2 _ _ (by ((repeat (refine up1 ?_ _ _)); exact Upd.refl _ _)) (EZ.out.trans (by simp only [hz]; rfl)) rfl rfl rfl rfl⟩
  · go_enter Try.func90, Try.ntmps90
    go_upto_region 2 with ((with_reducible refine gate_builtin (b := .append) (xs := #[.tmp 9, .tmp 11]) rfl ?_); at_builtin; refine wpList_gen2 _ rfl (.tmp 9) (.tmp 11) 26 5 rfl Try.underlying26 (.int .u8 0) 1 (by kernel_rfl) rfl (by decide) vc (p.cur.map (Value.int .u8)) rfl ?hv ⟨w.heap.size, 0, none⟩ (.int .u8 c) rfl ?hc rfl ?hb ?_; (case hv => exact HC.out.1.upd (S := none_) (Upd.of_below (below_alloc (Below.refl _ _) _)) (fun _ _ h => h)); (case hc => exact cell_one_new _ _ _ 0 _ rfl); (case hb => rw [List.length_map]; omega); intro v2 w2 hr; obtain ⟨g2, c2, e2⟩ := hr.form; rw [List.length_map] at e2; subst e2; clear dx0; have G2 := Aside0.mk (curGrew H.out HL.out (below_alloc (Below.refl _ _) _) hr); clear hr; have hd2 := G2.out.1; have ex0 := (blk_cell hd2 9).trans (show _ = some (vc : Value) from rfl); have ef0 := blk_frozen hd2 9; have eh0 := blk_set hd2 9 (.slice (some ⟨g2, 0, none⟩) (p.cur.length + 1) c2); have ex1 := (blk_cell eh0 10).trans (show _ = some (.int .i64 p.left : Value) from rfl); have ex2 := (blk_cell eh0 10).trans (show _ = some (.int .i64 p.left : Value) from rfl); have ef1 := blk_frozen eh0 10; have eh1 := blk_set eh0 10 (.int .i64 (p.left - 1)); have ex3 := (blk_cell eh1 10).trans (show _ = some (.int .i64 (p.left - 1) : Value) from rfl); have EZ := Aside0.mk eh1; clear eh0 eh1; clear hd2)
    go_wp2_with fail
    go_ret
    rw [HE.out, if_neg hz]
    exact ⟨rfl, G2.out.2 _ _ (by ((repeat (refine up1 ?_ _ _)); exact Upd.refl _ _)) (by rw [← HS.out]; exact EZ.out) rfl rfl rfl rfl⟩
set_option maxHeartbeats 8000000 in
theorem dollar.calls : StepC .dollar := by
  intro w g p va vc vo Oa Oc Oo c h hi hs h0 h1 hol
  have HN := Aside0.mk (number.calls h 1 4096)
  have HU := Aside0.mk unless.calls
  have HE : Aside0 ((ParS.step p c) = (ParS.number p 1 4096, if c = 36 then 0 else 81)) := ⟨by unfold ParS.step; rw [hs]⟩
  clear h hi hs
  show Calls Try.prog 92 _ _ _
  by_cases hc : c = 36
  · subst hc
    go_enter Try.func92, Try.ntmps92
    go_wp2_with (first | (go_at_call 53; refine (HU.out _ _ _).mono ?_; rintro e w2 ⟨rfl, rfl⟩) | (go_at_call 42; refine HN.out.mono ?_; rintro e w1 ⟨rfl, h1, hu1⟩; have H1 := Aside0.mk (And.intro h1 hu1); clear h1 hu1))
    go_ret
    rw [HE.out]
    exact ⟨rfl, PQ.of H1.out.1 H1.out.2 (fun a => by unfold PO; dsimp only; omega)⟩
  · go_enter Try.func92, Try.ntmps92
    go_wp2_with (first | (go_at_call 53; refine (HU.out _ _ _).mono ?_; rintro e w2 ⟨rfl, rfl⟩) | (go_at_call 42; refine HN.out.mono ?_; rintro e w1 ⟨rfl, h1, hu1⟩; have H1 := Aside0.mk (And.intro h1 hu1); clear h1 hu1))
    go_ret
    rw [HE.out, if_neg hc]
    exact ⟨rfl, PQ.of H1.out.1 H1.out.2 (fun a => by unfold PO; dsimp only; omega)⟩
end
end Go.Proofs.Ytfdkcnbkoagmiaa.ParA
end

section
namespace Go.Proofs.Ytfdkcnbkoagmiaa.ParB
open Go Go.RowKit Go.Proofs.YtfdkcnbkoagmiaaW.PrintWords Go.Proofs.YtfdkcnbkoagmiaaW.PrintLast Go.Proofs.YtfdkcnbkoagmiaaW.PrintMore Go.Proofs.Ytfdkcnbkoagmiaa.RowU Go.Proofs.Ytfdkcnbkoagmiaa.ArS Go.Proofs.Ytfdkcnbkoagmiaa.ArM Go.Proofs.Ytfdkcnbkoagmiaa.GenM Go.Proofs.Ytfdkcnbkoagmiaa.GenN Go.Proofs.Ytfdkcnbkoagmiaa.OwnL Go.Proofs.Ytfdkcnbkoagmiaa.ParM Go.Proofs.Ytfdkcnbkoagmiaa.ParA
open Go.Proofs.Ytfdkcnbkoagmiaa.ParS (St PS)
set_option linter.unusedVariables false
set_option maxRecDepth 100000
section
variable {w : World} {g : Nat} {p : PS} {va vc vo : Value} {Oa Oc Oo : Nat → Nat}
set_option maxHeartbeats 8000000 in
theorem whole.calls (h : PM w g p va vc vo Oa Oc Oo) (hol : p.out.length ≤ 90000000) :
    Calls Try.prog 54 #[ptr g] w fun e w' => e = .returned (.tuple #[]) ∧ PQ w w' (PO g Oa Oc Oo) g (ParS.whole p) := by
  obtain ⟨Aa, ca, rfl⟩ := h.ar.slice
  have H := Aside0.mk h
  have hd0 := h.hd
  have hmf := hmf_
  by_cases hz : p.args = []
  · have HW : Aside0 (ParS.whole p = { p with args := [], cur := [], held := 0, st := .begin }) := ⟨by unfold ParS.whole; rw [if_pos hz]⟩
    have hl0 : p.args.length = 0 := by rw [hz]; rfl
    rw [hl0] at hd0
    have ex0 := (blk_cell hd0 8).trans (show _ = some (.slice Aa 0 ca : Value) from rfl)
    have ex1 := (blk_cell hd0 8).trans (show _ = some (.slice Aa 0 ca : Value) from rfl)
    have ef0 := blk_frozen hd0 8
    have eh0 := blk_set hd0 8 (.slice none 0 0)
    have ex2 := (blk_cell eh0 9).trans (show _ = some (vc : Value) from rfl)
    have ef1 := blk_frozen eh0 9
    have eh1 := blk_set eh0 9 (.slice none 0 0)
    have ex3 := (blk_cell eh1 2).trans (show _ = some (.int .i64 p.held : Value) from rfl)
    have ef2 := blk_frozen eh1 2
    have eh2 := blk_set eh1 2 (.int .i64 0)
    have ex4 := (blk_cell eh2 0).trans (show _ = some (fnV g p.st : Value) from rfl)
    have ef3 := blk_frozen eh2 0
    have eh3 := blk_set eh2 0 (fnV g .begin)
    have EZ := Aside0.mk eh3
    clear eh0 eh1 eh2 eh3
    clear h hd0 hz hl0
    go_enter Try.func54, Try.ntmps54
    go_wp2_with fail
    go_end0
    have hz : ∀ a, Oo a ≠ 0 → ¬ a = g := fun a ha e => by have := H.out.one a; rw [if_pos e] at this; omega
    rw [HW.out]
    exact ⟨rfl, .slice none 0 0, .slice none 0 0, vo, fun _ => 0, fun _ => 0, Oo, ⟨EZ.out, LAt.nil _ _ _, fun _ => rfl, CmR.fit.upd H.out.ou (by ((repeat (refine up1 ?_ _ _)); exact Upd.refl _ _)) hz, fun a => by have := H.out.one a; (try dsimp only); omega⟩, fun a _ => by unfold PO; (try dsimp only); omega, Upd.mono (by ((repeat (refine up1 ?_ _ _)); exact Upd.refl _ _)) (fun a ha => by subst ha; unfold PO; rw [if_pos rfl]; omega)⟩
  · have HW : Aside0 (ParS.whole p = { p with out := p.out ++ [p.args], args := [], cur := [], held := 0, st := .begin }) := ⟨by unfold ParS.whole; rw [if_neg hz]⟩
    have hl0 : 0 < (p.args.length : Int) := by have := List.length_pos_iff.2 hz; omega
    have hx8w : w.cell? ⟨g, 8, none⟩ = some (.slice Aa p.args.length ca) := (blk_cell hd0 8).trans rfl
    obtain ⟨vs, O1, hgv, hel, hO1⟩ := h.ou
    have HVS : Aside0 (vs.length ≤ 100000000) := ⟨by rw [hel.len]; omega⟩
    have HG := Aside0.mk hgv
    have HE1 := Aside0.mk hel
    have HO1 := Aside0.mk hO1
    obtain ⟨Ao, co, rfl⟩ := hgv.slice
    have hx11 : w.cell? ⟨g, 11, none⟩ = some (.slice Ao vs.length co) := (blk_cell hd0 11).trans rfl
    have hx11a : (w.alloc (.cells #[.slice Aa p.args.length ca] 22)).cell? ⟨g, 11, none⟩ = some (.slice Ao vs.length co) := (blk_cell (blk_below hd0 (below_alloc (Below.refl _ w) _)) 11).trans rfl
    clear h hd0 hz hgv hel hO1 hol
    go_enter Try.func54, Try.ntmps54
    go_wp2_with fail
    refine wp_region_held_drew (S := fun _ => True) (by kernel_rfl) (by trivial) (fun hHeld => ?_)
    refine wpAnyH_take (i := 0) (oi := ({ dst := some 8, op := Go.Op.move (Go.Operand.tmp 0), type := 34, pos := "parser.go:75", after := #[], guard := none } : Oper)) (v := ?vq1) rfl (by kernel_rfl) (by kernel_rfl) (by kernel_rfl) (fun _ _ _ h => h) (Or.inl ⟨by rfl, ?hyq1⟩) (by first | trivial | assumption) ?restq1
    case hyq1 => (intro w hSw; (try dsimp only at hSw); go_simp; (try with_reducible rfl))
    (try simp only [Act.put, List.setIfInBounds_toArray, List.set_cons_zero, List.set_cons_succ])
    refine wpAnyH_take (i := 1) (oi := ({ dst := some 9, op := Go.Op.move (Go.Operand.tmp 0), type := 34, pos := "parser.go:75", after := #[], guard := none } : Oper)) (v := ?vq2) rfl (by kernel_rfl) (by kernel_rfl) (by kernel_rfl) (fun _ _ _ h => h) (Or.inl ⟨by rfl, ?hyq2⟩) (by first | trivial | assumption) ?restq2
    case hyq2 => (intro w hSw; (try dsimp only at hSw); go_simp; (try with_reducible rfl))
    (try simp only [Act.put, List.setIfInBounds_toArray, List.set_cons_zero, List.set_cons_succ])
    refine wpAnyH_take (i := 2) (oi := ({ dst := some 10, op := Go.Op.nilCheck (Go.Operand.tmp 9), type := 0, pos := "parser.go:75", after := #[{ on := 1, ground := Go.Ground.data }], guard := none } : Oper)) (v := ?vq3) rfl (by kernel_rfl) (by kernel_rfl) (by kernel_rfl) (fun _ _ _ h => h) (Or.inl ⟨by rfl, ?hyq3⟩) (by first | trivial | assumption) ?restq3
    case hyq3 => (intro w hSw; (try dsimp only at hSw); go_simp; (try with_reducible rfl))
    (try simp only [Act.put, List.setIfInBounds_toArray, List.set_cons_zero, List.set_cons_succ])
    refine wpAnyH_take (i := 3) (oi := ({ dst := some 11, op := Go.Op.fieldAddr 84 (Go.Operand.tmp 10) 11, type := 0, pos := "parser.go:75", after := #[{ on := 2, ground := Go.Ground.data }], guard := none } : Oper)) (v := ?vq4) rfl (by kernel_rfl) (by kernel_rfl) (by kernel_rfl) (fun _ _ _ h => h) (Or.inl ⟨by rfl, ?hyq4⟩) (by first | trivial | assumption) ?restq4
    case hyq4 => (intro w hSw; (try dsimp only at hSw); go_simp; (try with_reducible rfl))
    (try simp only [Act.put, List.setIfInBounds_toArray, List.set_cons_zero, List.set_cons_succ])
    refine wpAnyH_take (i := 5) (oi := ({ dst := some 13, op := Go.Op.move (Go.Operand.tmp 0), type := 34, pos := "parser.go:75", after := #[], guard := none } : Oper)) (v := ?vq5) rfl (by kernel_rfl) (by kernel_rfl) (by kernel_rfl) (fun _ _ _ h => h) (Or.inl ⟨by rfl, ?hyq5⟩) (by first | trivial | assumption) ?restq5
    case hyq5 => (intro w hSw; (try dsimp only at hSw); go_simp; (try with_reducible rfl))
    (try simp only [Act.put, List.setIfInBounds_toArray, List.set_cons_zero, List.set_cons_succ])
    refine wpAnyH_take (i := 6) (oi := ({ dst := some 14, op := Go.Op.nilCheck (Go.Operand.tmp 13), type := 0, pos := "parser.go:75", after := #[{ on := 5, ground := Go.Ground.data }], guard := none } : Oper)) (v := ?vq6) rfl (by kernel_rfl) (by kernel_rfl) (by kernel_rfl) (fun _ _ _ h => h) (Or.inl ⟨by rfl, ?hyq6⟩) (by first | trivial | assumption) ?restq6
    case hyq6 => (intro w hSw; (try dsimp only at hSw); go_simp; (try with_reducible rfl))
    (try simp only [Act.put, List.setIfInBounds_toArray, List.set_cons_zero, List.set_cons_succ])
    refine wpAnyH_take (i := 7) (oi := ({ dst := some 15, op := Go.Op.fieldAddr 84 (Go.Operand.tmp 14) 8, type := 0, pos := "parser.go:75", after := #[{ on := 6, ground := Go.Ground.data }], guard := none } : Oper)) (v := ?vq7) rfl (by kernel_rfl) (by kernel_rfl) (by kernel_rfl) (fun _ _ _ h => h) (Or.inl ⟨by rfl, ?hyq7⟩) (by first | trivial | assumption) ?restq7
    case hyq7 => (intro w hSw; (try dsimp only at hSw); go_simp; (try with_reducible rfl))
    (try simp only [Act.put, List.setIfInBounds_toArray, List.set_cons_zero, List.set_cons_succ])
    refine wpAnyH_ready (rs := [4, 8]) (by kernel_rfl) (by simp) ?_
    refine AllReadyH.cons (o := ({ dst := some 12, op := Go.Op.load 36 (Go.Operand.tmp 11), type := 36, pos := "parser.go:75", after := #[{ on := 3, ground := Go.Ground.data }], guard := none } : Oper)) rfl (fun K hK => ?_) ?_
    · go_simp
      refine hK.out _ _ (by trivial) (fun hHeld => ?_)
      clear hK K
      (try simp only [Act.put, List.setIfInBounds_toArray, List.set_cons_zero, List.set_cons_succ])
      refine wpAnyH_ready (rs := [8]) (by kernel_rfl) (by simp) ?_
      refine AllReadyH.cons (o := ({ dst := some 16, op := Go.Op.load 22 (Go.Operand.tmp 15), type := 22, pos := "parser.go:75", after := #[{ on := 7, ground := Go.Ground.data }], guard := none } : Oper)) rfl (fun K hK => ?_) ?_
      · go_simp
        refine hK.out _ _ (by trivial) (fun hHeld => ?_)
        clear hK K
        (try simp only [Act.put, List.setIfInBounds_toArray, List.set_cons_zero, List.set_cons_succ])
        refine wpAnyH_ready (rs := [9]) (by kernel_rfl) (by simp) ?_
        refine AllReadyH.cons (o := ({ dst := some 17, op := Go.Op.buildSlice 36 1 #[(0, Go.Operand.tmp 16)], type := 36, pos := "parser.go:75", after := #[{ on := 8, ground := Go.Ground.data }], guard := none } : Oper)) rfl (fun K hK => ?_) ?_
        · go_simp
          refine hK.out _ _ (by trivial) (fun hHeld => ?_)
          clear hK K
          (try simp only [Act.put, List.setIfInBounds_toArray, List.set_cons_zero, List.set_cons_succ])
          refine wpAnyH_ready (rs := [10]) (by kernel_rfl) (by simp) ?_
          refine AllReadyH.cons (o := ({ dst := some 18, op := Go.Op.call { callee := Go.Callee.builtin Go.Builtin.append, args := #[Go.Operand.tmp 12, Go.Operand.tmp 17], argTypes := #[36, 36] }, type := 36, pos := "parser.go:75", after := #[{ on := 4, ground := Go.Ground.data }, { on := 9, ground := Go.Ground.data }], guard := none } : Oper)) rfl (fun K hK => ?_) ?_
          · (refine step_gen2 _ rfl (.tmp 12) (.tmp 17) 36 22 rfl Try.underlying36 (.slice none 0 0) 24 (by kernel_rfl) rfl (by decide) (.slice Ao vs.length co) vs rfl ?hv ⟨_, 0, none⟩ (.slice Aa p.args.length ca) rfl ?hc rfl ?hb ?_; go_must ((case hv => exact HG.out.upd (S := none_) (Upd.of_below (below_alloc (Below.refl _ w).drew _)) (fun _ _ h => h))); go_must ((case hc => exact cell_one_new _ _ _ 0 _ rfl)); go_must ((case hb => exact HVS.out)); intro v2 w2 hr; obtain ⟨g2, c2, e2⟩ := hr.form; subst e2; have G2 := Aside0.mk (outGrew H.out HE1.out HO1.out (below_alloc (Below.refl _ w).drew _) hr); clear hr hx11 hx8w hx11a; have hd2 := G2.out.1; have ex0 := (blk_cell hd2 11).trans (show _ = some (.slice Ao vs.length co : Value) from rfl); have ef0 := blk_frozen hd2 11; have eh0 := blk_set hd2 11 (.slice (some ⟨g2, 0, none⟩) (vs.length + 1) c2); have ex1 := (blk_cell eh0 8).trans (show _ = some (.slice Aa p.args.length ca : Value) from rfl); have ef1 := blk_frozen eh0 8; have eh1 := blk_set eh0 8 (.slice none 0 0); have ex2 := (blk_cell eh1 9).trans (show _ = some (vc : Value) from rfl); have ef2 := blk_frozen eh1 9; have eh2 := blk_set eh1 9 (.slice none 0 0); have ex3 := (blk_cell eh2 2).trans (show _ = some (.int .i64 p.held : Value) from rfl); have ef3 := blk_frozen eh2 2; have eh3 := blk_set eh2 2 (.int .i64 0); have ex4 := (blk_cell eh3 0).trans (show _ = some (fnV g p.st : Value) from rfl); have ef4 := blk_frozen eh3 0; have eh4 := blk_set eh3 0 (fnV g .begin); have EZ := Aside0.mk eh4; clear eh0 eh1 eh2 eh3 eh4; clear hd2)
            refine hK.out _ _ (by trivial) (fun hHeld => ?_)
            clear hK K
            (try simp only [Act.put, List.setIfInBounds_toArray, List.set_cons_zero, List.set_cons_succ])
            refine wpAnyH_take (i := 11) (oi := ({ dst := some 19, op := Go.Op.nilCheck (Go.Operand.tmp 8), type := 0, pos := "parser.go:75", after := #[{ on := 0, ground := Go.Ground.data }, { on := 0, ground := Go.Ground.phase }, { on := 1, ground := Go.Ground.phase }, { on := 2, ground := Go.Ground.phase }, { on := 3, ground := Go.Ground.phase }, { on := 4, ground := Go.Ground.phase }, { on := 5, ground := Go.Ground.phase }, { on := 6, ground := Go.Ground.phase }, { on := 7, ground := Go.Ground.phase }, { on := 8, ground := Go.Ground.phase }, { on := 9, ground := Go.Ground.phase }, { on := 10, ground := Go.Ground.phase }], guard := none } : Oper)) (v := ?vq8) rfl (by kernel_rfl) (by kernel_rfl) (by kernel_rfl) (fun _ _ _ h => h) (Or.inl ⟨by rfl, ?hyq8⟩) (by first | trivial | assumption) ?restq8
            case hyq8 => (intro w hSw; (try dsimp only at hSw); go_simp; (try with_reducible rfl))
            (try simp only [Act.put, List.setIfInBounds_toArray, List.set_cons_zero, List.set_cons_succ])
            refine wpAnyH_take (i := 12) (oi := ({ dst := some 20, op := Go.Op.fieldAddr 84 (Go.Operand.tmp 19) 11, type := 0, pos := "parser.go:75", after := #[{ on := 11, ground := Go.Ground.data }, { on := 0, ground := Go.Ground.phase }, { on := 1, ground := Go.Ground.phase }, { on := 2, ground := Go.Ground.phase }, { on := 3, ground := Go.Ground.phase }, { on := 4, ground := Go.Ground.phase }, { on := 5, ground := Go.Ground.phase }, { on := 6, ground := Go.Ground.phase }, { on := 7, ground := Go.Ground.phase }, { on := 8, ground := Go.Ground.phase }, { on := 9, ground := Go.Ground.phase }, { on := 10, ground := Go.Ground.phase }], guard := none } : Oper)) (v := ?vq9) rfl (by kernel_rfl) (by kernel_rfl) (by kernel_rfl) (fun _ _ _ h => h) (Or.inl ⟨by rfl, ?hyq9⟩) (by first | trivial | assumption) ?restq9
            case hyq9 => (intro w hSw; (try dsimp only at hSw); go_simp; (try with_reducible rfl))
            (try simp only [Act.put, List.setIfInBounds_toArray, List.set_cons_zero, List.set_cons_succ])
            refine wpAnyH_ready (rs := [13]) (by kernel_rfl) (by simp) ?_
            refine AllReadyH.cons (o := ({ dst := none, op := Go.Op.store 36 (Go.Operand.tmp 20) (Go.Operand.tmp 18), type := 0, pos := "parser.go:75", after := #[{ on := 12, ground := Go.Ground.data }, { on := 10, ground := Go.Ground.data }, { on := 10, ground := Go.Ground.chain }, { on := 0, ground := Go.Ground.phase }, { on := 1, ground := Go.Ground.phase }, { on := 2, ground := Go.Ground.phase }, { on := 3, ground := Go.Ground.phase }, { on := 4, ground := Go.Ground.phase }, { on := 5, ground := Go.Ground.phase }, { on := 6, ground := Go.Ground.phase }, { on := 7, ground := Go.Ground.phase }, { on := 8, ground := Go.Ground.phase }, { on := 9, ground := Go.Ground.phase }, { on := 10, ground := Go.Ground.phase }], guard := none } : Oper)) rfl (fun K hK => ?_) ?_
            · go_simp
              refine hK.out _ _ (by trivial) (fun hHeld => ?_)
              clear hK K
              (try simp only [Act.put, List.setIfInBounds_toArray, List.set_cons_zero, List.set_cons_succ])
              refine wpAnyH_done (by kernel_rfl) ?_ _
              go_wp2_with fail
              go_end0
              exact ⟨rfl, G2.out.2 _ _ (by ((repeat (refine up1 ?_ _ _)); exact Upd.refl _ _)) (EZ.out.trans (by rw [HW.out]; rfl)) (by rw [HW.out]) (by rw [HW.out]) (by rw [HW.out]; rfl)⟩
            exact AllReadyH.nil
          exact AllReadyH.nil
        exact AllReadyH.nil
      exact AllReadyH.nil
    refine AllReadyH.cons (o := ({ dst := some 16, op := Go.Op.load 22 (Go.Operand.tmp 15), type := 22, pos := "parser.go:75", after := #[{ on := 7, ground := Go.Ground.data }], guard := none } : Oper)) rfl (fun K hK => ?_) ?_
    · go_simp
      refine hK.out _ _ (by trivial) (fun hHeld => ?_)
      clear hK K
      (try simp only [Act.put, List.setIfInBounds_toArray, List.set_cons_zero, List.set_cons_succ])
      refine wpAnyH_ready (rs := [4, 9]) (by kernel_rfl) (by simp) ?_
      refine AllReadyH.cons (o := ({ dst := some 12, op := Go.Op.load 36 (Go.Operand.tmp 11), type := 36, pos := "parser.go:75", after := #[{ on := 3, ground := Go.Ground.data }], guard := none } : Oper)) rfl (fun K hK => ?_) ?_
      · go_simp
        refine hK.out _ _ (by trivial) (fun hHeld => ?_)
        clear hK K
        (try simp only [Act.put, List.setIfInBounds_toArray, List.set_cons_zero, List.set_cons_succ])
        refine wpAnyH_ready (rs := [9]) (by kernel_rfl) (by simp) ?_
        refine AllReadyH.cons (o := ({ dst := some 17, op := Go.Op.buildSlice 36 1 #[(0, Go.Operand.tmp 16)], type := 36, pos := "parser.go:75", after := #[{ on := 8, ground := Go.Ground.data }], guard := none } : Oper)) rfl (fun K hK => ?_) ?_
        · go_simp
          refine hK.out _ _ (by trivial) (fun hHeld => ?_)
          clear hK K
          (try simp only [Act.put, List.setIfInBounds_toArray, List.set_cons_zero, List.set_cons_succ])
          refine wpAnyH_ready (rs := [10]) (by kernel_rfl) (by simp) ?_
          refine AllReadyH.cons (o := ({ dst := some 18, op := Go.Op.call { callee := Go.Callee.builtin Go.Builtin.append, args := #[Go.Operand.tmp 12, Go.Operand.tmp 17], argTypes := #[36, 36] }, type := 36, pos := "parser.go:75", after := #[{ on := 4, ground := Go.Ground.data }, { on := 9, ground := Go.Ground.data }], guard := none } : Oper)) rfl (fun K hK => ?_) ?_
          · (refine step_gen2 _ rfl (.tmp 12) (.tmp 17) 36 22 rfl Try.underlying36 (.slice none 0 0) 24 (by kernel_rfl) rfl (by decide) (.slice Ao vs.length co) vs rfl ?hv ⟨_, 0, none⟩ (.slice Aa p.args.length ca) rfl ?hc rfl ?hb ?_; go_must ((case hv => exact HG.out.upd (S := none_) (Upd.of_below (below_alloc (Below.refl _ w).drew _)) (fun _ _ h => h))); go_must ((case hc => exact cell_one_new _ _ _ 0 _ rfl)); go_must ((case hb => exact HVS.out)); intro v2 w2 hr; obtain ⟨g2, c2, e2⟩ := hr.form; subst e2; have G2 := Aside0.mk (outGrew H.out HE1.out HO1.out (below_alloc (Below.refl _ w).drew _) hr); clear hr hx11 hx8w hx11a; have hd2 := G2.out.1; have ex0 := (blk_cell hd2 11).trans (show _ = some (.slice Ao vs.length co : Value) from rfl); have ef0 := blk_frozen hd2 11; have eh0 := blk_set hd2 11 (.slice (some ⟨g2, 0, none⟩) (vs.length + 1) c2); have ex1 := (blk_cell eh0 8).trans (show _ = some (.slice Aa p.args.length ca : Value) from rfl); have ef1 := blk_frozen eh0 8; have eh1 := blk_set eh0 8 (.slice none 0 0); have ex2 := (blk_cell eh1 9).trans (show _ = some (vc : Value) from rfl); have ef2 := blk_frozen eh1 9; have eh2 := blk_set eh1 9 (.slice none 0 0); have ex3 := (blk_cell eh2 2).trans (show _ = some (.int .i64 p.held : Value) from rfl); have ef3 := blk_frozen eh2 2; have eh3 := blk_set eh2 2 (.int .i64 0); have ex4 := (blk_cell eh3 0).trans (show _ = some (fnV g p.st : Value) from rfl); have ef4 := blk_frozen eh3 0; have eh4 := blk_set eh3 0 (fnV g .begin); have EZ := Aside0.mk eh4; clear eh0 eh1 eh2 eh3 eh4; clear hd2)
            refine hK.out _ _ (by trivial) (fun hHeld => ?_)
            clear hK K
            (try simp only [Act.put, List.setIfInBounds_toArray, List.set_cons_zero, List.set_cons_succ])
            refine wpAnyH_take (i := 11) (oi := ({ dst := some 19, op := Go.Op.nilCheck (Go.Operand.tmp 8), type := 0, pos := "parser.go:75", after := #[{ on := 0, ground := Go.Ground.data }, { on := 0, ground := Go.Ground.phase }, { on := 1, ground := Go.Ground.phase }, { on := 2, ground := Go.Ground.phase }, { on := 3, ground := Go.Ground.phase }, { on := 4, ground := Go.Ground.phase }, { on := 5, ground := Go.Ground.phase }, { on := 6, ground := Go.Ground.phase }, { on := 7, ground := Go.Ground.phase }, { on := 8, ground := Go.Ground.phase }, { on := 9, ground := Go.Ground.phase }, { on := 10, ground := Go.Ground.phase }], guard := none } : Oper)) (v := ?vq10) rfl (by kernel_rfl) (by kernel_rfl) (by kernel_rfl) (fun _ _ _ h => h) (Or.inl ⟨by rfl, ?hyq10⟩) (by first | trivial | assumption) ?restq10
            case hyq10 => (intro w hSw; (try dsimp only at hSw); go_simp; (try with_reducible rfl))
            (try simp only [Act.put, List.setIfInBounds_toArray, List.set_cons_zero, List.set_cons_succ])
            refine wpAnyH_take (i := 12) (oi := ({ dst := some 20, op := Go.Op.fieldAddr 84 (Go.Operand.tmp 19) 11, type := 0, pos := "parser.go:75", after := #[{ on := 11, ground := Go.Ground.data }, { on := 0, ground := Go.Ground.phase }, { on := 1, ground := Go.Ground.phase }, { on := 2, ground := Go.Ground.phase }, { on := 3, ground := Go.Ground.phase }, { on := 4, ground := Go.Ground.phase }, { on := 5, ground := Go.Ground.phase }, { on := 6, ground := Go.Ground.phase }, { on := 7, ground := Go.Ground.phase }, { on := 8, ground := Go.Ground.phase }, { on := 9, ground := Go.Ground.phase }, { on := 10, ground := Go.Ground.phase }], guard := none } : Oper)) (v := ?vq11) rfl (by kernel_rfl) (by kernel_rfl) (by kernel_rfl) (fun _ _ _ h => h) (Or.inl ⟨by rfl, ?hyq11⟩) (by first | trivial | assumption) ?restq11
            case hyq11 => (intro w hSw; (try dsimp only at hSw); go_simp; (try with_reducible rfl))
            (try simp only [Act.put, List.setIfInBounds_toArray, List.set_cons_zero, List.set_cons_succ])
            refine wpAnyH_ready (rs := [13]) (by kernel_rfl) (by simp) ?_
            refine AllReadyH.cons (o := ({ dst := none, op := Go.Op.store 36 (Go.Operand.tmp 20) (Go.Operand.tmp 18), type := 0, pos := "parser.go:75", after := #[{ on := 12, ground := Go.Ground.data }, { on := 10, ground := Go.Ground.data }, { on := 10, ground := Go.Ground.chain }, { on := 0, ground := Go.Ground.phase }, { on := 1, ground := Go.Ground.phase }, { on := 2, ground := Go.Ground.phase }, { on := 3, ground := Go.Ground.phase }, { on := 4, ground := Go.Ground.phase }, { on := 5, ground := Go.Ground.phase }, { on := 6, ground := Go.Ground.phase }, { on := 7, ground := Go.Ground.phase }, { on := 8, ground := Go.Ground.phase }, { on := 9, ground := Go.Ground.phase }, { on := 10, ground := Go.Ground.phase }], guard := none } : Oper)) rfl (fun K hK => ?_) ?_
            · go_simp
              refine hK.out _ _ (by trivial) (fun hHeld => ?_)
              clear hK K
              (try simp only [Act.put, List.setIfInBounds_toArray, List.set_cons_zero, List.set_cons_succ])
              refine wpAnyH_done (by kernel_rfl) ?_ _
              go_wp2_with fail
              go_end0
              exact ⟨rfl, G2.out.2 _ _ (by ((repeat (refine up1 ?_ _ _)); exact Upd.refl _ _)) (EZ.out.trans (by rw [HW.out]; rfl)) (by rw [HW.out]) (by rw [HW.out]) (by rw [HW.out]; rfl)⟩
            exact AllReadyH.nil
          exact AllReadyH.nil
        exact AllReadyH.nil
      refine AllReadyH.cons (o := ({ dst := some 17, op := Go.Op.buildSlice 36 1 #[(0, Go.Operand.tmp 16)], type := 36, pos := "parser.go:75", after := #[{ on := 8, ground := Go.Ground.data }], guard := none } : Oper)) rfl (fun K hK => ?_) ?_
      · go_simp
        refine hK.out _ _ (by trivial) (fun hHeld => ?_)
        clear hK K
        (try simp only [Act.put, List.setIfInBounds_toArray, List.set_cons_zero, List.set_cons_succ])
        refine wpAnyH_ready (rs := [4]) (by kernel_rfl) (by simp) ?_
        refine AllReadyH.cons (o := ({ dst := some 12, op := Go.Op.load 36 (Go.Operand.tmp 11), type := 36, pos := "parser.go:75", after := #[{ on := 3, ground := Go.Ground.data }], guard := none } : Oper)) rfl (fun K hK => ?_) ?_
        · go_simp
          refine hK.out _ _ (by trivial) (fun hHeld => ?_)
          clear hK K
          (try simp only [Act.put, List.setIfInBounds_toArray, List.set_cons_zero, List.set_cons_succ])
          refine wpAnyH_ready (rs := [10]) (by kernel_rfl) (by simp) ?_
          refine AllReadyH.cons (o := ({ dst := some 18, op := Go.Op.call { callee := Go.Callee.builtin Go.Builtin.append, args := #[Go.Operand.tmp 12, Go.Operand.tmp 17], argTypes := #[36, 36] }, type := 36, pos := "parser.go:75", after := #[{ on := 4, ground := Go.Ground.data }, { on := 9, ground := Go.Ground.data }], guard := none } : Oper)) rfl (fun K hK => ?_) ?_
          · (refine step_gen2 _ rfl (.tmp 12) (.tmp 17) 36 22 rfl Try.underlying36 (.slice none 0 0) 24 (by kernel_rfl) rfl (by decide) (.slice Ao vs.length co) vs rfl ?hv ⟨_, 0, none⟩ (.slice Aa p.args.length ca) rfl ?hc rfl ?hb ?_; go_must ((case hv => exact HG.out.upd (S := none_) (Upd.of_below (below_alloc (Below.refl _ w).drew _)) (fun _ _ h => h))); go_must ((case hc => exact cell_one_new _ _ _ 0 _ rfl)); go_must ((case hb => exact HVS.out)); intro v2 w2 hr; obtain ⟨g2, c2, e2⟩ := hr.form; subst e2; have G2 := Aside0.mk (outGrew H.out HE1.out HO1.out (below_alloc (Below.refl _ w).drew _) hr); clear hr hx11 hx8w hx11a; have hd2 := G2.out.1; have ex0 := (blk_cell hd2 11).trans (show _ = some (.slice Ao vs.length co : Value) from rfl); have ef0 := blk_frozen hd2 11; have eh0 := blk_set hd2 11 (.slice (some ⟨g2, 0, none⟩) (vs.length + 1) c2); have ex1 := (blk_cell eh0 8).trans (show _ = some (.slice Aa p.args.length ca : Value) from rfl); have ef1 := blk_frozen eh0 8; have eh1 := blk_set eh0 8 (.slice none 0 0); have ex2 := (blk_cell eh1 9).trans (show _ = some (vc : Value) from rfl); have ef2 := blk_frozen eh1 9; have eh2 := blk_set eh1 9 (.slice none 0 0); have ex3 := (blk_cell eh2 2).trans (show _ = some (.int .i64 p.held : Value) from rfl); have ef3 := blk_frozen eh2 2; have eh3 := blk_set eh2 2 (.int .i64 0); have ex4 := (blk_cell eh3 0).trans (show _ = some (fnV g p.st : Value) from rfl); have ef4 := blk_frozen eh3 0; have eh4 := blk_set eh3 0 (fnV g .begin); have EZ := Aside0.mk eh4; clear eh0 eh1 eh2 eh3 eh4; clear hd2)
            refine hK.out _ _ (by trivial) (fun hHeld => ?_)
            clear hK K
            (try simp only [Act.put, List.setIfInBounds_toArray, List.set_cons_zero, List.set_cons_succ])
            refine wpAnyH_take (i := 11) (oi := ({ dst := some 19, op := Go.Op.nilCheck (Go.Operand.tmp 8), type := 0, pos := "parser.go:75", after := #[{ on := 0, ground := Go.Ground.data }, { on := 0, ground := Go.Ground.phase }, { on := 1, ground := Go.Ground.phase }, { on := 2, ground := Go.Ground.phase }, { on := 3, ground := Go.Ground.phase }, { on := 4, ground := Go.Ground.phase }, { on := 5, ground := Go.Ground.phase }, { on := 6, ground := Go.Ground.phase }, { on := 7, ground := Go.Ground.phase }, { on := 8, ground := Go.Ground.phase }, { on := 9, ground := Go.Ground.phase }, { on := 10, ground := Go.Ground.phase }], guard := none } : Oper)) (v := ?vq12) rfl (by kernel_rfl) (by kernel_rfl) (by kernel_rfl) (fun _ _ _ h => h) (Or.inl ⟨by rfl, ?hyq12⟩) (by first | trivial | assumption) ?restq12
            case hyq12 => (intro w hSw; (try dsimp only at hSw); go_simp; (try with_reducible rfl))
            (try simp only [Act.put, List.setIfInBounds_toArray, List.set_cons_zero, List.set_cons_succ])
            refine wpAnyH_take (i := 12) (oi := ({ dst := some 20, op := Go.Op.fieldAddr 84 (Go.Operand.tmp 19) 11, type := 0, pos := "parser.go:75", after := #[{ on := 11, ground := Go.Ground.data }, { on := 0, ground := Go.Ground.phase }, { on := 1, ground := Go.Ground.phase }, { on := 2, ground := Go.Ground.phase }, { on := 3, ground := Go.Ground.phase }, { on := 4, ground := Go.Ground.phase }, { on := 5, ground := Go.Ground.phase }, { on := 6, ground := Go.Ground.phase }, { on := 7, ground := Go.Ground.phase }, { on := 8, ground := Go.Ground.phase }, { on := 9, ground := Go.Ground.phase }, { on := 10, ground := Go.Ground.phase }], guard := none } : Oper)) (v := ?vq13) rfl (by kernel_rfl) (by kernel_rfl) (by kernel_rfl) (fun _ _ _ h => h) (Or.inl ⟨by rfl, ?hyq13⟩) (by first | trivial | assumption) ?restq13
            case hyq13 => (intro w hSw; (try dsimp only at hSw); go_simp; (try with_reducible rfl))
            (try simp only [Act.put, List.setIfInBounds_toArray, List.set_cons_zero, List.set_cons_succ])
            refine wpAnyH_ready (rs := [13]) (by kernel_rfl) (by simp) ?_
            refine AllReadyH.cons (o := ({ dst := none, op := Go.Op.store 36 (Go.Operand.tmp 20) (Go.Operand.tmp 18), type := 0, pos := "parser.go:75", after := #[{ on := 12, ground := Go.Ground.data }, { on := 10, ground := Go.Ground.data }, { on := 10, ground := Go.Ground.chain }, { on := 0, ground := Go.Ground.phase }, { on := 1, ground := Go.Ground.phase }, { on := 2, ground := Go.Ground.phase }, { on := 3, ground := Go.Ground.phase }, { on := 4, ground := Go.Ground.phase }, { on := 5, ground := Go.Ground.phase }, { on := 6, ground := Go.Ground.phase }, { on := 7, ground := Go.Ground.phase }, { on := 8, ground := Go.Ground.phase }, { on := 9, ground := Go.Ground.phase }, { on := 10, ground := Go.Ground.phase }], guard := none } : Oper)) rfl (fun K hK => ?_) ?_
            · go_simp
              refine hK.out _ _ (by trivial) (fun hHeld => ?_)
              clear hK K
              (try simp only [Act.put, List.setIfInBounds_toArray, List.set_cons_zero, List.set_cons_succ])
              refine wpAnyH_done (by kernel_rfl) ?_ _
              go_wp2_with fail
              go_end0
              exact ⟨rfl, G2.out.2 _ _ (by ((repeat (refine up1 ?_ _ _)); exact Upd.refl _ _)) (EZ.out.trans (by rw [HW.out]; rfl)) (by rw [HW.out]) (by rw [HW.out]) (by rw [HW.out]; rfl)⟩
            exact AllReadyH.nil
          exact AllReadyH.nil
        exact AllReadyH.nil
      exact AllReadyH.nil
    exact AllReadyH.nil
set_option maxHeartbeats 8000000 in
theorem contF.calls : StepC .contF := by
  intro w g p va vc vo Oa Oc Oo c h hi hs h0 h1 hol
  have hl : live p.st = true := by rw [hs]; rfl
  have hcu : BtR w vc p.cur Oc := by have := h.cu; rw [hl] at this; exact this
  have H := Aside0.mk h
  have HL := Aside0.mk hl
  have HOL := Aside0.mk hol
  have hd0 := h.hd
  have hmf := hmf_
  have harg := hi.args
  show Calls Try.prog 97 _ _ _
  by_cases hc : c = 10
  · subst hc
    obtain ⟨vs, O1, hgv, hel, hO1⟩ := h.ar
    have HVS : Aside0 (vs.length ≤ 100000000) := ⟨by rw [hel.len]; omega⟩
    have hvl := hel.len
    have HG := Aside0.mk hgv
    have HE1 := Aside0.mk hel
    have HO1 := Aside0.mk hO1
    obtain ⟨Aa, ca, rfl⟩ := hgv.slice
    obtain ⟨Ac, cc, rfl, _⟩ := hcu.slice
    have hx9 : w.cell? ⟨g, 9, none⟩ = some (.slice Ac p.cur.length cc) := (blk_cell hd0 9).trans rfl
    have hx8 : w.cell? ⟨g, 8, none⟩ = some (.slice Aa vs.length ca) := (blk_cell hd0 8).trans rfl
    have hx8a : (w.alloc (.cells #[.slice Ac p.cur.length cc] 26)).cell? ⟨g, 8, none⟩ = some (.slice Aa vs.length ca) := (blk_cell (blk_below hd0 (below_alloc (Below.refl _ w) _)) 8).trans rfl
    by_cases hz : ((p.args.length + 1 : Nat) : Int) = p.want
    · have HW : Aside0 (ParS.step p 10 = (ParS.whole { p with args := p.args ++ [p.cur], st := .dollar }, 0)) := ⟨by unfold ParS.step; rw [hs]; show ParS.contFB p 10 = _; unfold ParS.contFB; rw [if_neg (by decide), if_pos hz]⟩
      have hz1 : ((vs.length + 1 : Nat) : Int) = p.want := by rw [hvl]; exact hz
      have hz2 : (vs.length : Int) + 1 = p.want := by omega
      clear h hd0 hz hgv hel hO1 hol hcu hi hs hl hvl harg
      go_enter Try.func97, Try.ntmps97
      go_wp2_with fail
      refine wp_region_held_drew (S := fun _ => True) (by kernel_rfl) (by trivial) (fun hHeld => ?_)
      refine wpAnyH_take (i := 0) (oi := ({ dst := some 7, op := Go.Op.move (Go.Operand.tmp 0), type := 34, pos := "parser.go:179", after := #[], guard := none } : Oper)) (v := ?vq1) rfl (by kernel_rfl) (by kernel_rfl) (by kernel_rfl) (fun _ _ _ h => h) (Or.inl ⟨by rfl, ?hyq1⟩) (by first | trivial | assumption) ?restq1
      case hyq1 => (intro w hSw; (try dsimp only at hSw); go_simp; (try with_reducible rfl))
      (try simp only [Act.put, List.setIfInBounds_toArray, List.set_cons_zero, List.set_cons_succ])
      refine wpAnyH_take (i := 1) (oi := ({ dst := some 8, op := Go.Op.move (Go.Operand.tmp 0), type := 34, pos := "parser.go:179", after := #[], guard := none } : Oper)) (v := ?vq2) rfl (by kernel_rfl) (by kernel_rfl) (by kernel_rfl) (fun _ _ _ h => h) (Or.inl ⟨by rfl, ?hyq2⟩) (by first | trivial | assumption) ?restq2
      case hyq2 => (intro w hSw; (try dsimp only at hSw); go_simp; (try with_reducible rfl))
      (try simp only [Act.put, List.setIfInBounds_toArray, List.set_cons_zero, List.set_cons_succ])
      refine wpAnyH_take (i := 2) (oi := ({ dst := some 9, op := Go.Op.nilCheck (Go.Operand.tmp 8), type := 0, pos := "parser.go:179", after := #[{ on := 1, ground := Go.Ground.data }], guard := none } : Oper)) (v := ?vq3) rfl (by kernel_rfl) (by kernel_rfl) (by kernel_rfl) (fun _ _ _ h => h) (Or.inl ⟨by rfl, ?hyq3⟩) (by first | trivial | assumption) ?restq3
      case hyq3 => (intro w hSw; (try dsimp only at hSw); go_simp; (try with_reducible rfl))
      (try simp only [Act.put, List.setIfInBounds_toArray, List.set_cons_zero, List.set_cons_succ])
      refine wpAnyH_take (i := 3) (oi := ({ dst := some 10, op := Go.Op.fieldAddr 84 (Go.Operand.tmp 9) 8, type := 0, pos := "parser.go:179", after := #[{ on := 2, ground := Go.Ground.data }], guard := none } : Oper)) (v := ?vq4) rfl (by kernel_rfl) (by kernel_rfl) (by kernel_rfl) (fun _ _ _ h => h) (Or.inl ⟨by rfl, ?hyq4⟩) (by first | trivial | assumption) ?restq4
      case hyq4 => (intro w hSw; (try dsimp only at hSw); go_simp; (try with_reducible rfl))
      (try simp only [Act.put, List.setIfInBounds_toArray, List.set_cons_zero, List.set_cons_succ])
      refine wpAnyH_take (i := 5) (oi := ({ dst := some 12, op := Go.Op.move (Go.Operand.tmp 0), type := 34, pos := "parser.go:179", after := #[], guard := none } : Oper)) (v := ?vq5) rfl (by kernel_rfl) (by kernel_rfl) (by kernel_rfl) (fun _ _ _ h => h) (Or.inl ⟨by rfl, ?hyq5⟩) (by first | trivial | assumption) ?restq5
      case hyq5 => (intro w hSw; (try dsimp only at hSw); go_simp; (try with_reducible rfl))
      (try simp only [Act.put, List.setIfInBounds_toArray, List.set_cons_zero, List.set_cons_succ])
      refine wpAnyH_take (i := 6) (oi := ({ dst := some 13, op := Go.Op.nilCheck (Go.Operand.tmp 12), type := 0, pos := "parser.go:179", after := #[{ on := 5, ground := Go.Ground.data }], guard := none } : Oper)) (v := ?vq6) rfl (by kernel_rfl) (by kernel_rfl) (by kernel_rfl) (fun _ _ _ h => h) (Or.inl ⟨by rfl, ?hyq6⟩) (by first | trivial | assumption) ?restq6
      case hyq6 => (intro w hSw; (try dsimp only at hSw); go_simp; (try with_reducible rfl))
      (try simp only [Act.put, List.setIfInBounds_toArray, List.set_cons_zero, List.set_cons_succ])
      refine wpAnyH_take (i := 7) (oi := ({ dst := some 14, op := Go.Op.fieldAddr 84 (Go.Operand.tmp 13) 9, type := 0, pos := "parser.go:179", after := #[{ on := 6, ground := Go.Ground.data }], guard := none } : Oper)) (v := ?vq7) rfl (by kernel_rfl) (by kernel_rfl) (by kernel_rfl) (fun _ _ _ h => h) (Or.inl ⟨by rfl, ?hyq7⟩) (by first | trivial | assumption) ?restq7
      case hyq7 => (intro w hSw; (try dsimp only at hSw); go_simp; (try with_reducible rfl))
      (try simp only [Act.put, List.setIfInBounds_toArray, List.set_cons_zero, List.set_cons_succ])
      refine wpAnyH_ready (rs := [4, 8]) (by kernel_rfl) (by simp) ?_
      refine AllReadyH.cons (o := ({ dst := some 11, op := Go.Op.load 22 (Go.Operand.tmp 10), type := 22, pos := "parser.go:179", after := #[{ on := 3, ground := Go.Ground.data }], guard := none } : Oper)) rfl (fun K hK => ?_) ?_
      · go_simp
        refine hK.out _ _ (by trivial) (fun hHeld => ?_)
        clear hK K
        (try simp only [Act.put, List.setIfInBounds_toArray, List.set_cons_zero, List.set_cons_succ])
        refine wpAnyH_ready (rs := [8]) (by kernel_rfl) (by simp) ?_
        refine AllReadyH.cons (o := ({ dst := some 15, op := Go.Op.load 26 (Go.Operand.tmp 14), type := 26, pos := "parser.go:179", after := #[{ on := 7, ground := Go.Ground.data }], guard := none } : Oper)) rfl (fun K hK => ?_) ?_
        · go_simp
          refine hK.out _ _ (by trivial) (fun hHeld => ?_)
          clear hK K
          (try simp only [Act.put, List.setIfInBounds_toArray, List.set_cons_zero, List.set_cons_succ])
          refine wpAnyH_ready (rs := [9]) (by kernel_rfl) (by simp) ?_
          refine AllReadyH.cons (o := ({ dst := some 16, op := Go.Op.buildSlice 22 1 #[(0, Go.Operand.tmp 15)], type := 22, pos := "parser.go:179", after := #[{ on := 8, ground := Go.Ground.data }], guard := none } : Oper)) rfl (fun K hK => ?_) ?_
          · go_simp
            refine hK.out _ _ (by trivial) (fun hHeld => ?_)
            clear hK K
            (try simp only [Act.put, List.setIfInBounds_toArray, List.set_cons_zero, List.set_cons_succ])
            refine wpAnyH_ready (rs := [10]) (by kernel_rfl) (by simp) ?_
            refine AllReadyH.cons (o := ({ dst := some 17, op := Go.Op.call { callee := Go.Callee.builtin Go.Builtin.append, args := #[Go.Operand.tmp 11, Go.Operand.tmp 16], argTypes := #[22, 22] }, type := 22, pos := "parser.go:179", after := #[{ on := 4, ground := Go.Ground.data }, { on := 9, ground := Go.Ground.data }], guard := none } : Oper)) rfl (fun K hK => ?_) ?_
            · (refine step_gen2 _ rfl (.tmp 11) (.tmp 16) 22 26 rfl Try.underlying22 (.slice none 0 0) 24 (by kernel_rfl) rfl (by decide) (.slice Aa vs.length ca) vs rfl ?hv ⟨_, 0, none⟩ (.slice Ac p.cur.length cc) rfl ?hc rfl ?hb ?_; go_must ((case hv => exact HG.out.upd (S := none_) (Upd.of_below (below_alloc (Below.refl _ w).drew _)) (fun _ _ h => h))); go_must ((case hc => exact cell_one_new _ _ _ 0 _ rfl)); go_must ((case hb => exact HVS.out)); intro v2 w2 hr; obtain ⟨g2, c2, e2⟩ := hr.form; subst e2; have G2 := Aside0.mk (argsGrew H.out HL.out HE1.out HO1.out (below_alloc (Below.refl _ w).drew _) hr); clear hr hx9 hx8 hx8a; have hd2 := G2.out.1; have ex0 := (blk_cell hd2 8).trans (show _ = some (.slice Aa vs.length ca : Value) from rfl); have ef0 := blk_frozen hd2 8; have eh0 := blk_set hd2 8 (.slice (some ⟨g2, 0, none⟩) (vs.length + 1) c2); have ex1 := (blk_cell eh0 0).trans (show _ = some (fnV g p.st : Value) from rfl); have ef1 := blk_frozen eh0 0; have eh1 := blk_set eh0 0 (fnV g .dollar); have EZ := Aside0.mk eh1; clear eh0 eh1; have HK := Aside0.mk (And.intro ((blk_cell EZ.out 8).trans (show _ = some (Value.slice (some ⟨g2, 0, none⟩) (vs.length + 1) c2) from rfl)) ((blk_cell EZ.out 7).trans (show _ = some (Value.int .i64 p.want) from rfl))); clear hd2)
              refine hK.out _ _ (by trivial) (fun hHeld => ?_)
              clear hK K
              (try simp only [Act.put, List.setIfInBounds_toArray, List.set_cons_zero, List.set_cons_succ])
              refine wpAnyH_take (i := 11) (oi := ({ dst := some 18, op := Go.Op.nilCheck (Go.Operand.tmp 7), type := 0, pos := "parser.go:179", after := #[{ on := 0, ground := Go.Ground.data }, { on := 0, ground := Go.Ground.phase }, { on := 1, ground := Go.Ground.phase }, { on := 2, ground := Go.Ground.phase }, { on := 3, ground := Go.Ground.phase }, { on := 4, ground := Go.Ground.phase }, { on := 5, ground := Go.Ground.phase }, { on := 6, ground := Go.Ground.phase }, { on := 7, ground := Go.Ground.phase }, { on := 8, ground := Go.Ground.phase }, { on := 9, ground := Go.Ground.phase }, { on := 10, ground := Go.Ground.phase }], guard := none } : Oper)) (v := ?vq8) rfl (by kernel_rfl) (by kernel_rfl) (by kernel_rfl) (fun _ _ _ h => h) (Or.inl ⟨by rfl, ?hyq8⟩) (by first | trivial | assumption) ?restq8
              case hyq8 => (intro w hSw; (try dsimp only at hSw); go_simp; (try with_reducible rfl))
              (try simp only [Act.put, List.setIfInBounds_toArray, List.set_cons_zero, List.set_cons_succ])
              refine wpAnyH_take (i := 12) (oi := ({ dst := some 19, op := Go.Op.fieldAddr 84 (Go.Operand.tmp 18) 8, type := 0, pos := "parser.go:179", after := #[{ on := 11, ground := Go.Ground.data }, { on := 0, ground := Go.Ground.phase }, { on := 1, ground := Go.Ground.phase }, { on := 2, ground := Go.Ground.phase }, { on := 3, ground := Go.Ground.phase }, { on := 4, ground := Go.Ground.phase }, { on := 5, ground := Go.Ground.phase }, { on := 6, ground := Go.Ground.phase }, { on := 7, ground := Go.Ground.phase }, { on := 8, ground := Go.Ground.phase }, { on := 9, ground := Go.Ground.phase }, { on := 10, ground := Go.Ground.phase }], guard := none } : Oper)) (v := ?vq9) rfl (by kernel_rfl) (by kernel_rfl) (by kernel_rfl) (fun _ _ _ h => h) (Or.inl ⟨by rfl, ?hyq9⟩) (by first | trivial | assumption) ?restq9
              case hyq9 => (intro w hSw; (try dsimp only at hSw); go_simp; (try with_reducible rfl))
              (try simp only [Act.put, List.setIfInBounds_toArray, List.set_cons_zero, List.set_cons_succ])
              refine wpAnyH_ready (rs := [13]) (by kernel_rfl) (by simp) ?_
              refine AllReadyH.cons (o := ({ dst := none, op := Go.Op.store 22 (Go.Operand.tmp 19) (Go.Operand.tmp 17), type := 0, pos := "parser.go:179", after := #[{ on := 12, ground := Go.Ground.data }, { on := 10, ground := Go.Ground.data }, { on := 10, ground := Go.Ground.chain }, { on := 0, ground := Go.Ground.phase }, { on := 1, ground := Go.Ground.phase }, { on := 2, ground := Go.Ground.phase }, { on := 3, ground := Go.Ground.phase }, { on := 4, ground := Go.Ground.phase }, { on := 5, ground := Go.Ground.phase }, { on := 6, ground := Go.Ground.phase }, { on := 7, ground := Go.Ground.phase }, { on := 8, ground := Go.Ground.phase }, { on := 9, ground := Go.Ground.phase }, { on := 10, ground := Go.Ground.phase }], guard := none } : Oper)) rfl (fun K hK => ?_) ?_
              · go_simp
                refine hK.out _ _ (by trivial) (fun hHeld => ?_)
                clear hK K
                (try simp only [Act.put, List.setIfInBounds_toArray, List.set_cons_zero, List.set_cons_succ])
                refine wpAnyH_done (by kernel_rfl) ?_ _
                go_wp2_with fail
                go_region_held3 (fun w' => w'.cell? ⟨g, 8, none⟩ = some (Value.slice (some ⟨g2, 0, none⟩) (vs.length + 1) c2) ∧ w'.cell? ⟨g, 7, none⟩ = some (Value.int .i64 p.want)) (first | exact HK.out | go_keep) (fail)
                go_wp2_with (go_at_call 54; obtain ⟨Oa', b1, b2, b3⟩ := G2.out.2 _ { p with args := p.args ++ [p.cur], st := .dollar } (by ((repeat (refine up1 ?_ _ _)); exact Upd.refl _ _)) (EZ.out.trans (by rfl)) rfl rfl rfl; have H3 := Aside0.mk (And.intro b1 (And.intro b2 b3)); clear b1 b2 b3; refine (whole.calls (H3.out.1.upd (S := none_) (by first | exact Upd.refl _ _ | exact (Upd.refl _ _).drew) (fun _ _ h => h)) HOL.out).mono ?_; rintro e w4 ⟨rfl, hq⟩; have H4 := Aside0.mk (PQ.trans (H3.out.1.upd (S := none_) (by first | exact Upd.refl _ _ | exact (Upd.refl _ _).drew) (fun _ _ h => h)) H3.out.2.1 (by first | exact H3.out.2.2 | exact H3.out.2.2.drew) hq); clear hq)
                go_ret
                rw [HW.out]
                exact ⟨rfl, H4.out⟩
              exact AllReadyH.nil
            exact AllReadyH.nil
          exact AllReadyH.nil
        exact AllReadyH.nil
      refine AllReadyH.cons (o := ({ dst := some 15, op := Go.Op.load 26 (Go.Operand.tmp 14), type := 26, pos := "parser.go:179", after := #[{ on := 7, ground := Go.Ground.data }], guard := none } : Oper)) rfl (fun K hK => ?_) ?_
      · go_simp
        refine hK.out _ _ (by trivial) (fun hHeld => ?_)
        clear hK K
        (try simp only [Act.put, List.setIfInBounds_toArray, List.set_cons_zero, List.set_cons_succ])
        refine wpAnyH_ready (rs := [4, 9]) (by kernel_rfl) (by simp) ?_
        refine AllReadyH.cons (o := ({ dst := some 11, op := Go.Op.load 22 (Go.Operand.tmp 10), type := 22, pos := "parser.go:179", after := #[{ on := 3, ground := Go.Ground.data }], guard := none } : Oper)) rfl (fun K hK => ?_) ?_
        · go_simp
          refine hK.out _ _ (by trivial) (fun hHeld => ?_)
          clear hK K
          (try simp only [Act.put, List.setIfInBounds_toArray, List.set_cons_zero, List.set_cons_succ])
          refine wpAnyH_ready (rs := [9]) (by kernel_rfl) (by simp) ?_
          refine AllReadyH.cons (o := ({ dst := some 16, op := Go.Op.buildSlice 22 1 #[(0, Go.Operand.tmp 15)], type := 22, pos := "parser.go:179", after := #[{ on := 8, ground := Go.Ground.data }], guard := none } : Oper)) rfl (fun K hK => ?_) ?_
          · go_simp
            refine hK.out _ _ (by trivial) (fun hHeld => ?_)
            clear hK K
            (try simp only [Act.put, List.setIfInBounds_toArray, List.set_cons_zero, List.set_cons_succ])
            refine wpAnyH_ready (rs := [10]) (by kernel_rfl) (by simp) ?_
            refine AllReadyH.cons (o := ({ dst := some 17, op := Go.Op.call { callee := Go.Callee.builtin Go.Builtin.append, args := #[Go.Operand.tmp 11, Go.Operand.tmp 16], argTypes := #[22, 22] }, type := 22, pos := "parser.go:179", after := #[{ on := 4, ground := Go.Ground.data }, { on := 9, ground := Go.Ground.data }], guard := none } : Oper)) rfl (fun K hK => ?_) ?_
            · (refine step_gen2 _ rfl (.tmp 11) (.tmp 16) 22 26 rfl Try.underlying22 (.slice none 0 0) 24 (by kernel_rfl) rfl (by decide) (.slice Aa vs.length ca) vs rfl ?hv ⟨_, 0, none⟩ (.slice Ac p.cur.length cc) rfl ?hc rfl ?hb ?_; go_must ((case hv => exact HG.out.upd (S := none_) (Upd.of_below (below_alloc (Below.refl _ w).drew _)) (fun _ _ h => h))); go_must ((case hc => exact cell_one_new _ _ _ 0 _ rfl)); go_must ((case hb => exact HVS.out)); intro v2 w2 hr; obtain ⟨g2, c2, e2⟩ := hr.form; subst e2; have G2 := Aside0.mk (argsGrew H.out HL.out HE1.out HO1.out (below_alloc (Below.refl _ w).drew _) hr); clear hr hx9 hx8 hx8a; have hd2 := G2.out.1; have ex0 := (blk_cell hd2 8).trans (show _ = some (.slice Aa vs.length ca : Value) from rfl); have ef0 := blk_frozen hd2 8; have eh0 := blk_set hd2 8 (.slice (some ⟨g2, 0, none⟩) (vs.length + 1) c2); have ex1 := (blk_cell eh0 0).trans (show _ = some (fnV g p.st : Value) from rfl); have ef1 := blk_frozen eh0 0; have eh1 := blk_set eh0 0 (fnV g .dollar); have EZ := Aside0.mk eh1; clear eh0 eh1; have HK := Aside0.mk (And.intro ((blk_cell EZ.out 8).trans (show _ = some (Value.slice (some ⟨g2, 0, none⟩) (vs.length + 1) c2) from rfl)) ((blk_cell EZ.out 7).trans (show _ = some (Value.int .i64 p.want) from rfl))); clear hd2)
              refine hK.out _ _ (by trivial) (fun hHeld => ?_)
              clear hK K
              (try simp only [Act.put, List.setIfInBounds_toArray, List.set_cons_zero, List.set_cons_succ])
              refine wpAnyH_take (i := 11) (oi := ({ dst := some 18, op := Go.Op.nilCheck (Go.Operand.tmp 7), type := 0, pos := "parser.go:179", after := #[{ on := 0, ground := Go.Ground.data }, { on := 0, ground := Go.Ground.phase }, { on := 1, ground := Go.Ground.phase }, { on := 2, ground := Go.Ground.phase }, { on := 3, ground := Go.Ground.phase }, { on := 4, ground := Go.Ground.phase }, { on := 5, ground := Go.Ground.phase }, { on := 6, ground := Go.Ground.phase }, { on := 7, ground := Go.Ground.phase }, { on := 8, ground := Go.Ground.phase }, { on := 9, ground := Go.Ground.phase }, { on := 10, ground := Go.Ground.phase }], guard := none } : Oper)) (v := ?vq10) rfl (by kernel_rfl) (by kernel_rfl) (by kernel_rfl) (fun _ _ _ h => h) (Or.inl ⟨by rfl, ?hyq10⟩) (by first | trivial | assumption) ?restq10
              case hyq10 => (intro w hSw; (try dsimp only at hSw); go_simp; (try with_reducible rfl))
              (try simp only [Act.put, List.setIfInBounds_toArray, List.set_cons_zero, List.set_cons_succ])
              refine wpAnyH_take (i := 12) (oi := ({ dst := some 19, op := Go.Op.fieldAddr 84 (Go.Operand.tmp 18) 8, type := 0, pos := "parser.go:179", after := #[{ on := 11, ground := Go.Ground.data }, { on := 0, ground := Go.Ground.phase }, { on := 1, ground := Go.Ground.phase }, { on := 2, ground := Go.Ground.phase }, { on := 3, ground := Go.Ground.phase }, { on := 4, ground := Go.Ground.phase }, { on := 5, ground := Go.Ground.phase }, { on := 6, ground := Go.Ground.phase }, { on := 7, ground := Go.Ground.phase }, { on := 8, ground := Go.Ground.phase }, { on := 9, ground := Go.Ground.phase }, { on := 10, ground := Go.Ground.phase }], guard := none } : Oper)) (v := ?vq11) rfl (by kernel_rfl) (by kernel_rfl) (by kernel_rfl) (fun _ _ _ h => h) (Or.inl ⟨by rfl, ?hyq11⟩) (by first | trivial | assumption) ?restq11
              case hyq11 => (intro w hSw; (try dsimp only at hSw); go_simp; (try with_reducible rfl))
              (try simp only [Act.put, List.setIfInBounds_toArray, List.set_cons_zero, List.set_cons_succ])
              refine wpAnyH_ready (rs := [13]) (by kernel_rfl) (by simp) ?_
              refine AllReadyH.cons (o := ({ dst := none, op := Go.Op.store 22 (Go.Operand.tmp 19) (Go.Operand.tmp 17), type := 0, pos := "parser.go:179", after := #[{ on := 12, ground := Go.Ground.data }, { on := 10, ground := Go.Ground.data }, { on := 10, ground := Go.Ground.chain }, { on := 0, ground := Go.Ground.phase }, { on := 1, ground := Go.Ground.phase }, { on := 2, ground := Go.Ground.phase }, { on := 3, ground := Go.Ground.phase }, { on := 4, ground := Go.Ground.phase }, { on := 5, ground := Go.Ground.phase }, { on := 6, ground := Go.Ground.phase }, { on := 7, ground := Go.Ground.phase }, { on := 8, ground := Go.Ground.phase }, { on := 9, ground := Go.Ground.phase }, { on := 10, ground := Go.Ground.phase }], guard := none } : Oper)) rfl (fun K hK => ?_) ?_
              · go_simp
                refine hK.out _ _ (by trivial) (fun hHeld => ?_)
                clear hK K
                (try simp only [Act.put, List.setIfInBounds_toArray, List.set_cons_zero, List.set_cons_succ])
                refine wpAnyH_done (by kernel_rfl) ?_ _
                go_wp2_with fail
                go_region_held3 (fun w' => w'.cell? ⟨g, 8, none⟩ = some (Value.slice (some ⟨g2, 0, none⟩) (vs.length + 1) c2) ∧ w'.cell? ⟨g, 7, none⟩ = some (Value.int .i64 p.want)) (first | exact HK.out | go_keep) (fail)
                go_wp2_with (go_at_call 54; obtain ⟨Oa', b1, b2, b3⟩ := G2.out.2 _ { p with args := p.args ++ [p.cur], st := .dollar } (by ((repeat (refine up1 ?_ _ _)); exact Upd.refl _ _)) (EZ.out.trans (by rfl)) rfl rfl rfl; have H3 := Aside0.mk (And.intro b1 (And.intro b2 b3)); clear b1 b2 b3; refine (whole.calls (H3.out.1.upd (S := none_) (by first | exact Upd.refl _ _ | exact (Upd.refl _ _).drew) (fun _ _ h => h)) HOL.out).mono ?_; rintro e w4 ⟨rfl, hq⟩; have H4 := Aside0.mk (PQ.trans (H3.out.1.upd (S := none_) (by first | exact Upd.refl _ _ | exact (Upd.refl _ _).drew) (fun _ _ h => h)) H3.out.2.1 (by first | exact H3.out.2.2 | exact H3.out.2.2.drew) hq); clear hq)
                go_ret
                rw [HW.out]
                exact ⟨rfl, H4.out⟩
              exact AllReadyH.nil
            exact AllReadyH.nil
          exact AllReadyH.nil
        refine AllReadyH.cons (o := ({ dst := some 16, op := Go.Op.buildSlice 22 1 #[(0, Go.Operand.tmp 15)], type := 22, pos := "parser.go:179", after := #[{ on := 8, ground := Go.Ground.data }], guard := none } : Oper)) rfl (fun K hK => ?_) ?_
        · go_simp
          refine hK.out _ _ (by trivial) (fun hHeld => ?_)
          clear hK K
          (try simp only [Act.put, List.setIfInBounds_toArray, List.set_cons_zero, List.set_cons_succ])
          refine wpAnyH_ready (rs := [4]) (by kernel_rfl) (by simp) ?_
          refine AllReadyH.cons (o := ({ dst := some 11, op := Go.Op.load 22 (Go.Operand.tmp 10), type := 22, pos := "parser.go:179", after := #[{ on := 3, ground := Go.Ground.data }], guard := none } : Oper)) rfl (fun K hK => ?_) ?_
          · go_simp
            refine hK.out _ _ (by trivial) (fun hHeld => ?_)
            clear hK K
            (try simp only [Act.put, List.setIfInBounds_toArray, List.set_cons_zero, List.set_cons_succ])
            refine wpAnyH_ready (rs := [10]) (by kernel_rfl) (by simp) ?_
            refine AllReadyH.cons (o := ({ dst := some 17, op := Go.Op.call { callee := Go.Callee.builtin Go.Builtin.append, args := #[Go.Operand.tmp 11, Go.Operand.tmp 16], argTypes := #[22, 22] }, type := 22, pos := "parser.go:179", after := #[{ on := 4, ground := Go.Ground.data }, { on := 9, ground := Go.Ground.data }], guard := none } : Oper)) rfl (fun K hK => ?_) ?_
            · (refine step_gen2 _ rfl (.tmp 11) (.tmp 16) 22 26 rfl Try.underlying22 (.slice none 0 0) 24 (by kernel_rfl) rfl (by decide) (.slice Aa vs.length ca) vs rfl ?hv ⟨_, 0, none⟩ (.slice Ac p.cur.length cc) rfl ?hc rfl ?hb ?_; go_must ((case hv => exact HG.out.upd (S := none_) (Upd.of_below (below_alloc (Below.refl _ w).drew _)) (fun _ _ h => h))); go_must ((case hc => exact cell_one_new _ _ _ 0 _ rfl)); go_must ((case hb => exact HVS.out)); intro v2 w2 hr; obtain ⟨g2, c2, e2⟩ := hr.form; subst e2; have G2 := Aside0.mk (argsGrew H.out HL.out HE1.out HO1.out (below_alloc (Below.refl _ w).drew _) hr); clear hr hx9 hx8 hx8a; have hd2 := G2.out.1; have ex0 := (blk_cell hd2 8).trans (show _ = some (.slice Aa vs.length ca : Value) from rfl); have ef0 := blk_frozen hd2 8; have eh0 := blk_set hd2 8 (.slice (some ⟨g2, 0, none⟩) (vs.length + 1) c2); have ex1 := (blk_cell eh0 0).trans (show _ = some (fnV g p.st : Value) from rfl); have ef1 := blk_frozen eh0 0; have eh1 := blk_set eh0 0 (fnV g .dollar); have EZ := Aside0.mk eh1; clear eh0 eh1; have HK := Aside0.mk (And.intro ((blk_cell EZ.out 8).trans (show _ = some (Value.slice (some ⟨g2, 0, none⟩) (vs.length + 1) c2) from rfl)) ((blk_cell EZ.out 7).trans (show _ = some (Value.int .i64 p.want) from rfl))); clear hd2)
              refine hK.out _ _ (by trivial) (fun hHeld => ?_)
              clear hK K
              (try simp only [Act.put, List.setIfInBounds_toArray, List.set_cons_zero, List.set_cons_succ])
              refine wpAnyH_take (i := 11) (oi := ({ dst := some 18, op := Go.Op.nilCheck (Go.Operand.tmp 7), type := 0, pos := "parser.go:179", after := #[{ on := 0, ground := Go.Ground.data }, { on := 0, ground := Go.Ground.phase }, { on := 1, ground := Go.Ground.phase }, { on := 2, ground := Go.Ground.phase }, { on := 3, ground := Go.Ground.phase }, { on := 4, ground := Go.Ground.phase }, { on := 5, ground := Go.Ground.phase }, { on := 6, ground := Go.Ground.phase }, { on := 7, ground := Go.Ground.phase }, { on := 8, ground := Go.Ground.phase }, { on := 9, ground := Go.Ground.phase }, { on := 10, ground := Go.Ground.phase }], guard := none } : Oper)) (v := ?vq12) rfl (by kernel_rfl) (by kernel_rfl) (by kernel_rfl) (fun _ _ _ h => h) (Or.inl ⟨by rfl, ?hyq12⟩) (by first | trivial | assumption) ?restq12
              case hyq12 => (intro w hSw; (try dsimp only at hSw); go_simp; (try with_reducible rfl))
              (try simp only [Act.put, List.setIfInBounds_toArray, List.set_cons_zero, List.set_cons_succ])
              refine wpAnyH_take (i := 12) (oi := ({ dst := some 19, op := Go.Op.fieldAddr 84 (Go.Operand.tmp 18) 8, type := 0, pos := "parser.go:179", after := #[{ on := 11, ground := Go.Ground.data }, { on := 0, ground := Go.Ground.phase }, { on := 1, ground := Go.Ground.phase }, { on := 2, ground := Go.Ground.phase }, { on := 3, ground := Go.Ground.phase }, { on := 4, ground := Go.Ground.phase }, { on := 5, ground := Go.Ground.phase }, { on := 6, ground := Go.Ground.phase }, { on := 7, ground := Go.Ground.phase }, { on := 8, ground := Go.Ground.phase }, { on := 9, ground := Go.Ground.phase }, { on := 10, ground := Go.Ground.phase }], guard := none } : Oper)) (v := ?vq13) rfl (by kernel_rfl) (by kernel_rfl) (by kernel_rfl) (fun _ _ _ h => h) (Or.inl ⟨by rfl, ?hyq13⟩) (by first | trivial | assumption) ?restq13
              case hyq13 => (intro w hSw; (try dsimp only at hSw); go_simp; (try with_reducible rfl))
              (try simp only [Act.put, List.setIfInBounds_toArray, List.set_cons_zero, List.set_cons_succ])
              refine wpAnyH_ready (rs := [13]) (by kernel_rfl) (by simp) ?_
              refine AllReadyH.cons (o := ({ dst := none, op := Go.Op.store 22 (Go.Operand.tmp 19) (Go.Operand.tmp 17), type := 0, pos := "parser.go:179", after := #[{ on := 12, ground := Go.Ground.data }, { on := 10, ground := Go.Ground.data }, { on := 10, ground := Go.Ground.chain }, { on := 0, ground := Go.Ground.phase }, { on := 1, ground := Go.Ground.phase }, { on := 2, ground := Go.Ground.phase }, { on := 3, ground := Go.Ground.phase }, { on := 4, ground := Go.Ground.phase }, { on := 5, ground := Go.Ground.phase }, { on := 6, ground := Go.Ground.phase }, { on := 7, ground := Go.Ground.phase }, { on := 8, ground := Go.Ground.phase }, { on := 9, ground := Go.Ground.phase }, { on := 10, ground := Go.Ground.phase }], guard := none } : Oper)) rfl (fun K hK => ?_) ?_
              · go_simp
                refine hK.out _ _ (by trivial) (fun hHeld => ?_)
                clear hK K
                (try simp only [Act.put, List.setIfInBounds_toArray, List.set_cons_zero, List.set_cons_succ])
                refine wpAnyH_done (by kernel_rfl) ?_ _
                go_wp2_with fail
                go_region_held3 (fun w' => w'.cell? ⟨g, 8, none⟩ = some (Value.slice (some ⟨g2, 0, none⟩) (vs.length + 1) c2) ∧ w'.cell? ⟨g, 7, none⟩ = some (Value.int .i64 p.want)) (first | exact HK.out | go_keep) (fail)
                go_wp2_with (go_at_call 54; obtain ⟨Oa', b1, b2, b3⟩ := G2.out.2 _ { p with args := p.args ++ [p.cur], st := .dollar } (by ((repeat (refine up1 ?_ _ _)); exact Upd.refl _ _)) (EZ.out.trans (by rfl)) rfl rfl rfl; have H3 := Aside0.mk (And.intro b1 (And.intro b2 b3)); clear b1 b2 b3; refine (whole.calls (H3.out.1.upd (S := none_) (by first | exact Upd.refl _ _ | exact (Upd.refl _ _).drew) (fun _ _ h => h)) HOL.out).mono ?_; rintro e w4 ⟨rfl, hq⟩; have H4 := Aside0.mk (PQ.trans (H3.out.1.upd (S := none_) (by first | exact Upd.refl _ _ | exact (Upd.refl _ _).drew) (fun _ _ h => h)) H3.out.2.1 (by first | exact H3.out.2.2 | exact H3.out.2.2.drew) hq); clear hq)
                go_ret
                rw [HW.out]
                exact ⟨rfl, H4.out⟩
              exact AllReadyH.nil
            exact AllReadyH.nil
          exact AllReadyH.nil
        exact AllReadyH.nil
      exact AllReadyH.nil
    · have HW : Aside0 (ParS.step p 10 = ({ p with args := p.args ++ [p.cur], st := .dollar }, 0)) := ⟨by unfold ParS.step; rw [hs]; show ParS.contFB p 10 = _; unfold ParS.contFB; rw [if_neg (by decide), if_neg hz]⟩
      have hz1 : ¬ ((vs.length + 1 : Nat) : Int) = p.want := by rw [hvl]; exact hz
      have hz2 : ¬ (vs.length : Int) + 1 = p.want := by omega
      clear h hd0 hz hgv hel hO1 hol hcu hi hs hl hvl harg
      go_enter Try.func97, Try.ntmps97
      go_wp2_with fail
      refine wp_region_held_drew (S := fun _ => True) (by kernel_rfl) (by trivial) (fun hHeld => ?_)
      refine wpAnyH_take (i := 0) (oi := ({ dst := some 7, op := Go.Op.move (Go.Operand.tmp 0), type := 34, pos := "parser.go:179", after := #[], guard := none } : Oper)) (v := ?vr1) rfl (by kernel_rfl) (by kernel_rfl) (by kernel_rfl) (fun _ _ _ h => h) (Or.inl ⟨by rfl, ?hyr1⟩) (by first | trivial | assumption) ?restr1
      case hyr1 => (intro w hSw; (try dsimp only at hSw); go_simp; (try with_reducible rfl))
      (try simp only [Act.put, List.setIfInBounds_toArray, List.set_cons_zero, List.set_cons_succ])
      refine wpAnyH_take (i := 1) (oi := ({ dst := some 8, op := Go.Op.move (Go.Operand.tmp 0), type := 34, pos := "parser.go:179", after := #[], guard := none } : Oper)) (v := ?vr2) rfl (by kernel_rfl) (by kernel_rfl) (by kernel_rfl) (fun _ _ _ h => h) (Or.inl ⟨by rfl, ?hyr2⟩) (by first | trivial | assumption) ?restr2
      case hyr2 => (intro w hSw; (try dsimp only at hSw); go_simp; (try with_reducible rfl))
      (try simp only [Act.put, List.setIfInBounds_toArray, List.set_cons_zero, List.set_cons_succ])
      refine wpAnyH_take (i := 2) (oi := ({ dst := some 9, op := Go.Op.nilCheck (Go.Operand.tmp 8), type := 0, pos := "parser.go:179", after := #[{ on := 1, ground := Go.Ground.data }], guard := none } : Oper)) (v := ?vr3) rfl (by kernel_rfl) (by kernel_rfl) (by kernel_rfl) (fun _ _ _ h => h) (Or.inl ⟨by rfl, ?hyr3⟩) (by first | trivial | assumption) ?restr3
      case hyr3 => (intro w hSw; (try dsimp only at hSw); go_simp; (try with_reducible rfl))
      (try simp only [Act.put, List.setIfInBounds_toArray, List.set_cons_zero, List.set_cons_succ])
      refine wpAnyH_take (i := 3) (oi := ({ dst := some 10, op := Go.Op.fieldAddr 84 (Go.Operand.tmp 9) 8, type := 0, pos := "parser.go:179", after := #[{ on := 2, ground := Go.Ground.data }], guard := none } : Oper)) (v := ?vr4) rfl (by kernel_rfl) (by kernel_rfl) (by kernel_rfl) (fun _ _ _ h => h) (Or.inl ⟨by rfl, ?hyr4⟩) (by first | trivial | assumption) ?restr4
      case hyr4 => (intro w hSw; (try dsimp only at hSw); go_simp; (try with_reducible rfl))
      (try simp only [Act.put, List.setIfInBounds_toArray, List.set_cons_zero, List.set_cons_succ])
      refine wpAnyH_take (i := 5) (oi := ({ dst := some 12, op := Go.Op.move (Go.Operand.tmp 0), type := 34, pos := "parser.go:179", after := #[], guard := none } : Oper)) (v := ?vr5) rfl (by kernel_rfl) (by kernel_rfl) (by kernel_rfl) (fun _ _ _ h => h) (Or.inl ⟨by rfl, ?hyr5⟩) (by first | trivial | assumption) ?restr5
      case hyr5 => (intro w hSw; (try dsimp only at hSw); go_simp; (try with_reducible rfl))
      (try simp only [Act.put, List.setIfInBounds_toArray, List.set_cons_zero, List.set_cons_succ])
      refine wpAnyH_take (i := 6) (oi := ({ dst := some 13, op := Go.Op.nilCheck (Go.Operand.tmp 12), type := 0, pos := "parser.go:179", after := #[{ on := 5, ground := Go.Ground.data }], guard := none } : Oper)) (v := ?vr6) rfl (by kernel_rfl) (by kernel_rfl) (by kernel_rfl) (fun _ _ _ h => h) (Or.inl ⟨by rfl, ?hyr6⟩) (by first | trivial | assumption) ?restr6
      case hyr6 => (intro w hSw; (try dsimp only at hSw); go_simp; (try with_reducible rfl))
      (try simp only [Act.put, List.setIfInBounds_toArray, List.set_cons_zero, List.set_cons_succ])
      refine wpAnyH_take (i := 7) (oi := ({ dst := some 14, op := Go.Op.fieldAddr 84 (Go.Operand.tmp 13) 9, type := 0, pos := "parser.go:179", after := #[{ on := 6, ground := Go.Ground.data }], guard := none } : Oper)) (v := ?vr7) rfl (by kernel_rfl) (by kernel_rfl) (by kernel_rfl) (fun _ _ _ h => h) (Or.inl ⟨by rfl, ?hyr7⟩) (by first | trivial | assumption) ?restr7
      case hyr7 => (intro w hSw; (try dsimp only at hSw); go_simp; (try with_reducible rfl))
      (try simp only [Act.put, List.setIfInBounds_toArray, List.set_cons_zero, List.set_cons_succ])
      refine wpAnyH_ready (rs := [4, 8]) (by kernel_rfl) (by simp) ?_
      refine AllReadyH.cons (o := ({ dst := some 11, op := Go.Op.load 22 (Go.Operand.tmp 10), type := 22, pos := "parser.go:179", after := #[{ on := 3, ground := Go.Ground.data }], guard := none } : Oper)) rfl (fun K hK => ?_) ?_
      · go_simp
        refine hK.out _ _ (by trivial) (fun hHeld => ?_)
        clear hK K
        (try simp only [Act.put, List.setIfInBounds_toArray, List.set_cons_zero, List.set_cons_succ])
        refine wpAnyH_ready (rs := [8]) (by kernel_rfl) (by simp) ?_
        refine AllReadyH.cons (o := ({ dst := some 15, op := Go.Op.load 26 (Go.Operand.tmp 14), type := 26, pos := "parser.go:179", after := #[{ on := 7, ground := Go.Ground.data }], guard := none } : Oper)) rfl (fun K hK => ?_) ?_
        · go_simp
          refine hK.out _ _ (by trivial) (fun hHeld => ?_)
          clear hK K
          (try simp only [Act.put, List.setIfInBounds_toArray, List.set_cons_zero, List.set_cons_succ])
          refine wpAnyH_ready (rs := [9]) (by kernel_rfl) (by simp) ?_
          refine AllReadyH.cons (o := ({ dst := some 16, op := Go.Op.buildSlice 22 1 #[(0, Go.Operand.tmp 15)], type := 22, pos := "parser.go:179", after := #[{ on := 8, ground := Go.Ground.data }], guard := none } : Oper)) rfl (fun K hK => ?_) ?_
          · go_simp
            refine hK.out _ _ (by trivial) (fun hHeld => ?_)
            clear hK K
            (try simp only [Act.put, List.setIfInBounds_toArray, List.set_cons_zero, List.set_cons_succ])
            refine wpAnyH_ready (rs := [10]) (by kernel_rfl) (by simp) ?_
            refine AllReadyH.cons (o := ({ dst := some 17, op := Go.Op.call { callee := Go.Callee.builtin Go.Builtin.append, args := #[Go.Operand.tmp 11, Go.Operand.tmp 16], argTypes := #[22, 22] }, type := 22, pos := "parser.go:179", after := #[{ on := 4, ground := Go.Ground.data }, { on := 9, ground := Go.Ground.data }], guard := none } : Oper)) rfl (fun K hK => ?_) ?_
            · (refine step_gen2 _ rfl (.tmp 11) (.tmp 16) 22 26 rfl Try.underlying22 (.slice none 0 0) 24 (by kernel_rfl) rfl (by decide) (.slice Aa vs.length ca) vs rfl ?hv ⟨_, 0, none⟩ (.slice Ac p.cur.length cc) rfl ?hc rfl ?hb ?_; go_must ((case hv => exact HG.out.upd (S := none_) (Upd.of_below (below_alloc (Below.refl _ w).drew _)) (fun _ _ h => h))); go_must ((case hc => exact cell_one_new _ _ _ 0 _ rfl)); go_must ((case hb => exact HVS.out)); intro v2 w2 hr; obtain ⟨g2, c2, e2⟩ := hr.form; subst e2; have G2 := Aside0.mk (argsGrew H.out HL.out HE1.out HO1.out (below_alloc (Below.refl _ w).drew _) hr); clear hr hx9 hx8 hx8a; have hd2 := G2.out.1; have ex0 := (blk_cell hd2 8).trans (show _ = some (.slice Aa vs.length ca : Value) from rfl); have ef0 := blk_frozen hd2 8; have eh0 := blk_set hd2 8 (.slice (some ⟨g2, 0, none⟩) (vs.length + 1) c2); have ex1 := (blk_cell eh0 0).trans (show _ = some (fnV g p.st : Value) from rfl); have ef1 := blk_frozen eh0 0; have eh1 := blk_set eh0 0 (fnV g .dollar); have EZ := Aside0.mk eh1; clear eh0 eh1; have HK := Aside0.mk (And.intro ((blk_cell EZ.out 8).trans (show _ = some (Value.slice (some ⟨g2, 0, none⟩) (vs.length + 1) c2) from rfl)) ((blk_cell EZ.out 7).trans (show _ = some (Value.int .i64 p.want) from rfl))); clear hd2)
              refine hK.out _ _ (by trivial) (fun hHeld => ?_)
              clear hK K
              (try simp only [Act.put, List.setIfInBounds_toArray, List.set_cons_zero, List.set_cons_succ])
              refine wpAnyH_take (i := 11) (oi := ({ dst := some 18, op := Go.Op.nilCheck (Go.Operand.tmp 7), type := 0, pos := "parser.go:179", after := #[{ on := 0, ground := Go.Ground.data }, { on := 0, ground := Go.Ground.phase }, { on := 1, ground := Go.Ground.phase }, { on := 2, ground := Go.Ground.phase }, { on := 3, ground := Go.Ground.phase }, { on := 4, ground := Go.Ground.phase }, { on := 5, ground := Go.Ground.phase }, { on := 6, ground := Go.Ground.phase }, { on := 7, ground := Go.Ground.phase }, { on := 8, ground := Go.Ground.phase }, { on := 9, ground := Go.Ground.phase }, { on := 10, ground := Go.Ground.phase }], guard := none } : Oper)) (v := ?vr8) rfl (by kernel_rfl) (by kernel_rfl) (by kernel_rfl) (fun _ _ _ h => h) (Or.inl ⟨by rfl, ?hyr8⟩) (by first | trivial | assumption) ?restr8
              case hyr8 => (intro w hSw; (try dsimp only at hSw); go_simp; (try with_reducible rfl))
              (try simp only [Act.put, List.setIfInBounds_toArray, List.set_cons_zero, List.set_cons_succ])
              refine wpAnyH_take (i := 12) (oi := ({ dst := some 19, op := Go.Op.fieldAddr 84 (Go.Operand.tmp 18) 8, type := 0, pos := "parser.go:179", after := #[{ on := 11, ground := Go.Ground.data }, { on := 0, ground := Go.Ground.phase }, { on := 1, ground := Go.Ground.phase }, { on := 2, ground := Go.Ground.phase }, { on := 3, ground := Go.Ground.phase }, { on := 4, ground := Go.Ground.phase }, { on := 5, ground := Go.Ground.phase }, { on := 6, ground := Go.Ground.phase }, { on := 7, ground := Go.Ground.phase }, { on := 8, ground := Go.Ground.phase }, { on := 9, ground := Go.Ground.phase }, { on := 10, ground := Go.Ground.phase }], guard := none } : Oper)) (v := ?vr9) rfl (by kernel_rfl) (by kernel_rfl) (by kernel_rfl) (fun _ _ _ h => h) (Or.inl ⟨by rfl, ?hyr9⟩) (by first | trivial | assumption) ?restr9
              case hyr9 => (intro w hSw; (try dsimp only at hSw); go_simp; (try with_reducible rfl))
              (try simp only [Act.put, List.setIfInBounds_toArray, List.set_cons_zero, List.set_cons_succ])
              refine wpAnyH_ready (rs := [13]) (by kernel_rfl) (by simp) ?_
              refine AllReadyH.cons (o := ({ dst := none, op := Go.Op.store 22 (Go.Operand.tmp 19) (Go.Operand.tmp 17), type := 0, pos := "parser.go:179", after := #[{ on := 12, ground := Go.Ground.data }, { on := 10, ground := Go.Ground.data }, { on := 10, ground := Go.Ground.chain }, { on := 0, ground := Go.Ground.phase }, { on := 1, ground := Go.Ground.phase }, { on := 2, ground := Go.Ground.phase }, { on := 3, ground := Go.Ground.phase }, { on := 4, ground := Go.Ground.phase }, { on := 5, ground := Go.Ground.phase }, { on := 6, ground := Go.Ground.phase }, { on := 7, ground := Go.Ground.phase }, { on := 8, ground := Go.Ground.phase }, { on := 9, ground := Go.Ground.phase }, { on := 10, ground := Go.Ground.phase }], guard := none } : Oper)) rfl (fun K hK => ?_) ?_
              · go_simp
                refine hK.out _ _ (by trivial) (fun hHeld => ?_)
                clear hK K
                (try simp only [Act.put, List.setIfInBounds_toArray, List.set_cons_zero, List.set_cons_succ])
                refine wpAnyH_done (by kernel_rfl) ?_ _
                go_wp2_with fail
                go_region_held3 (fun w' => w'.cell? ⟨g, 8, none⟩ = some (Value.slice (some ⟨g2, 0, none⟩) (vs.length + 1) c2) ∧ w'.cell? ⟨g, 7, none⟩ = some (Value.int .i64 p.want)) (first | exact HK.out | go_keep) (fail)
                go_wp2_with fail
                go_ret
                rw [HW.out]
                obtain ⟨Oa', b1, b2, b3⟩ := G2.out.2 _ { p with args := p.args ++ [p.cur], st := .dollar } (by ((repeat (refine up1 ?_ _ _)); exact Upd.refl _ _)) (EZ.out.trans (by rfl)) rfl rfl rfl
                exact ⟨rfl, _, _, _, _, _, _, b1.upd (S := none_) (by first | exact Upd.refl _ _ | exact (Upd.refl _ _).drew) (fun _ _ h => h), b2, by first | exact b3 | exact b3.drew⟩
              exact AllReadyH.nil
            exact AllReadyH.nil
          exact AllReadyH.nil
        exact AllReadyH.nil
      refine AllReadyH.cons (o := ({ dst := some 15, op := Go.Op.load 26 (Go.Operand.tmp 14), type := 26, pos := "parser.go:179", after := #[{ on := 7, ground := Go.Ground.data }], guard := none } : Oper)) rfl (fun K hK => ?_) ?_
      · go_simp
        refine hK.out _ _ (by trivial) (fun hHeld => ?_)
        clear hK K
        (try simp only [Act.put, List.setIfInBounds_toArray, List.set_cons_zero, List.set_cons_succ])
        refine wpAnyH_ready (rs := [4, 9]) (by kernel_rfl) (by simp) ?_
        refine AllReadyH.cons (o := ({ dst := some 11, op := Go.Op.load 22 (Go.Operand.tmp 10), type := 22, pos := "parser.go:179", after := #[{ on := 3, ground := Go.Ground.data }], guard := none } : Oper)) rfl (fun K hK => ?_) ?_
        · go_simp
          refine hK.out _ _ (by trivial) (fun hHeld => ?_)
          clear hK K
          (try simp only [Act.put, List.setIfInBounds_toArray, List.set_cons_zero, List.set_cons_succ])
          refine wpAnyH_ready (rs := [9]) (by kernel_rfl) (by simp) ?_
          refine AllReadyH.cons (o := ({ dst := some 16, op := Go.Op.buildSlice 22 1 #[(0, Go.Operand.tmp 15)], type := 22, pos := "parser.go:179", after := #[{ on := 8, ground := Go.Ground.data }], guard := none } : Oper)) rfl (fun K hK => ?_) ?_
          · go_simp
            refine hK.out _ _ (by trivial) (fun hHeld => ?_)
            clear hK K
            (try simp only [Act.put, List.setIfInBounds_toArray, List.set_cons_zero, List.set_cons_succ])
            refine wpAnyH_ready (rs := [10]) (by kernel_rfl) (by simp) ?_
            refine AllReadyH.cons (o := ({ dst := some 17, op := Go.Op.call { callee := Go.Callee.builtin Go.Builtin.append, args := #[Go.Operand.tmp 11, Go.Operand.tmp 16], argTypes := #[22, 22] }, type := 22, pos := "parser.go:179", after := #[{ on := 4, ground := Go.Ground.data }, { on := 9, ground := Go.Ground.data }], guard := none } : Oper)) rfl (fun K hK => ?_) ?_
            · (refine step_gen2 _ rfl (.tmp 11) (.tmp 16) 22 26 rfl Try.underlying22 (.slice none 0 0) 24 (by kernel_rfl) rfl (by decide) (.slice Aa vs.length ca) vs rfl ?hv ⟨_, 0, none⟩ (.slice Ac p.cur.length cc) rfl ?hc rfl ?hb ?_; go_must ((case hv => exact HG.out.upd (S := none_) (Upd.of_below (below_alloc (Below.refl _ w).drew _)) (fun _ _ h => h))); go_must ((case hc => exact cell_one_new _ _ _ 0 _ rfl)); go_must ((case hb => exact HVS.out)); intro v2 w2 hr; obtain ⟨g2, c2, e2⟩ := hr.form; subst e2; have G2 := Aside0.mk (argsGrew H.out HL.out HE1.out HO1.out (below_alloc (Below.refl _ w).drew _) hr); clear hr hx9 hx8 hx8a; have hd2 := G2.out.1; have ex0 := (blk_cell hd2 8).trans (show _ = some (.slice Aa vs.length ca : Value) from rfl); have ef0 := blk_frozen hd2 8; have eh0 := blk_set hd2 8 (.slice (some ⟨g2, 0, none⟩) (vs.length + 1) c2); have ex1 := (blk_cell eh0 0).trans (show _ = some (fnV g p.st : Value) from rfl); have ef1 := blk_frozen eh0 0; have eh1 := blk_set eh0 0 (fnV g .dollar); have EZ := Aside0.mk eh1; clear eh0 eh1; have HK := Aside0.mk (And.intro ((blk_cell EZ.out 8).trans (show _ = some (Value.slice (some ⟨g2, 0, none⟩) (vs.length + 1) c2) from rfl)) ((blk_cell EZ.out 7).trans (show _ = some (Value.int .i64 p.want) from rfl))); clear hd2)
              refine hK.out _ _ (by trivial) (fun hHeld => ?_)
              clear hK K
              (try simp only [Act.put, List.setIfInBounds_toArray, List.set_cons_zero, List.set_cons_succ])
              refine wpAnyH_take (i := 11) (oi := ({ dst := some 18, op := Go.Op.nilCheck (Go.Operand.tmp 7), type := 0, pos := "parser.go:179", after := #[{ on := 0, ground := Go.Ground.data }, { on := 0, ground := Go.Ground.phase }, { on := 1, ground := Go.Ground.phase }, { on := 2, ground := Go.Ground.phase }, { on := 3, ground := Go.Ground.phase }, { on := 4, ground := Go.Ground.phase }, { on := 5, ground := Go.Ground.phase }, { on := 6, ground := Go.Ground.phase }, { on := 7, ground := Go.Ground.phase }, { on := 8, ground := Go.Ground.phase }, { on := 9, ground := Go.Ground.phase }, { on := 10, ground := Go.Ground.phase }], guard := none } : Oper)) (v := ?vr10) rfl (by kernel_rfl) (by kernel_rfl) (by kernel_rfl) (fun _ _ _ h => h) (Or.inl ⟨by rfl, ?hyr10⟩) (by first | trivial | assumption) ?restr10
              case hyr10 => (intro w hSw; (try dsimp only at hSw); go_simp; (try with_reducible rfl))
              (try simp only [Act.put, List.setIfInBounds_toArray, List.set_cons_zero, List.set_cons_succ])
              refine wpAnyH_take (i := 12) (oi := ({ dst := some 19, op := Go.Op.fieldAddr 84 (Go.Operand.tmp 18) 8, type := 0, pos := "parser.go:179", after := #[{ on := 11, ground := Go.Ground.data }, { on := 0, ground := Go.Ground.phase }, { on := 1, ground := Go.Ground.phase }, { on := 2, ground := Go.Ground.phase }, { on := 3, ground := Go.Ground.phase }, { on := 4, ground := Go.Ground.phase }, { on := 5, ground := Go.Ground.phase }, { on := 6, ground := Go.Ground.phase }, { on := 7, ground := Go.Ground.phase }, { on := 8, ground := Go.Ground.phase }, { on := 9, ground := Go.Ground.phase }, { on := 10, ground := Go.Ground.phase }], guard := none } : Oper)) (v := ?vr11) rfl (by kernel_rfl) (by kernel_rfl) (by kernel_rfl) (fun _ _ _ h => h) (Or.inl ⟨by rfl, ?hyr11⟩) (by first | trivial | assumption) ?restr11
              case hyr11 => (intro w hSw; (try dsimp only at hSw); go_simp; (try with_reducible rfl))
              (try simp only [Act.put, List.setIfInBounds_toArray, List.set_cons_zero, List.set_cons_succ])
              refine wpAnyH_ready (rs := [13]) (by kernel_rfl) (by simp) ?_
              refine AllReadyH.cons (o := ({ dst := none, op := Go.Op.store 22 (Go.Operand.tmp 19) (Go.Operand.tmp 17), type := 0, pos := "parser.go:179", after := #[{ on := 12, ground := Go.Ground.data }, { on := 10, ground := Go.Ground.data }, { on := 10, ground := Go.Ground.chain }, { on := 0, ground := Go.Ground.phase }, { on := 1, ground := Go.Ground.phase }, { on := 2, ground := Go.Ground.phase }, { on := 3, ground := Go.Ground.phase }, { on := 4, ground := Go.Ground.phase }, { on := 5, ground := Go.Ground.phase }, { on := 6, ground := Go.Ground.phase }, { on := 7, ground := Go.Ground.phase }, { on := 8, ground := Go.Ground.phase }, { on := 9, ground := Go.Ground.phase }, { on := 10, ground := Go.Ground.phase }], guard := none } : Oper)) rfl (fun K hK => ?_) ?_
              · go_simp
                refine hK.out _ _ (by trivial) (fun hHeld => ?_)
                clear hK K
                (try simp only [Act.put, List.setIfInBounds_toArray, List.set_cons_zero, List.set_cons_succ])
                refine wpAnyH_done (by kernel_rfl) ?_ _
                go_wp2_with fail
                go_region_held3 (fun w' => w'.cell? ⟨g, 8, none⟩ = some (Value.slice (some ⟨g2, 0, none⟩) (vs.length + 1) c2) ∧ w'.cell? ⟨g, 7, none⟩ = some (Value.int .i64 p.want)) (first | exact HK.out | go_keep) (fail)
                go_wp2_with fail
                go_ret
                rw [HW.out]
                obtain ⟨Oa', b1, b2, b3⟩ := G2.out.2 _ { p with args := p.args ++ [p.cur], st := .dollar } (by ((repeat (refine up1 ?_ _ _)); exact Upd.refl _ _)) (EZ.out.trans (by rfl)) rfl rfl rfl
                exact ⟨rfl, _, _, _, _, _, _, b1.upd (S := none_) (by first | exact Upd.refl _ _ | exact (Upd.refl _ _).drew) (fun _ _ h => h), b2, by first | exact b3 | exact b3.drew⟩
              exact AllReadyH.nil
            exact AllReadyH.nil
          exact AllReadyH.nil
        refine AllReadyH.cons (o := ({ dst := some 16, op := Go.Op.buildSlice 22 1 #[(0, Go.Operand.tmp 15)], type := 22, pos := "parser.go:179", after := #[{ on := 8, ground := Go.Ground.data }], guard := none } : Oper)) rfl (fun K hK => ?_) ?_
        · go_simp
          refine hK.out _ _ (by trivial) (fun hHeld => ?_)
          clear hK K
          (try simp only [Act.put, List.setIfInBounds_toArray, List.set_cons_zero, List.set_cons_succ])
          refine wpAnyH_ready (rs := [4]) (by kernel_rfl) (by simp) ?_
          refine AllReadyH.cons (o := ({ dst := some 11, op := Go.Op.load 22 (Go.Operand.tmp 10), type := 22, pos := "parser.go:179", after := #[{ on := 3, ground := Go.Ground.data }], guard := none } : Oper)) rfl (fun K hK => ?_) ?_
          · go_simp
            refine hK.out _ _ (by trivial) (fun hHeld => ?_)
            clear hK K
            (try simp only [Act.put, List.setIfInBounds_toArray, List.set_cons_zero, List.set_cons_succ])
            refine wpAnyH_ready (rs := [10]) (by kernel_rfl) (by simp) ?_
            refine AllReadyH.cons (o := ({ dst := some 17, op := Go.Op.call { callee := Go.Callee.builtin Go.Builtin.append, args := #[Go.Operand.tmp 11, Go.Operand.tmp 16], argTypes := #[22, 22] }, type := 22, pos := "parser.go:179", after := #[{ on := 4, ground := Go.Ground.data }, { on := 9, ground := Go.Ground.data }], guard := none } : Oper)) rfl (fun K hK => ?_) ?_
            · (refine step_gen2 _ rfl (.tmp 11) (.tmp 16) 22 26 rfl Try.underlying22 (.slice none 0 0) 24 (by kernel_rfl) rfl (by decide) (.slice Aa vs.length ca) vs rfl ?hv ⟨_, 0, none⟩ (.slice Ac p.cur.length cc) rfl ?hc rfl ?hb ?_; go_must ((case hv => exact HG.out.upd (S := none_) (Upd.of_below (below_alloc (Below.refl _ w).drew _)) (fun _ _ h => h))); go_must ((case hc => exact cell_one_new _ _ _ 0 _ rfl)); go_must ((case hb => exact HVS.out)); intro v2 w2 hr; obtain ⟨g2, c2, e2⟩ := hr.form; subst e2; have G2 := Aside0.mk (argsGrew H.out HL.out HE1.out HO1.out (below_alloc (Below.refl _ w).drew _) hr); clear hr hx9 hx8 hx8a; have hd2 := G2.out.1; have ex0 := (blk_cell hd2 8).trans (show _ = some (.slice Aa vs.length ca : Value) from rfl); have ef0 := blk_frozen hd2 8; have eh0 := blk_set hd2 8 (.slice (some ⟨g2, 0, none⟩) (vs.length + 1) c2); have ex1 := (blk_cell eh0 0).trans (show _ = some (fnV g p.st : Value) from rfl); have ef1 := blk_frozen eh0 0; have eh1 := blk_set eh0 0 (fnV g .dollar); have EZ := Aside0.mk eh1; clear eh0 eh1; have HK := Aside0.mk (And.intro ((blk_cell EZ.out 8).trans (show _ = some (Value.slice (some ⟨g2, 0, none⟩) (vs.length + 1) c2) from rfl)) ((blk_cell EZ.out 7).trans (show _ = some (Value.int .i64 p.want) from rfl))); clear hd2)
              refine hK.out _ _ (by trivial) (fun hHeld => ?_)
              clear hK K
              (try simp only [Act.put, List.setIfInBounds_toArray, List.set_cons_zero, List.set_cons_succ])
              refine wpAnyH_take (i := 11) (oi := ({ dst := some 18, op := Go.Op.nilCheck (Go.Operand.tmp 7), type := 0, pos := "parser.go:179", after := #[{ on := 0, ground := Go.Ground.data }, { on := 0, ground := Go.Ground.phase }, { on := 1, ground := Go.Ground.phase }, { on := 2, ground := Go.Ground.phase }, { on := 3, ground := Go.Ground.phase }, { on := 4, ground := Go.Ground.phase }, { on := 5, ground := Go.Ground.phase }, { on := 6, ground := Go.Ground.phase }, { on := 7, ground := Go.Ground.phase }, { on := 8, ground := Go.Ground.phase }, { on := 9, ground := Go.Ground.phase }, { on := 10, ground := Go.Ground.phase }], guard := none } : Oper)) (v := ?vr12) rfl (by kernel_rfl) (by kernel_rfl) (by kernel_rfl) (fun _ _ _ h => h) (Or.inl ⟨by rfl, ?hyr12⟩) (by first | trivial | assumption) ?restr12
              case hyr12 => (intro w hSw; (try dsimp only at hSw); go_simp; (try with_reducible rfl))
              (try simp only [Act.put, List.setIfInBounds_toArray, List.set_cons_zero, List.set_cons_succ])
              refine wpAnyH_take (i := 12) (oi := ({ dst := some 19, op := Go.Op.fieldAddr 84 (Go.Operand.tmp 18) 8, type := 0, pos := "parser.go:179", after := #[{ on := 11, ground := Go.Ground.data }, { on := 0, ground := Go.Ground.phase }, { on := 1, ground := Go.Ground.phase }, { on := 2, ground := Go.Ground.phase }, { on := 3, ground := Go.Ground.phase }, { on := 4, ground := Go.Ground.phase }, { on := 5, ground := Go.Ground.phase }, { on := 6, ground := Go.Ground.phase }, { on := 7, ground := Go.Ground.phase }, { on := 8, ground := Go.Ground.phase }, { on := 9, ground := Go.Ground.phase }, { on := 10, ground := Go.Ground.phase }], guard := none } : Oper)) (v := ?vr13) rfl (by kernel_rfl) (by kernel_rfl) (by kernel_rfl) (fun _ _ _ h => h) (Or.inl ⟨by rfl, ?hyr13⟩) (by first | trivial | assumption) ?restr13
              case hyr13 => (intro w hSw; (try dsimp only at hSw); go_simp; (try with_reducible rfl))
              (try simp only [Act.put, List.setIfInBounds_toArray, List.set_cons_zero, List.set_cons_succ])
              refine wpAnyH_ready (rs := [13]) (by kernel_rfl) (by simp) ?_
              refine AllReadyH.cons (o := ({ dst := none, op := Go.Op.store 22 (Go.Operand.tmp 19) (Go.Operand.tmp 17), type := 0, pos := "parser.go:179", after := #[{ on := 12, ground := Go.Ground.data }, { on := 10, ground := Go.Ground.data }, { on := 10, ground := Go.Ground.chain }, { on := 0, ground := Go.Ground.phase }, { on := 1, ground := Go.Ground.phase }, { on := 2, ground := Go.Ground.phase }, { on := 3, ground := Go.Ground.phase }, { on := 4, ground := Go.Ground.phase }, { on := 5, ground := Go.Ground.phase }, { on := 6, ground := Go.Ground.phase }, { on := 7, ground := Go.Ground.phase }, { on := 8, ground := Go.Ground.phase }, { on := 9, ground := Go.Ground.phase }, { on := 10, ground := Go.Ground.phase }], guard := none } : Oper)) rfl (fun K hK => ?_) ?_
              · go_simp
                refine hK.out _ _ (by trivial) (fun hHeld => ?_)
                clear hK K
                (try simp only [Act.put, List.setIfInBounds_toArray, List.set_cons_zero, List.set_cons_succ])
                refine wpAnyH_done (by kernel_rfl) ?_ _
                go_wp2_with fail
                go_region_held3 (fun w' => w'.cell? ⟨g, 8, none⟩ = some (Value.slice (some ⟨g2, 0, none⟩) (vs.length + 1) c2) ∧ w'.cell? ⟨g, 7, none⟩ = some (Value.int .i64 p.want)) (first | exact HK.out | go_keep) (fail)
                go_wp2_with fail
                go_ret
                rw [HW.out]
                obtain ⟨Oa', b1, b2, b3⟩ := G2.out.2 _ { p with args := p.args ++ [p.cur], st := .dollar } (by ((repeat (refine up1 ?_ _ _)); exact Upd.refl _ _)) (EZ.out.trans (by rfl)) rfl rfl rfl
                exact ⟨rfl, _, _, _, _, _, _, b1.upd (S := none_) (by first | exact Upd.refl _ _ | exact (Upd.refl _ _).drew) (fun _ _ h => h), b2, by first | exact b3 | exact b3.drew⟩
              exact AllReadyH.nil
            exact AllReadyH.nil
          exact AllReadyH.nil
        exact AllReadyH.nil
      exact AllReadyH.nil
  · have HW : Aside0 (ParS.step p c = (p, 82)) := ⟨by unfold ParS.step; rw [hs]; show ParS.contFB p c = _; unfold ParS.contFB; rw [if_pos hc]⟩
    clear h hd0 hcu hi hs hl
    go_enter Try.func97, Try.ntmps97
    go_wp2_with fail
    go_ret
    rw [HW.out]
    exact ⟨rfl, _, _, _, _, _, _, H.out, fun a _ => Nat.le_refl _, Upd.refl _ _⟩
end
end Go.Proofs.Ytfdkcnbkoagmiaa.ParB
end

section
namespace Go.Proofs.Ytfdkcnbkoagmiaa.ParC
open Go Go.RowKit Go.Proofs.YtfdkcnbkoagmiaaW.PrintWords Go.Proofs.YtfdkcnbkoagmiaaW.PrintLast Go.Proofs.YtfdkcnbkoagmiaaW.PrintMore Go.Proofs.Ytfdkcnbkoagmiaa.RowU Go.Proofs.Ytfdkcnbkoagmiaa.ArS Go.Proofs.Ytfdkcnbkoagmiaa.ArM Go.Proofs.Ytfdkcnbkoagmiaa.GenM Go.Proofs.Ytfdkcnbkoagmiaa.GenN Go.Proofs.Ytfdkcnbkoagmiaa.OwnL Go.Proofs.Ytfdkcnbkoagmiaa.ParM Go.Proofs.Ytfdkcnbkoagmiaa.ParA Go.Proofs.Ytfdkcnbkoagmiaa.ParB
open Go.Proofs.Ytfdkcnbkoagmiaa.ParS (St PS)
set_option linter.unusedVariables false
set_option maxRecDepth 100000
section
variable {w : World} {g : Nat} {p : PS} {va vc vo : Value} {Oa Oc Oo : Nat → Nat}
theorem curNew (h : PM w g p va vc vo Oa Oc Oo) {w2 : World} {v2 : Value} (hu2 : Upd (fun _ => False) w w2) (hv : GV 5 w2 v2 []) (hn : ∀ k, v2.ownBlock = some k → w.heap.size ≤ k) :
    w2.heap[g]? = some (.cells (pc g p va vc vo) 84 (0, 0)) ∧ ∀ w3 p', Upd (fun a => a = g) w2 w3 → w3.heap[g]? = some (.cells (pc g p' va v2 vo) 84 (0, 0)) → p'.args = p.args → p'.out = p.out → p'.cur = [] → live p'.st = true → PQ w w3 (PO g Oa Oc Oo) g p' := by
  have h1 := h.one
  have hlt : ∀ a, PO g Oa Oc Oo a ≠ 0 → a < w.heap.size := fun a ha => h.lt ha
  refine ⟨blk_upd h.hd hu2 (fun hf => hf), fun w3 p' hu hd ha ho hc hl' => ?_⟩
  have hg : ∀ a, Oa a + Oo a ≠ 0 → ¬ a = g := fun a ha e => by have := h1 a; rw [if_pos e] at this; omega
  have hv2 : ∀ a, oc v2 a ≠ 0 → w.heap.size ≤ a := fun a ha => hn a (oc_ne ha)
  have hgl : g < w.heap.size := hlt g (by unfold PO; rw [if_pos rfl]; omega)
  have hz2 : ∀ a, a < w.heap.size → oc v2 a = 0 := fun a ha => Decidable.not_not.1 fun hne => by have := hv2 a hne; omega
  refine ⟨va, v2, vo, Oa, oc v2, Oo, ⟨hd, by rw [ha]; exact RwR.fit.upd (RwR.fit.upd h.ar hu2 (fun a _ hf => hf)) hu (fun a h0 => hg a (by omega)), ?_, by rw [ho]; exact CmR.fit.upd (CmR.fit.upd h.ou hu2 (fun a _ hf => hf)) hu (fun a h0 => hg a (by omega)), fun a => ?_⟩, fun a hlt' => ?_, (hu2.mono (fun _ hf => hf.elim)).trans2 hu (fun a e => .inl (by subst e; unfold PO; rw [if_pos rfl]; omega))⟩
  · rw [hl', hc]
    exact BtR.fit.upd (R := BtR) (O := oc v2) ⟨hv, fun _ => rfl⟩ hu (fun a ha e => by subst e; have := hv2 a ha; omega)
  · by_cases hlt' : a < w.heap.size
    · have := h1 a; have := hz2 a hlt'; omega
    · have e0 : PO g Oa Oc Oo a = 0 := Decidable.not_not.1 fun hne => hlt' (hlt a hne)
      unfold PO at e0
      have := oc_le v2 a
      omega
  · have := hz2 a hlt'
    unfold PO
    omega
theorem argsNew (h : PM w g p va vc vo Oa Oc Oo) {w2 : World} {v2 : Value} (hu2 : Upd (fun _ => False) w w2) (hv : GV 26 w2 v2 []) (hn : ∀ k, v2.ownBlock = some k → w.heap.size ≤ k) :
    w2.heap[g]? = some (.cells (pc g p va vc vo) 84 (0, 0)) ∧ ∀ w3 p', Upd (fun a => a = g) w2 w3 → w3.heap[g]? = some (.cells (pc g p' v2 vc vo) 84 (0, 0)) → p'.args = [] → p'.out = p.out → live p'.st = false → PQ w w3 (PO g Oa Oc Oo) g p' := by
  have h1 := h.one
  have hlt : ∀ a, PO g Oa Oc Oo a ≠ 0 → a < w.heap.size := fun a ha => h.lt ha
  refine ⟨blk_upd h.hd hu2 (fun hf => hf), fun w3 p' hu hd ha ho hl' => ?_⟩
  have hg : ∀ a, Oo a ≠ 0 → ¬ a = g := fun a ha e => by have := h1 a; rw [if_pos e] at this; omega
  have hv2 : ∀ a, oc v2 a ≠ 0 → w.heap.size ≤ a := fun a ha => hn a (oc_ne ha)
  have hgl : g < w.heap.size := hlt g (by unfold PO; rw [if_pos rfl]; omega)
  have hz2 : ∀ a, a < w.heap.size → oc v2 a = 0 := fun a ha => Decidable.not_not.1 fun hne => by have := hv2 a hne; omega
  have hA : RwR w2 v2 [] (oc v2) := ⟨[], fun _ => 0, hv, fun _ => rfl, fun a => rfl⟩
  refine ⟨v2, vc, vo, oc v2, fun _ => 0, Oo, ⟨hd, by rw [ha]; exact RwR.fit.upd hA hu (fun a ha e => by subst e; have := hv2 a ha; omega), by rw [hl']; exact fun _ => rfl, by rw [ho]; exact CmR.fit.upd (CmR.fit.upd h.ou hu2 (fun a _ hf => hf)) hu (fun a h0 => hg a (by omega)), fun a => ?_⟩, fun a hlt' => ?_, (hu2.mono (fun _ hf => hf.elim)).trans2 hu (fun a e => .inl (by subst e; unfold PO; rw [if_pos rfl]; omega))⟩
  · by_cases hlt' : a < w.heap.size
    · have := h1 a; have := hz2 a hlt'; (try dsimp only); omega
    · have e0 : PO g Oa Oc Oo a = 0 := Decidable.not_not.1 fun hne => hlt' (hlt a hne)
      unfold PO at e0
      have := oc_le v2 a
      (try dsimp only)
      omega
  · have := hz2 a hlt'
    unfold PO
    (try dsimp only)
    omega
end
set_option maxHeartbeats 8000000 in
theorem digit.calls : StepC .digit := by
  intro w g p va vc vo Oa Oc Oo c h hi hs h0 h1 hol
  have HNE := Aside0.mk (numErr.calls h)
  have H := Aside0.mk h
  have hd0 := h.hd
  have hmf := hmf_
  have hdg := hi.dg
  have hn := hi.args0
  have hm := hi.most
  have HS := Aside0.mk hs
  have hst : ParS.step p c = ParS.digitB p c := by unfold ParS.step; rw [hs]
  have HE := Aside0.mk hst
  have hd9 : 0 ≤ p.digits ∧ p.digits ≤ 4 := by omega
  clear hst hi hs
  show Calls Try.prog 52 _ _ _
  by_cases hc : 48 ≤ c ∧ c ≤ 57
  · obtain ⟨ha, hb⟩ := hc
    have w1 : wrap64 (p.num * 10) = p.num * 10 := w64s _ (by omega) (by omega)
    have w2 : IntKind.u8.wrap (c - 48) = c - 48 := by rw [IntKind.wrap_u8]; omega
    have w3 : wrap64 (p.num * 10 + (c - 48)) = p.num * 10 + (c - 48) := w64s _ (by omega) (by omega)
    have w4 : wrap64 (p.digits + 1) = p.digits + 1 := w64s _ (by omega) (by omega)
    have w5 : (c - 48) % 256 = c - 48 := by omega
    have w6 : wrap64 (c - 48) = c - 48 := w64s _ (by omega) (by omega)
    by_cases hz : 0 < p.digits ∧ p.num = 0
    · have HD : Aside0 (ParS.digitB p c = (p, ParS.numErr p)) := ⟨by unfold ParS.digitB; rw [if_pos ⟨ha, hb⟩, if_pos (.inl hz)]⟩
      have xx0 := (blk_cell hd0 4).trans (show _ = some (.int .i64 p.num : Value) from rfl)
      have xx1 := (blk_cell hd0 5).trans (show _ = some (.int .i64 p.digits : Value) from rfl)
      have xx2 := (blk_cell hd0 6).trans (show _ = some (.int .i64 p.most : Value) from rfl)
      have xx3 := (blk_cell hd0 3).trans (show _ = some (.int .i64 p.head : Value) from rfl)
      obtain ⟨hz1, hz2⟩ := hz
      clear h hd0
      go_enter Try.func52, Try.ntmps52
      go_wp2_with (go_at_call 73; refine HNE.out.mono ?_; rintro e w2 ⟨rfl, rfl⟩)
      go_ret
      rw [HE.out, HD.out]
      exact ⟨rfl, _, _, _, _, _, _, H.out, fun a _ => Nat.le_refl _, Upd.refl _ _⟩
    · have hz' : p.digits = 0 ∨ ¬ p.num = 0 := by omega
      by_cases hv : p.most < p.num * 10 + (c - 48)
      · have HD : Aside0 (ParS.digitB p c = (p, ParS.numErr p)) := ⟨by unfold ParS.digitB; rw [if_pos ⟨ha, hb⟩, if_pos (.inr hv)]⟩
        have xx0 := (blk_cell hd0 4).trans (show _ = some (.int .i64 p.num : Value) from rfl)
        have xx1 := (blk_cell hd0 5).trans (show _ = some (.int .i64 p.digits : Value) from rfl)
        have xx2 := (blk_cell hd0 6).trans (show _ = some (.int .i64 p.most : Value) from rfl)
        have xx3 := (blk_cell hd0 3).trans (show _ = some (.int .i64 p.head : Value) from rfl)
        clear h hd0 hz
        rcases hz' with hz' | hz'
        · have hz1 : ¬ 0 < p.digits := by omega
          go_enter Try.func52, Try.ntmps52
          go_wp2_with (go_at_call 73; refine HNE.out.mono ?_; rintro e w2 ⟨rfl, rfl⟩)
          go_ret
          rw [HE.out, HD.out]
          exact ⟨rfl, _, _, _, _, _, _, H.out, fun a _ => Nat.le_refl _, Upd.refl _ _⟩
        · have hz1 : 0 < p.digits := by omega
          go_enter Try.func52, Try.ntmps52
          go_wp2_with (go_at_call 73; refine HNE.out.mono ?_; rintro e w2 ⟨rfl, rfl⟩)
          go_ret
          rw [HE.out, HD.out]
          exact ⟨rfl, _, _, _, _, _, _, H.out, fun a _ => Nat.le_refl _, Upd.refl _ _⟩
      · have HD : Aside0 (ParS.digitB p c = ({ p with num := p.num * 10 + (c - 48), digits := p.digits + 1 }, 0)) := ⟨by unfold ParS.digitB; rw [if_pos ⟨ha, hb⟩, if_neg (fun hx => by rcases hx with hx | hx; exact hz hx; exact hv hx)]⟩
        have xx0 := (blk_cell hd0 4).trans (show _ = some (.int .i64 p.num : Value) from rfl)
        have xx1 := (blk_cell hd0 5).trans (show _ = some (.int .i64 p.digits : Value) from rfl)
        have xx2 := (blk_cell hd0 6).trans (show _ = some (.int .i64 p.most : Value) from rfl)
        have xx3 := (blk_cell hd0 3).trans (show _ = some (.int .i64 p.head : Value) from rfl)
        have xx4 := (blk_cell hd0 4).trans (show _ = some (.int .i64 p.num : Value) from rfl)
        have xf0 := blk_frozen hd0 4
        have xh0 := blk_set hd0 4 (.int .i64 (p.num * 10 + (c - 48)))
        have xx5 := (blk_cell xh0 5).trans (show _ = some (.int .i64 p.digits : Value) from rfl)
        have xx6 := (blk_cell xh0 5).trans (show _ = some (.int .i64 p.digits : Value) from rfl)
        have xf1 := blk_frozen xh0 5
        have xh1 := blk_set xh0 5 (.int .i64 (p.digits + 1))
        have XZ := Aside0.mk xh1
        clear xh0 xh1
        clear h hd0 hz
        have HF : Aside0 (∀ w', Upd (fun a => a = g) w w' → w'.heap[g]? = some (.cells (pc g { p with num := p.num * 10 + (c - 48), digits := p.digits + 1 } va vc vo) 84 (0, 0)) → PQ w w' (PO g Oa Oc Oo) g { p with num := p.num * 10 + (c - 48), digits := p.digits + 1 }) := ⟨fun w' hu hd => PQ.of (H.out.stored hu hd rfl rfl rfl rfl) hu (fun a => Nat.le_refl _)⟩
        rcases hz' with hz' | hz'
        · have hz1 : ¬ 0 < p.digits := by omega
          go_enter Try.func52, Try.ntmps52
          go_wp2_with fail
          go_ret
          rw [HE.out, HD.out]
          have e1 : p.digits + 1 = 1 := by omega
          have X := XZ.out
          rw [e1] at X
          exact ⟨rfl, HF.out _ (by ((repeat (refine up1 ?_ _ _)); exact Upd.refl _ _)) (X.trans (by rw [e1]; rfl))⟩
        · have hz1 : 0 < p.digits := by omega
          go_enter Try.func52, Try.ntmps52
          go_wp2_with fail
          go_ret
          rw [HE.out, HD.out]
          exact ⟨rfl, HF.out _ (by ((repeat (refine up1 ?_ _ _)); exact Upd.refl _ _)) (XZ.out.trans (by rfl))⟩
  · have HB : Aside0 (¬ (48 ≤ c ∧ c ≤ 57)) := ⟨hc⟩
    by_cases h13 : c = 13
    · subst h13
      by_cases hz : 0 < p.digits
      · have HD : Aside0 (ParS.digitB p 13 = ({ p with st := .numF }, 0)) := ⟨by unfold ParS.digitB; rw [if_neg (by decide), if_pos ⟨rfl, hz⟩]⟩
        have xx0 := (blk_cell hd0 5).trans (show _ = some (.int .i64 p.digits : Value) from rfl)
        have xx1 := (blk_cell hd0 0).trans (show _ = some (fnV g p.st : Value) from rfl)
        have xf0 := blk_frozen hd0 0
        have xh0 := blk_set hd0 0 (fnV g .numF)
        have XZ := Aside0.mk xh0
        clear xh0
        have HF : Aside0 (∀ w', Upd (fun a => a = g) w w' → w'.heap[g]? = some (.cells (pc g { p with st := .numF } va vc vo) 84 (0, 0)) → PQ w w' (PO g Oa Oc Oo) g { p with st := .numF }) := ⟨fun w' hu hd => PQ.of (H.out.stored0 hu hd rfl rfl rfl) hu (fun a => by unfold PO; dsimp only; omega)⟩
        clear h hd0 hc hdg
        go_enter Try.func52, Try.ntmps52
        go_wp2_with fail
        go_ret
        rw [HE.out, HD.out]
        exact ⟨rfl, HF.out _ (by ((repeat (refine up1 ?_ _ _)); exact Upd.refl _ _)) (XZ.out.trans (by rfl))⟩
      · have HD : Aside0 (ParS.digitB p 13 = (p, ParS.numErr p)) := ⟨by unfold ParS.digitB; rw [if_neg (by decide), if_neg (fun h => hz h.2), if_neg (fun h => absurd h.1 (by decide))]⟩
        have xx0 := (blk_cell hd0 5).trans (show _ = some (.int .i64 p.digits : Value) from rfl)
        have xx1 := (blk_cell hd0 3).trans (show _ = some (.int .i64 p.head : Value) from rfl)
        clear h hd0 hc hdg
        go_enter Try.func52, Try.ntmps52
        go_wp2_with (go_at_call 73; refine HNE.out.mono ?_; rintro e w2 ⟨rfl, rfl⟩)
        go_ret
        rw [HE.out, HD.out]
        exact ⟨rfl, _, _, _, _, _, _, H.out, fun a _ => Nat.le_refl _, Upd.refl _ _⟩
    · by_cases h45 : c = 45
      · subst h45
        by_cases hz : p.digits = 0
        · by_cases hh : p.head = 0
          · have HD : Aside0 (ParS.digitB p 45 = ({ p with st := .minus }, 0)) := ⟨by unfold ParS.digitB; rw [if_neg (by decide), if_neg (fun h => absurd h.1 (by decide)), if_pos ⟨rfl, hz, hh⟩]⟩
            have xx0 := (blk_cell hd0 5).trans (show _ = some (.int .i64 p.digits : Value) from rfl)
            have xx1 := (blk_cell hd0 3).trans (show _ = some (.int .i64 p.head : Value) from rfl)
            have xx2 := (blk_cell hd0 0).trans (show _ = some (fnV g p.st : Value) from rfl)
            have xf0 := blk_frozen hd0 0
            have xh0 := blk_set hd0 0 (fnV g .minus)
            have XZ := Aside0.mk xh0
            clear xh0
            have HF : Aside0 (∀ w', Upd (fun a => a = g) w w' → w'.heap[g]? = some (.cells (pc g { p with st := .minus } va vc vo) 84 (0, 0)) → PQ w w' (PO g Oa Oc Oo) g { p with st := .minus }) := ⟨fun w' hu hd => PQ.of (H.out.stored0 hu hd rfl rfl rfl) hu (fun a => by unfold PO; dsimp only; omega)⟩
            clear h hd0 hc hdg
            go_enter Try.func52, Try.ntmps52
            go_wp2_with fail
            go_ret
            rw [HE.out, HD.out]
            exact ⟨rfl, HF.out _ (by ((repeat (refine up1 ?_ _ _)); exact Upd.refl _ _)) (XZ.out.trans (by rfl))⟩
          · have HD : Aside0 (ParS.digitB p 45 = (p, ParS.numErr p)) := ⟨by unfold ParS.digitB; rw [if_neg (by decide), if_neg (fun h => absurd h.1 (by decide)), if_neg (fun h => hh h.2.2)]⟩
            have xx0 := (blk_cell hd0 5).trans (show _ = some (.int .i64 p.digits : Value) from rfl)
            have xx1 := (blk_cell hd0 3).trans (show _ = some (.int .i64 p.head : Value) from rfl)
            clear h hd0 hc hdg
            go_enter Try.func52, Try.ntmps52
            go_wp2_with (go_at_call 73; refine HNE.out.mono ?_; rintro e w2 ⟨rfl, rfl⟩)
            go_ret
            rw [HE.out, HD.out]
            exact ⟨rfl, _, _, _, _, _, _, H.out, fun a _ => Nat.le_refl _, Upd.refl _ _⟩
        · have HD : Aside0 (ParS.digitB p 45 = (p, ParS.numErr p)) := ⟨by unfold ParS.digitB; rw [if_neg (by decide), if_neg (fun h => absurd h.1 (by decide)), if_neg (fun h => hz h.2.1)]⟩
          have xx0 := (blk_cell hd0 5).trans (show _ = some (.int .i64 p.digits : Value) from rfl)
          have xx1 := (blk_cell hd0 3).trans (show _ = some (.int .i64 p.head : Value) from rfl)
          clear h hd0 hc hdg
          go_enter Try.func52, Try.ntmps52
          go_wp2_with (go_at_call 73; refine HNE.out.mono ?_; rintro e w2 ⟨rfl, rfl⟩)
          go_ret
          rw [HE.out, HD.out]
          exact ⟨rfl, _, _, _, _, _, _, H.out, fun a _ => Nat.le_refl _, Upd.refl _ _⟩
      · have HD : Aside0 (ParS.digitB p c = (p, ParS.numErr p)) := ⟨by unfold ParS.digitB; rw [if_neg hc, if_neg (fun h => h13 h.1), if_neg (fun h => h45 h.1)]⟩
        have xx0 := (blk_cell hd0 5).trans (show _ = some (.int .i64 p.digits : Value) from rfl)
        have xx1 := (blk_cell hd0 3).trans (show _ = some (.int .i64 p.head : Value) from rfl)
        clear h hd0 hdg
        by_cases ha : 48 ≤ c
        · have hb : ¬ c ≤ 57 := fun hb => hc ⟨ha, hb⟩
          clear hc
          go_enter Try.func52, Try.ntmps52
          go_wp2_with (go_at_call 73; refine HNE.out.mono ?_; rintro e w2 ⟨rfl, rfl⟩)
          go_ret
          rw [HE.out, HD.out]
          exact ⟨rfl, _, _, _, _, _, _, H.out, fun a _ => Nat.le_refl _, Upd.refl _ _⟩
        · clear hc
          go_enter Try.func52, Try.ntmps52
          go_wp2_with (go_at_call 73; refine HNE.out.mono ?_; rintro e w2 ⟨rfl, rfl⟩)
          go_ret
          rw [HE.out, HD.out]
          exact ⟨rfl, _, _, _, _, _, _, H.out, fun a _ => Nat.le_refl _, Upd.refl _ _⟩
set_option maxHeartbeats 8000000 in
theorem numF.calls : StepC .numF := by
  intro w g p va vc vo Oa Oc Oo c h hi hs h0 h1 hol
  have H := Aside0.mk h
  have hd0 := h.hd
  have hmf := hmf_
  have hn := hi.args0
  have HS := Aside0.mk hs
  have HOL := Aside0.mk hol
  have hst : ParS.step p c = ParS.numFB p c := by unfold ParS.step; rw [hs]
  have HE := Aside0.mk hst
  have hone := h.one
  have IE_B : Aside0 (∃ i, Try.prog.info? 5 = some i ∧ i.zero = some (.int .u8 0) ∧ i.size = 1 ∧ i.bytes = 1) := ⟨by
    have hinfo : (Try.prog.info? 5).map (fun i => (i.zero, i.size, i.bytes)) = some (some (.int .u8 0), 1, 1) := by kernel_rfl
    obtain ⟨ie, h1, h2⟩ := Option.map_eq_some_iff.1 hinfo
    simp only [Prod.mk.injEq] at h2
    exact ⟨ie, h1, h2.1, h2.2.1, h2.2.2⟩⟩
  have IE_R : Aside0 (∃ i, Try.prog.info? 26 = some i ∧ i.zero = some (.slice none 0 0) ∧ i.size = 1 ∧ i.bytes = 24) := ⟨by
    have hinfo : (Try.prog.info? 26).map (fun i => (i.zero, i.size, i.bytes)) = some (some (.slice none 0 0), 1, 24) := by kernel_rfl
    obtain ⟨ie, h1, h2⟩ := Option.map_eq_some_iff.1 hinfo
    simp only [Prod.mk.injEq] at h2
    exact ⟨ie, h1, h2.1, h2.2.1, h2.2.2⟩⟩
  clear hst hi hs hol
  show Calls Try.prog 74 _ _ _
  by_cases hc : c = 10
  · subst hc
    by_cases hh : p.head = 1
    · by_cases hz : p.num = 0
      · have HD : Aside0 (ParS.numFB p 10 = ({ p with cur := [], left := p.num, st := .contR }, 0)) := ⟨by unfold ParS.numFB; rw [if_neg (by decide), if_pos hh, if_pos hz]⟩
        have xx0 := (blk_cell hd0 3).trans (show _ = some (.int .i64 p.head : Value) from rfl)
        have xx1 := (blk_cell hd0 4).trans (show _ = some (.int .i64 p.num : Value) from rfl)
        clear h hd0
        go_enter Try.func74, Try.ntmps74
        go_upto_region 5 with (refine wpList_make_own _ rfl (.const (.int .i64 0)) (.tmp 16) 26 rfl w.heap.size 5 IE_B.out.choose _ 1 Try.underlying26 IE_B.out.choose_spec.1 IE_B.out.choose_spec.2.1 IE_B.out.choose_spec.2.2.1 .i64 .i64 _ 0 rfl rfl ?hC ?hb ?hm (Nat.le_refl _) ?_; (case hC => omega); (case hb => rw [IE_B.out.choose_spec.2.2.2]; omega); (case hm => unfold maxLen; omega); intro w2 ho2 hg2; have hu2 : Upd (fun _ => False) w w2 := Upd.of_grown hg2 (fun k hk => by cases hk); obtain ⟨r1, r2⟩ := GV.of_own ho2 rfl; have G2 := Aside0.mk (curNew H.out hu2 r1 r2); clear ho2 hg2 hu2 r1 r2 xx0 xx1; have hd2 := G2.out.1; have ex0 := (blk_cell hd2 9).trans (show _ = some (vc : Value) from rfl); have ef0 := blk_frozen hd2 9; have eh0 := blk_set hd2 9 (.slice (some ⟨w.heap.size, 0, none⟩) 0 0); have ex1 := (blk_cell eh0 4).trans (show _ = some (.int .i64 p.num : Value) from rfl); have ex2 := (blk_cell eh0 10).trans (show _ = some (.int .i64 p.left : Value) from rfl); have ef1 := blk_frozen eh0 10; have eh1 := blk_set eh0 10 (.int .i64 0); have ex3 := (blk_cell eh1 0).trans (show _ = some (fnV g p.st : Value) from rfl); have ef2 := blk_frozen eh1 0; have eh2 := blk_set eh1 0 (fnV g .content); have ex4 := (blk_cell eh2 10).trans (show _ = some (.int .i64 0 : Value) from rfl); have ex5 := (blk_cell eh2 0).trans (show _ = some (fnV g .content : Value) from rfl); have ef3 := blk_frozen eh2 0; have eh3 := blk_set eh2 0 (fnV g .contR); have EZ := Aside0.mk eh3; clear eh0 eh1 eh2 eh3; clear hd2)
        go_wp2_with fail
        go_ret
        rw [HE.out, HD.out]
        exact ⟨rfl, G2.out.2 _ _ (by ((repeat (refine up1 ?_ _ _)); exact Upd.refl _ _)) (EZ.out.trans (congrArg (fun x : Int => some (Obj.cells (pc g { p with cur := [], left := x, st := .contR } va (.slice (some ⟨w.heap.size, 0, none⟩) 0 0) vo) 84 (0, 0))) hz.symm)) rfl rfl rfl rfl⟩
      · have HD : Aside0 (ParS.numFB p 10 = ({ p with cur := [], left := p.num, st := .content }, 0)) := ⟨by unfold ParS.numFB; rw [if_neg (by decide), if_pos hh, if_neg hz]⟩
        have xx0 := (blk_cell hd0 3).trans (show _ = some (.int .i64 p.head : Value) from rfl)
        have xx1 := (blk_cell hd0 4).trans (show _ = some (.int .i64 p.num : Value) from rfl)
        have hN : ((p.num.toNat : Nat) : Int) = p.num := Int.toNat_of_nonneg hn.1
        clear h hd0
        go_enter Try.func74, Try.ntmps74
        go_upto_region 5 with (refine wpList_make_own _ rfl (.const (.int .i64 0)) (.tmp 16) 26 rfl w.heap.size 5 IE_B.out.choose _ 1 Try.underlying26 IE_B.out.choose_spec.1 IE_B.out.choose_spec.2.1 IE_B.out.choose_spec.2.2.1 .i64 .i64 _ p.num.toNat rfl rfl ?hC ?hb ?hm (Nat.le_refl _) ?_; (case hC => omega); (case hb => rw [IE_B.out.choose_spec.2.2.2]; omega); (case hm => unfold maxLen; omega); intro w2 ho2 hg2; have hu2 : Upd (fun _ => False) w w2 := Upd.of_grown hg2 (fun k hk => by cases hk); obtain ⟨r1, r2⟩ := GV.of_own ho2 rfl; have G2 := Aside0.mk (curNew H.out hu2 r1 r2); clear ho2 hg2 hu2 r1 r2 xx0 xx1; have hd2 := G2.out.1; have ex0 := (blk_cell hd2 9).trans (show _ = some (vc : Value) from rfl); have ef0 := blk_frozen hd2 9; have eh0 := blk_set hd2 9 (.slice (some ⟨w.heap.size, 0, none⟩) 0 p.num.toNat); have ex1 := (blk_cell eh0 4).trans (show _ = some (.int .i64 p.num : Value) from rfl); have ex2 := (blk_cell eh0 10).trans (show _ = some (.int .i64 p.left : Value) from rfl); have ef1 := blk_frozen eh0 10; have eh1 := blk_set eh0 10 (.int .i64 p.num); have ex3 := (blk_cell eh1 0).trans (show _ = some (fnV g p.st : Value) from rfl); have ef2 := blk_frozen eh1 0; have eh2 := blk_set eh1 0 (fnV g .content); have ex4 := (blk_cell eh2 10).trans (show _ = some (.int .i64 p.num : Value) from rfl); have EZ := Aside0.mk eh2; clear eh0 eh1 eh2; clear hd2)
        go_wp2_with fail
        go_ret
        rw [HE.out, HD.out]
        exact ⟨rfl, G2.out.2 _ _ (by ((repeat (refine up1 ?_ _ _)); exact Upd.refl _ _)) (EZ.out.trans (by rfl)) rfl rfl rfl rfl⟩
    · by_cases hz : p.num = 0
      · have HD : Aside0 (ParS.numFB p 10 = (ParS.whole p, 0)) := ⟨by unfold ParS.numFB; rw [if_neg (by decide), if_neg hh, if_pos hz]⟩
        have xx0 := (blk_cell hd0 3).trans (show _ = some (.int .i64 p.head : Value) from rfl)
        have xx1 := (blk_cell hd0 4).trans (show _ = some (.int .i64 p.num : Value) from rfl)
        have HW := Aside0.mk (whole.calls h HOL.out)
        clear h hd0
        go_enter Try.func74, Try.ntmps74
        go_wp2_with (go_at_call 54; refine HW.out.mono ?_; rintro e w4 ⟨rfl, hq⟩; have HQ := Aside0.mk hq; clear hq)
        go_ret
        rw [HE.out, HD.out]
        exact ⟨rfl, HQ.out⟩
      · have HD : Aside0 (ParS.numFB p 10 = ({ p with want := p.num, args := [], st := .dollar }, 0)) := ⟨by unfold ParS.numFB; rw [if_neg (by decide), if_neg hh, if_neg hz]⟩
        have xx0 := (blk_cell hd0 3).trans (show _ = some (.int .i64 p.head : Value) from rfl)
        have xx1 := (blk_cell hd0 4).trans (show _ = some (.int .i64 p.num : Value) from rfl)
        have xx2 := (blk_cell hd0 7).trans (show _ = some (.int .i64 p.want : Value) from rfl)
        have xf0 := blk_frozen hd0 7
        have xh0 := blk_set hd0 7 (.int .i64 p.num)
        have xx3 := (blk_cell xh0 4).trans (show _ = some (.int .i64 p.num : Value) from rfl)
        have XZ := Aside0.mk xh0
        clear xh0
        have HSZ : Aside0 ((w.setCell ⟨g, 7, none⟩ (.int .i64 p.num)).heap.size = w.heap.size) := ⟨by simp [World.setCell]⟩
        have H7 : Aside0 (PM (w.setCell ⟨g, 7, none⟩ (.int .i64 p.num)) g { p with want := p.num } va vc vo Oa Oc Oo) := ⟨H.out.stored (by ((repeat (refine up1 ?_ _ _)); exact Upd.refl _ _)) (XZ.out.trans (by rfl)) rfl rfl rfl rfl⟩
        have hN : ((p.num.toNat : Nat) : Int) = p.num := Int.toNat_of_nonneg hn.1
        clear h hd0
        go_enter Try.func74, Try.ntmps74
        go_upto_region 15 with (refine wpList_make_own _ rfl (.const (.int .i64 0)) (.tmp 60) 22 rfl w.heap.size 26 IE_R.out.choose _ 1 Try.underlying22 IE_R.out.choose_spec.1 IE_R.out.choose_spec.2.1 IE_R.out.choose_spec.2.2.1 .i64 .i64 _ p.num.toNat rfl rfl ?hC ?hb ?hm (Nat.le_of_eq HSZ.out.symm) ?_; (case hC => omega); (case hb => rw [IE_R.out.choose_spec.2.2.2]; omega); (case hm => unfold maxLen; omega); intro w2 ho2 hg2; rw [HSZ.out] at ho2 ⊢; have hu2 : Upd (fun _ => False) (w.setCell ⟨g, 7, none⟩ (.int .i64 p.num)) w2 := Upd.of_grown hg2 (fun k hk => by cases hk); obtain ⟨r1, r2⟩ := GV.of_own ho2 rfl; have G2 := Aside0.mk (argsNew H7.out hu2 r1 (fun k hk => by rw [HSZ.out]; exact r2 k hk)); clear ho2 hg2 hu2 r1 r2 xx0 xx1 xx2 xx3 xf0; have hd2 := G2.out.1; have ex0 := (blk_cell hd2 8).trans (show _ = some (va : Value) from rfl); have ef0 := blk_frozen hd2 8; have eh0 := blk_set hd2 8 (.slice (some ⟨w.heap.size, 0, none⟩) 0 p.num.toNat); have ex1 := (blk_cell eh0 0).trans (show _ = some (fnV g p.st : Value) from rfl); have ef1 := blk_frozen eh0 0; have eh1 := blk_set eh0 0 (fnV g .dollar); have EZ := Aside0.mk eh1; clear eh0 eh1; clear hd2)
        go_wp2_with fail
        go_ret
        rw [HE.out, HD.out]
        have hq := G2.out.2 _ { p with want := p.num, args := [], st := .dollar } (by ((repeat (refine up1 ?_ _ _)); exact Upd.refl _ _)) (EZ.out.trans (by rfl)) rfl rfl rfl
        exact ⟨rfl, PQ.trans H7.out (fun a _ => Nat.le_refl _) (Upd.mono (by ((repeat (refine up1 ?_ _ _)); exact Upd.refl _ _)) (fun a ha => by subst ha; unfold PO; rw [if_pos rfl]; omega)) hq⟩
  · have HD : Aside0 (ParS.numFB p c = (p, 82)) := ⟨by unfold ParS.numFB; rw [if_pos hc]⟩
    clear h hd0
    go_enter Try.func74, Try.ntmps74
    go_wp2_with fail
    go_ret
    rw [HE.out, HD.out]
    exact ⟨rfl, _, _, _, _, _, _, H.out, fun a _ => Nat.le_refl _, Upd.refl _ _⟩
end Go.Proofs.Ytfdkcnbkoagmiaa.ParC
end

section
namespace Go.Proofs.Ytfdkcnbkoagmiaa.PA
open Go.RowKit Go.Proofs.YtfdkcnbkoagmiaaW.PrintWords Go.Proofs.YtfdkcnbkoagmiaaW.PrintLast Go.Proofs.YtfdkcnbkoagmiaaW.PrintMore
attribute [local go_sem] max2_int min2_int max_two min_two max_three min_three max_four min_four   -- for this text's walks alone
set_option linter.unusedVariables false
set_option linter.unusedSimpArgs false
def wire_blank.f (a0 : Int) : Option (Bool) := if a0 ≥ 9 then (if a0 ≤ 13 then (some true) else (some (a0 == 32))) else (some (a0 == 32))
set_option maxHeartbeats 8000000 in
set_option maxRecDepth 100000 in
theorem wire_blank.calls (a0 : Int) (r : Bool) (w : World) (h : wire_blank.f a0 = some r) :
    Calls Try.prog 29 #[.int .u8 a0] w fun e w' => e = .returned (.bool r) ∧ Drawn0 w w' := by
  have H : (if a0 ≥ 9 then (if a0 ≤ 13 then (some true) else (some (a0 == 32))) else (some (a0 == 32))) = some r := h
  clear h
  by_cases c2 : a0 ≥ 9
  · rw [if_pos c2] at H
    have c2b0 : decide (9 ≤ a0) = true := decide_eq_true c2
    clear c2
    by_cases c3 : a0 ≤ 13
    · rw [if_pos c3] at H
      have c3b0 : decide (a0 ≤ 13) = true := decide_eq_true c3
      clear c3
      obtain rfl := Option.some.inj H
      go_enter Try.func29, Try.ntmps29
      go_wp2
      go_ret
      exact ⟨by first | rfl | (simp; done) | (simp [*]; done), by repeat (first | exact Drawn0.refl _ | apply Drawn0.step)⟩
    · rw [if_neg c3] at H
      have c3b0 : decide (a0 ≤ 13) = false := decide_eq_false c3
      clear c3
      obtain rfl := Option.some.inj H
      go_enter Try.func29, Try.ntmps29
      go_wp2
      go_ret
      exact ⟨by first | rfl | (simp; done) | (simp [*]; done), by repeat (first | exact Drawn0.refl _ | apply Drawn0.step)⟩
  · rw [if_neg c2] at H
    have c2b0 : decide (9 ≤ a0) = false := decide_eq_false c2
    clear c2
    obtain rfl := Option.some.inj H
    go_enter Try.func29, Try.ntmps29
    go_wp2
    go_ret
    exact ⟨by first | rfl | (simp; done) | (simp [*]; done), by repeat (first | exact Drawn0.refl _ | apply Drawn0.step)⟩
end Go.Proofs.Ytfdkcnbkoagmiaa.PA
end

section
namespace Go.Proofs.Ytfdkcnbkoagmiaa.PA
open Go.RowKit Go.Proofs.YtfdkcnbkoagmiaaW.PrintWords Go.Proofs.YtfdkcnbkoagmiaaW.PrintLast Go.Proofs.YtfdkcnbkoagmiaaW.PrintMore
attribute [local go_sem] max2_int min2_int max_two min_two max_three min_three max_four min_four   -- for this text's walks alone
set_option linter.unusedVariables false
set_option linter.unusedSimpArgs false
mutual
def wire_hex.j0 : Nat → Int → Bool → Option (Int)
  | 0, _, _ => none
  | k + 1, x0, x3 => if x3 = true then (some ((x0 - 48) % 256)) else (if x0 ≥ 97 then (wire_hex.j1 k x0 (decide (x0 ≤ 102))) else (wire_hex.j1 k x0 false))
def wire_hex.j1 : Nat → Int → Bool → Option (Int)
  | 0, _, _ => none
  | k + 1, x0, x13 => if x13 = true then (some (((x0 - 97) % 256) + 10)) else (if x0 ≥ 65 then (if x0 ≤ 70 then (some (((x0 - 65) % 256) + 10)) else (some (-1))) else (some (-1)))
end
def wire_hex.f (k : Nat) (a0 : Int) : Option (Int) := if a0 ≥ 48 then (wire_hex.j0 k a0 (decide (a0 ≤ 57))) else (wire_hex.j0 k a0 false)
theorem wire_hex.mono_l : ∀ k, (∀ y0 y1, LeO (wire_hex.j0 k y0 y1) (wire_hex.j0 (k + 1) y0 y1)) ∧ (∀ y0 y1, LeO (wire_hex.j1 k y0 y1) (wire_hex.j1 (k + 1) y0 y1))
  | 0 => ⟨fun _ _ r h => by simp [wire_hex.j0] at h, fun _ _ r h => by simp [wire_hex.j1] at h⟩
  | k + 1 => by
    obtain ⟨ih0, ih1⟩ := wire_hex.mono_l k
    refine ⟨?_, ?_⟩
    · intro y0 y1
      unfold wire_hex.j0
      repeat' first
      | (with_reducible exact ih0 _ _)
      | (with_reducible exact ih1 _ _)
      | (with_reducible exact LeO.refl _)
      | (with_reducible exact LeO.none _)
      | (with_reducible refine LeO.ite ?_ ?_)
      | (with_reducible refine LeO.bind ?_ (fun _ => ?_))
      | exact ih0 _ _
      | exact ih1 _ _
      | exact LeO.none _
      | refine LeO.ite ?_ ?_
      | refine LeO.bind ?_ (fun _ => ?_)
    · intro y0 y1
      unfold wire_hex.j1
      repeat' first
      | (with_reducible exact ih0 _ _)
      | (with_reducible exact ih1 _ _)
      | (with_reducible exact LeO.refl _)
      | (with_reducible exact LeO.none _)
      | (with_reducible refine LeO.ite ?_ ?_)
      | (with_reducible refine LeO.bind ?_ (fun _ => ?_))
      | exact ih0 _ _
      | exact ih1 _ _
      | exact LeO.none _
      | refine LeO.ite ?_ ?_
      | refine LeO.bind ?_ (fun _ => ?_)
theorem wire_hex.mono : ∀ a0 k, LeO (wire_hex.f k a0) (wire_hex.f (k + 1) a0) := by
  intro a0 k
  obtain ⟨ih0, ih1⟩ := wire_hex.mono_l k
  unfold wire_hex.f
  repeat' first
      | (with_reducible exact ih0 _ _)
      | (with_reducible exact ih1 _ _)
      | (with_reducible exact LeO.refl _)
      | (with_reducible exact LeO.none _)
      | (with_reducible refine LeO.ite ?_ ?_)
      | (with_reducible refine LeO.bind ?_ (fun _ => ?_))
      | exact ih0 _ _
      | exact ih1 _ _
      | exact LeO.none _
      | refine LeO.ite ?_ ?_
      | refine LeO.bind ?_ (fun _ => ?_)
set_option maxHeartbeats 8000000 in
set_option maxRecDepth 100000 in
theorem wire_hex.calls (k : Nat) (a0 : Int) (r : Int) (w : World) (h : wire_hex.f k a0 = some r) :
    Calls Try.prog 51 #[.int .u8 a0] w fun e w' => e = .returned (.int .i64 r) ∧ Drawn0 w w' := by
  have H : (if a0 ≥ 48 then (wire_hex.j0 k a0 (decide (a0 ≤ 57))) else (wire_hex.j0 k a0 false)) = some r := h
  clear h
  have HC2 := Aside0.mk H
  clear H
  go_enter Try.func51, Try.ntmps51
  go_upto_region 1 with (fail)
  go_cut [3] (fun v3 wc => ∃ (kq : Nat) (x3_1 : Bool), v3 = .bool x3_1 ∧ Aside0 (wire_hex.j0 kq a0 x3_1 = some r) ∧ Aside0 (kq ≤ k) ∧ Drawn0 w wc)
  case first =>
    have H := HC2.out
    clear HC2
    by_cases c3 : a0 ≥ 48
    · rw [if_pos c3] at H
      have c3b0 : decide (48 ≤ a0) = true := decide_eq_true c3
      clear c3
      (first | rw [c3b0] | (simp only [i64_w, i32_w]; rw [c3b0]) | skip)
      have H' := Aside0.mk H
      clear H
      go_wp2
      go_meet
      case rel => exact ⟨_, (decide (a0 ≤ 57)), (by first | rfl | (simp; done) | (simp [*]; done)), H', ⟨by first | omega | exact Nat.le_refl _⟩, by repeat (first | exact Drawn0.refl _ | apply Drawn0.step)⟩
    · rw [if_neg c3] at H
      have c3b0 : decide (48 ≤ a0) = false := decide_eq_false c3
      clear c3
      (first | rw [c3b0] | (simp only [i64_w, i32_w]; rw [c3b0]) | skip)
      have H' := Aside0.mk H
      clear H
      go_wp2
      go_meet
      case rel => exact ⟨_, (false), (by first | rfl | (simp; done) | (simp [*]; done)), H', ⟨by first | omega | exact Nat.le_refl _⟩, by repeat (first | exact Drawn0.refl _ | apply Drawn0.step)⟩
  case rest =>
    clear HC2
    try clear p2
    try clear c3
    try clear c3b0
    obtain ⟨kq, x3_1, rfl, HA, HJ1, ⟨mc1, rfl⟩⟩ := hcut
    cases kq with
    | zero => exact absurd HA.out (by simp [wire_hex.j0])
    | succ kj1 =>
      have H := HA.out
      clear HA
      simp only [wire_hex.j0] at H
      by_cases c4 : x3_1 = true
      · subst c4
        have H1 : (some ((a0 - 48) % 256)) = some r := by rw [if_pos rfl] at H; exact H
        clear H
        have H := H1
        clear H1
        obtain rfl := Option.some.inj H
        go_wp2
        go_ret
        exact ⟨by first | rfl | (simp; done) | (simp [*]; done), by repeat (first | exact Drawn0.refl _ | apply Drawn0.step)⟩
      · replace c4 := Bool.eq_false_iff.mpr c4
        subst c4
        have H1 : (if a0 ≥ 97 then (wire_hex.j1 kj1 a0 (decide (a0 ≤ 102))) else (wire_hex.j1 kj1 a0 false)) = some r := by rw [if_neg (show ¬ (false = true) by decide)] at H; exact H
        clear H
        have H := H1
        clear H1
        have HC5 := Aside0.mk H
        clear H
        go_upto_region 3 with (fail)
        go_cut [13] (fun v13 wc => ∃ (kq : Nat) (x13_4 : Bool), v13 = .bool x13_4 ∧ Aside0 (wire_hex.j1 kq a0 x13_4 = some r) ∧ Aside0 (kq ≤ kj1) ∧ Drawn0 w wc)
        case first =>
          have H := HC5.out
          clear HC5
          by_cases c6 : a0 ≥ 97
          · rw [if_pos c6] at H
            have c6b0 : decide (97 ≤ a0) = true := decide_eq_true c6
            clear c6
            (first | rw [c6b0] | (simp only [i64_w, i32_w]; rw [c6b0]) | skip)
            have H' := Aside0.mk H
            clear H
            go_wp2
            go_meet
            case rel => exact ⟨_, (decide (a0 ≤ 102)), (by first | rfl | (simp; done) | (simp [*]; done)), H', ⟨by have := HJ1.out; first | omega | exact Nat.le_refl _⟩, by repeat (first | exact Drawn0.refl _ | apply Drawn0.step)⟩
          · rw [if_neg c6] at H
            have c6b0 : decide (97 ≤ a0) = false := decide_eq_false c6
            clear c6
            (first | rw [c6b0] | (simp only [i64_w, i32_w]; rw [c6b0]) | skip)
            have H' := Aside0.mk H
            clear H
            go_wp2
            go_meet
            case rel => exact ⟨_, (false), (by first | rfl | (simp; done) | (simp [*]; done)), H', ⟨by have := HJ1.out; first | omega | exact Nat.le_refl _⟩, by repeat (first | exact Drawn0.refl _ | apply Drawn0.step)⟩
        case rest =>
          clear HC5
          try clear c1
          try clear p2
          try clear c3
          try clear c3b0
          try clear c4
          try clear c5
          try clear c6
          try clear c6b0
          try clear p2
          obtain ⟨kq, x13_4, rfl, HA, HJ4, ⟨mc4, rfl⟩⟩ := hcut
          cases kq with
          | zero => exact absurd HA.out (by simp [wire_hex.j1])
          | succ kj4 =>
            have H := HA.out
            clear HA
            simp only [wire_hex.j1] at H
            by_cases c7 : x13_4 = true
            · subst c7
              have H1 : (some (((a0 - 97) % 256) + 10)) = some r := by rw [if_pos rfl] at H; exact H
              clear H
              have H := H1
              clear H1
              obtain rfl := Option.some.inj H
              go_wp2
              go_ret
              exact ⟨by first | rfl | (simp; done) | (simp [*]; done), by repeat (first | exact Drawn0.refl _ | apply Drawn0.step)⟩
            · replace c7 := Bool.eq_false_iff.mpr c7
              subst c7
              have H1 : (if a0 ≥ 65 then (if a0 ≤ 70 then (some (((a0 - 65) % 256) + 10)) else (some (-1))) else (some (-1))) = some r := by rw [if_neg (show ¬ (false = true) by decide)] at H; exact H
              clear H
              have H := H1
              clear H1
              by_cases c8 : a0 ≥ 65
              · rw [if_pos c8] at H
                have c8b0 : decide (65 ≤ a0) = true := decide_eq_true c8
                clear c8
                by_cases c9 : a0 ≤ 70
                · rw [if_pos c9] at H
                  have c9b0 : decide (a0 ≤ 70) = true := decide_eq_true c9
                  clear c9
                  obtain rfl := Option.some.inj H
                  go_wp2
                  go_ret
                  exact ⟨by first | rfl | (simp; done) | (simp [*]; done), by repeat (first | exact Drawn0.refl _ | apply Drawn0.step)⟩
                · rw [if_neg c9] at H
                  have c9b0 : decide (a0 ≤ 70) = false := decide_eq_false c9
                  clear c9
                  obtain rfl := Option.some.inj H
                  go_wp2
                  go_ret
                  exact ⟨by first | rfl | (simp; done) | (simp [*]; done), by repeat (first | exact Drawn0.refl _ | apply Drawn0.step)⟩
              · rw [if_neg c8] at H
                have c8b0 : decide (65 ≤ a0) = false := decide_eq_false c8
                clear c8
                obtain rfl := Option.some.inj H
                go_wp2
                go_ret
                exact ⟨by first | rfl | (simp; done) | (simp [*]; done), by repeat (first | exact Drawn0.refl _ | apply Drawn0.step)⟩
end Go.Proofs.Ytfdkcnbkoagmiaa.PA
end

section
namespace Go.Proofs.Ytfdkcnbkoagmiaa.PA
open Go.RowKit Go.Proofs.YtfdkcnbkoagmiaaW.PrintWords Go.Proofs.YtfdkcnbkoagmiaaW.PrintLast Go.Proofs.YtfdkcnbkoagmiaaW.PrintMore
attribute [local go_sem] max2_int min2_int max_two min_two max_three min_three max_four min_four   -- for this text's walks alone
set_option linter.unusedVariables false
set_option linter.unusedSimpArgs false
def wire_escape.f (k : Nat) (l0 : List Int) : Option (Int × Int) := if 0 < (l0.length : Int) then (if (rd l0 0) = 110 then (some (10, 1)) else (if (rd l0 0) = 114 then (some (13, 1)) else (if (rd l0 0) = 116 then (some (9, 1)) else (if (rd l0 0) = 98 then (some (8, 1)) else (if (rd l0 0) = 97 then (some (7, 1)) else (if (rd l0 0) = 120 then (if (l0.length : Int) > 2 then (if 1 < (l0.length : Int) then ((wire_hex.f k (rd l0 1)).bind fun t103 => (if 2 < (l0.length : Int) then ((wire_hex.f k (rd l0 2)).bind fun t105 => (if t103 ≥ 0 then (if t105 ≥ 0 then (some ((wrap64 ((wrap64 (t103 * 16)) + t105)) % 256, 3)) else (some (rd l0 0, 1))) else (some (rd l0 0, 1)))) else (none))) else (none)) else (some (rd l0 0, 1))) else (some (rd l0 0, 1)))))))) else (none)
theorem wire_escape.mono : ∀ a0 k, LeO (wire_escape.f k a0) (wire_escape.f (k + 1) a0) := by
  intro a0 k
  unfold wire_escape.f
  repeat' first
      | (with_reducible exact wire_hex.mono _ _)
      | (with_reducible exact LeO.refl _)
      | (with_reducible exact LeO.none _)
      | (with_reducible refine LeO.ite ?_ ?_)
      | (with_reducible refine LeO.bind ?_ (fun _ => ?_))
      | exact wire_hex.mono _ _
      | exact LeO.none _
      | refine LeO.ite ?_ ?_
      | refine LeO.bind ?_ (fun _ => ?_)
set_option maxHeartbeats 8000000 in
set_option maxRecDepth 100000 in
theorem wire_escape.calls (k : Nat) (A0 : Option Addr) (c0 : Nat) (l0 : List Int) (r1 : Int) (r2 : Int) (w : World) (hr0 : Kd.C (Kd.int .u8) w A0 l0.length l0) (hc0 : l0.length ≤ c0) (h : wire_escape.f k l0 = some (r1, r2)) :
    Calls Try.prog 41 #[.slice A0 l0.length c0] w fun e w' => e = .returned (.tuple #[.int .u8 r1, .int .i64 r2]) ∧ Drawn0 w w' := by
  have HR0 := Aside0.mk hr0
  have HC0 := Aside0.mk hc0
  clear hr0 hc0
  have H : (if 0 < (l0.length : Int) then (if (rd l0 0) = 110 then (some (10, 1)) else (if (rd l0 0) = 114 then (some (13, 1)) else (if (rd l0 0) = 116 then (some (9, 1)) else (if (rd l0 0) = 98 then (some (8, 1)) else (if (rd l0 0) = 97 then (some (7, 1)) else (if (rd l0 0) = 120 then (if (l0.length : Int) > 2 then (if 1 < (l0.length : Int) then ((wire_hex.f k (rd l0 1)).bind fun t103 => (if 2 < (l0.length : Int) then ((wire_hex.f k (rd l0 2)).bind fun t105 => (if t103 ≥ 0 then (if t105 ≥ 0 then (some ((wrap64 ((wrap64 (t103 * 16)) + t105)) % 256, 3)) else (some (rd l0 0, 1))) else (some (rd l0 0, 1)))) else (none))) else (none)) else (some (rd l0 0, 1))) else (some (rd l0 0, 1)))))))) else (none)) = some (r1, r2) := h
  clear h
  by_cases c2 : 0 < (l0.length : Int)
  · rw [if_pos c2] at H
    have c2b0 : decide (0 < (l0.length : Int)) = true := decide_eq_true c2
    have c2b1 : decide (0 < l0.length) = true := decide_eq_true (by omega)
    clear c2
    by_cases c3 : (rd l0 0) = 110
    · rw [if_pos c3] at H
      have c3b0 : ((rd l0 0) == 110) = true := beq_iff_eq.mpr c3
      have c3b1 : ((rd l0 0) != 110) = false := bne_eq_false_iff_eq.mpr c3
      clear c3
      simp only [Option.some.injEq, Prod.mk.injEq] at H
      obtain ⟨rfl, rfl⟩ := H
      have p101 : 0 ≤ (0 : Int) := (by omega)
      have q101 : 0 < (l0.length : Int) := of_decide_eq_true (by first | (with_reducible assumption) | assumption)
      obtain ⟨ad101, e101, hx101_0⟩ := Kd.at_int HR0.out 0 p101 q101
      cases e101
      have qi101 : (0 < l0.length) = True := eq_true (by omega)
      (try rw [show ((0 : Int)).toNat = 0 from rfl] at hx101_0)
      (try rw [Addr.add_zero'] at hx101_0)
      replace p101 := eq_true p101
      replace q101 := eq_true q101
      go_enter Try.func41, Try.ntmps41
      go_wp2
      repeat (go_quiet (fail); try go_wp2)
      go_ret2
      exact ⟨by first | rfl | (simp; done) | (simp [*]; done), by repeat (first | exact Drawn0.refl _ | apply Drawn0.step)⟩
    · rw [if_neg c3] at H
      have c3b0 : ((rd l0 0) == 110) = false := beq_eq_false_iff_ne.mpr c3
      have c3b1 : ((rd l0 0) != 110) = true := bne_iff_ne.mpr c3
      by_cases c4 : (rd l0 0) = 114
      · rw [if_pos c4] at H
        have c4b0 : ((rd l0 0) == 114) = true := beq_iff_eq.mpr c4
        have c4b1 : ((rd l0 0) != 114) = false := bne_eq_false_iff_eq.mpr c4
        clear c4
        simp only [Option.some.injEq, Prod.mk.injEq] at H
        obtain ⟨rfl, rfl⟩ := H
        have p101 : 0 ≤ (0 : Int) := (by omega)
        have q101 : 0 < (l0.length : Int) := of_decide_eq_true (by first | (with_reducible assumption) | assumption)
        obtain ⟨ad101, e101, hx101_0⟩ := Kd.at_int HR0.out 0 p101 q101
        cases e101
        have qi101 : (0 < l0.length) = True := eq_true (by omega)
        (try rw [show ((0 : Int)).toNat = 0 from rfl] at hx101_0)
        (try rw [Addr.add_zero'] at hx101_0)
        replace p101 := eq_true p101
        replace q101 := eq_true q101
        go_enter Try.func41, Try.ntmps41
        go_wp2
        repeat (go_quiet (fail); try go_wp2)
        go_ret2
        exact ⟨by first | rfl | (simp; done) | (simp [*]; done), by repeat (first | exact Drawn0.refl _ | apply Drawn0.step)⟩
      · rw [if_neg c4] at H
        have c4b0 : ((rd l0 0) == 114) = false := beq_eq_false_iff_ne.mpr c4
        have c4b1 : ((rd l0 0) != 114) = true := bne_iff_ne.mpr c4
        by_cases c5 : (rd l0 0) = 116
        · rw [if_pos c5] at H
          have c5b0 : ((rd l0 0) == 116) = true := beq_iff_eq.mpr c5
          have c5b1 : ((rd l0 0) != 116) = false := bne_eq_false_iff_eq.mpr c5
          clear c5
          simp only [Option.some.injEq, Prod.mk.injEq] at H
          obtain ⟨rfl, rfl⟩ := H
          have p101 : 0 ≤ (0 : Int) := (by omega)
          have q101 : 0 < (l0.length : Int) := of_decide_eq_true (by first | (with_reducible assumption) | assumption)
          obtain ⟨ad101, e101, hx101_0⟩ := Kd.at_int HR0.out 0 p101 q101
          cases e101
          have qi101 : (0 < l0.length) = True := eq_true (by omega)
          (try rw [show ((0 : Int)).toNat = 0 from rfl] at hx101_0)
          (try rw [Addr.add_zero'] at hx101_0)
          replace p101 := eq_true p101
          replace q101 := eq_true q101
          go_enter Try.func41, Try.ntmps41
          go_wp2
          repeat (go_quiet (fail); try go_wp2)
          go_ret2
          exact ⟨by first | rfl | (simp; done) | (simp [*]; done), by repeat (first | exact Drawn0.refl _ | apply Drawn0.step)⟩
        · rw [if_neg c5] at H
          have c5b0 : ((rd l0 0) == 116) = false := beq_eq_false_iff_ne.mpr c5
          have c5b1 : ((rd l0 0) != 116) = true := bne_iff_ne.mpr c5
          by_cases c6 : (rd l0 0) = 98
          · rw [if_pos c6] at H
            have c6b0 : ((rd l0 0) == 98) = true := beq_iff_eq.mpr c6
            have c6b1 : ((rd l0 0) != 98) = false := bne_eq_false_iff_eq.mpr c6
            clear c6
            simp only [Option.some.injEq, Prod.mk.injEq] at H
            obtain ⟨rfl, rfl⟩ := H
            have p101 : 0 ≤ (0 : Int) := (by omega)
            have q101 : 0 < (l0.length : Int) := of_decide_eq_true (by first | (with_reducible assumption) | assumption)
            obtain ⟨ad101, e101, hx101_0⟩ := Kd.at_int HR0.out 0 p101 q101
            cases e101
            have qi101 : (0 < l0.length) = True := eq_true (by omega)
            (try rw [show ((0 : Int)).toNat = 0 from rfl] at hx101_0)
            (try rw [Addr.add_zero'] at hx101_0)
            replace p101 := eq_true p101
            replace q101 := eq_true q101
            go_enter Try.func41, Try.ntmps41
            go_wp2
            repeat (go_quiet (fail); try go_wp2)
            go_ret2
            exact ⟨by first | rfl | (simp; done) | (simp [*]; done), by repeat (first | exact Drawn0.refl _ | apply Drawn0.step)⟩
          · rw [if_neg c6] at H
            have c6b0 : ((rd l0 0) == 98) = false := beq_eq_false_iff_ne.mpr c6
            have c6b1 : ((rd l0 0) != 98) = true := bne_iff_ne.mpr c6
            by_cases c7 : (rd l0 0) = 97
            · rw [if_pos c7] at H
              have c7b0 : ((rd l0 0) == 97) = true := beq_iff_eq.mpr c7
              have c7b1 : ((rd l0 0) != 97) = false := bne_eq_false_iff_eq.mpr c7
              clear c7
              simp only [Option.some.injEq, Prod.mk.injEq] at H
              obtain ⟨rfl, rfl⟩ := H
              have p101 : 0 ≤ (0 : Int) := (by omega)
              have q101 : 0 < (l0.length : Int) := of_decide_eq_true (by first | (with_reducible assumption) | assumption)
              obtain ⟨ad101, e101, hx101_0⟩ := Kd.at_int HR0.out 0 p101 q101
              cases e101
              have qi101 : (0 < l0.length) = True := eq_true (by omega)
              (try rw [show ((0 : Int)).toNat = 0 from rfl] at hx101_0)
              (try rw [Addr.add_zero'] at hx101_0)
              replace p101 := eq_true p101
              replace q101 := eq_true q101
              go_enter Try.func41, Try.ntmps41
              go_wp2
              repeat (go_quiet (fail); try go_wp2)
              go_ret2
              exact ⟨by first | rfl | (simp; done) | (simp [*]; done), by repeat (first | exact Drawn0.refl _ | apply Drawn0.step)⟩
            · rw [if_neg c7] at H
              have c7b0 : ((rd l0 0) == 97) = false := beq_eq_false_iff_ne.mpr c7
              have c7b1 : ((rd l0 0) != 97) = true := bne_iff_ne.mpr c7
              by_cases c8 : (rd l0 0) = 120
              · rw [if_pos c8] at H
                have c8b0 : ((rd l0 0) == 120) = true := beq_iff_eq.mpr c8
                have c8b1 : ((rd l0 0) != 120) = false := bne_eq_false_iff_eq.mpr c8
                clear c8
                by_cases c9 : (l0.length : Int) > 2
                · rw [if_pos c9] at H
                  have c9b0 : decide (2 < (l0.length : Int)) = true := decide_eq_true c9
                  have c9b1 : decide (2 < l0.length) = true := decide_eq_true (by omega)
                  clear c9
                  by_cases c10 : 1 < (l0.length : Int)
                  · rw [if_pos c10] at H
                    have c10b0 : decide (1 < (l0.length : Int)) = true := decide_eq_true c10
                    have c10b1 : decide (1 < l0.length) = true := decide_eq_true (by omega)
                    clear c10
                    replace H := Option.bind_eq_some_iff.mp H
                    obtain ⟨t103, A110, H⟩ := H
                    replace H : (if 2 < (l0.length : Int) then ((wire_hex.f k (rd l0 2)).bind fun t105 => (if t103 ≥ 0 then (if t105 ≥ 0 then (some ((wrap64 ((wrap64 (t103 * 16)) + t105)) % 256, 3)) else (some (rd l0 0, 1))) else (some (rd l0 0, 1)))) else (none)) = some (r1, r2) := H
                    have A11 := Aside0.mk A110
                    clear A110
                    by_cases c12 : 2 < (l0.length : Int)
                    · rw [if_pos c12] at H
                      have c12b0 : decide (2 < (l0.length : Int)) = true := decide_eq_true c12
                      have c12b1 : decide (2 < l0.length) = true := decide_eq_true (by omega)
                      clear c12
                      replace H := Option.bind_eq_some_iff.mp H
                      obtain ⟨t105, A130, H⟩ := H
                      replace H : (if t103 ≥ 0 then (if t105 ≥ 0 then (some ((wrap64 ((wrap64 (t103 * 16)) + t105)) % 256, 3)) else (some (rd l0 0, 1))) else (some (rd l0 0, 1))) = some (r1, r2) := H
                      have A13 := Aside0.mk A130
                      clear A130
                      by_cases c14 : t103 ≥ 0
                      · rw [if_pos c14] at H
                        have c14b0 : decide (0 ≤ t103) = true := decide_eq_true c14
                        clear c14
                        by_cases c15 : t105 ≥ 0
                        · rw [if_pos c15] at H
                          have c15b0 : decide (0 ≤ t105) = true := decide_eq_true c15
                          clear c15
                          simp only [Option.some.injEq, Prod.mk.injEq] at H
                          obtain ⟨rfl, rfl⟩ := H
                          have p101 : 0 ≤ (0 : Int) := (by omega)
                          have q101 : 0 < (l0.length : Int) := of_decide_eq_true (by first | (with_reducible assumption) | assumption)
                          obtain ⟨ad101, e101, hx101_0⟩ := Kd.at_int HR0.out 0 p101 q101
                          cases e101
                          have qi101 : (0 < l0.length) = True := eq_true (by omega)
                          (try rw [show ((0 : Int)).toNat = 0 from rfl] at hx101_0)
                          (try rw [Addr.add_zero'] at hx101_0)
                          replace p101 := eq_true p101
                          replace q101 := eq_true q101
                          have p102 : 0 ≤ (1 : Int) := (by omega)
                          have q102 : 1 < (l0.length : Int) := of_decide_eq_true (by first | (with_reducible assumption) | assumption)
                          obtain ⟨ad102, e102, hx102_0⟩ := Kd.at_int HR0.out 1 p102 q102
                          obtain rfl : ad101 = ad102 := (by injection e102)
                          (try simp only [show (1 : Int).toNat = 1 from rfl, Nat.reduceMul, Nat.reduceEqDiff, Go.Addr.add, ↓reduceIte] at hx102_0)
                          have qi102 : (1 < l0.length) = True := eq_true (by omega)
                          (try rw [show ((1 : Int)).toNat = 1 from rfl] at hx102_0)
                          replace p102 := eq_true p102
                          replace q102 := eq_true q102
                          go_enter Try.func41, Try.ntmps41
                          go_wp2_with (first | (go_at_call 51; (with_reducible refine (wire_hex.calls k (rd l0 1) t103 _ A11.out).mono ?_); rintro e w' ⟨rfl, ⟨nd, rfl⟩⟩; (try first | exact ⟨rfl, _, World.drewN_drewN _ _ _⟩ | exact ⟨rfl, _, Eq.trans (World.drewN_drewN _ _ _) (congrArg (World.drewN _) (Nat.add_assoc _ _ _))⟩); have p104 : 0 ≤ (2 : Int) := (by omega); have q104 : 2 < (l0.length : Int) := of_decide_eq_true (by first | (with_reducible assumption) | assumption); obtain ⟨ad104, e104, hx104_0⟩ := Kd.at_int HR0.out 2 p104 q104; obtain rfl : ad101 = ad104 := (by injection e104); (try simp only [show (2 : Int).toNat = 2 from rfl, Nat.reduceMul, Nat.reduceEqDiff, Go.Addr.add, ↓reduceIte] at hx104_0); have qi104 : (2 < l0.length) = True := eq_true (by omega); (try rw [show ((2 : Int)).toNat = 2 from rfl] at hx104_0); replace p104 := eq_true p104; replace q104 := eq_true q104) | (go_at_call 51; (with_reducible refine (wire_hex.calls k (rd l0 2) t105 _ A13.out).mono ?_); rintro e w' ⟨rfl, ⟨nd, rfl⟩⟩; (try first | exact ⟨rfl, _, World.drewN_drewN _ _ _⟩ | exact ⟨rfl, _, Eq.trans (World.drewN_drewN _ _ _) (congrArg (World.drewN _) (Nat.add_assoc _ _ _))⟩)))
                          repeat (go_quiet (first | (go_at_call 51; (with_reducible refine (wire_hex.calls k (rd l0 1) t103 _ A11.out).mono ?_); rintro e w' ⟨rfl, ⟨nd, rfl⟩⟩; (try first | exact ⟨rfl, _, World.drewN_drewN _ _ _⟩ | exact ⟨rfl, _, Eq.trans (World.drewN_drewN _ _ _) (congrArg (World.drewN _) (Nat.add_assoc _ _ _))⟩); have p104 : 0 ≤ (2 : Int) := (by omega); have q104 : 2 < (l0.length : Int) := of_decide_eq_true (by first | (with_reducible assumption) | assumption); obtain ⟨ad104, e104, hx104_0⟩ := Kd.at_int HR0.out 2 p104 q104; obtain rfl : ad101 = ad104 := (by injection e104); (try simp only [show (2 : Int).toNat = 2 from rfl, Nat.reduceMul, Nat.reduceEqDiff, Go.Addr.add, ↓reduceIte] at hx104_0); have qi104 : (2 < l0.length) = True := eq_true (by omega); (try rw [show ((2 : Int)).toNat = 2 from rfl] at hx104_0); replace p104 := eq_true p104; replace q104 := eq_true q104) | (go_at_call 51; (with_reducible refine (wire_hex.calls k (rd l0 2) t105 _ A13.out).mono ?_); rintro e w' ⟨rfl, ⟨nd, rfl⟩⟩; (try first | exact ⟨rfl, _, World.drewN_drewN _ _ _⟩ | exact ⟨rfl, _, Eq.trans (World.drewN_drewN _ _ _) (congrArg (World.drewN _) (Nat.add_assoc _ _ _))⟩))); try go_wp2_with (first | (go_at_call 51; (with_reducible refine (wire_hex.calls k (rd l0 1) t103 _ A11.out).mono ?_); rintro e w' ⟨rfl, ⟨nd, rfl⟩⟩; (try first | exact ⟨rfl, _, World.drewN_drewN _ _ _⟩ | exact ⟨rfl, _, Eq.trans (World.drewN_drewN _ _ _) (congrArg (World.drewN _) (Nat.add_assoc _ _ _))⟩); have p104 : 0 ≤ (2 : Int) := (by omega); have q104 : 2 < (l0.length : Int) := of_decide_eq_true (by first | (with_reducible assumption) | assumption); obtain ⟨ad104, e104, hx104_0⟩ := Kd.at_int HR0.out 2 p104 q104; obtain rfl : ad101 = ad104 := (by injection e104); (try simp only [show (2 : Int).toNat = 2 from rfl, Nat.reduceMul, Nat.reduceEqDiff, Go.Addr.add, ↓reduceIte] at hx104_0); have qi104 : (2 < l0.length) = True := eq_true (by omega); (try rw [show ((2 : Int)).toNat = 2 from rfl] at hx104_0); replace p104 := eq_true p104; replace q104 := eq_true q104) | (go_at_call 51; (with_reducible refine (wire_hex.calls k (rd l0 2) t105 _ A13.out).mono ?_); rintro e w' ⟨rfl, ⟨nd, rfl⟩⟩; (try first | exact ⟨rfl, _, World.drewN_drewN _ _ _⟩ | exact ⟨rfl, _, Eq.trans (World.drewN_drewN _ _ _) (congrArg (World.drewN _) (Nat.add_assoc _ _ _))⟩))))
                          go_ret2
                          exact ⟨by first | rfl | (simp; done) | (simp [*]; done), by repeat (first | exact Drawn0.refl _ | apply Drawn0.step)⟩
                        · rw [if_neg c15] at H
                          have c15b0 : decide (0 ≤ t105) = false := decide_eq_false c15
                          clear c15
                          simp only [Option.some.injEq, Prod.mk.injEq] at H
                          obtain ⟨rfl, rfl⟩ := H
                          have p101 : 0 ≤ (0 : Int) := (by omega)
                          have q101 : 0 < (l0.length : Int) := of_decide_eq_true (by first | (with_reducible assumption) | assumption)
                          obtain ⟨ad101, e101, hx101_0⟩ := Kd.at_int HR0.out 0 p101 q101
                          cases e101
                          have qi101 : (0 < l0.length) = True := eq_true (by omega)
                          (try rw [show ((0 : Int)).toNat = 0 from rfl] at hx101_0)
                          (try rw [Addr.add_zero'] at hx101_0)
                          replace p101 := eq_true p101
                          replace q101 := eq_true q101
                          have p102 : 0 ≤ (1 : Int) := (by omega)
                          have q102 : 1 < (l0.length : Int) := of_decide_eq_true (by first | (with_reducible assumption) | assumption)
                          obtain ⟨ad102, e102, hx102_0⟩ := Kd.at_int HR0.out 1 p102 q102
                          obtain rfl : ad101 = ad102 := (by injection e102)
                          (try simp only [show (1 : Int).toNat = 1 from rfl, Nat.reduceMul, Nat.reduceEqDiff, Go.Addr.add, ↓reduceIte] at hx102_0)
                          have qi102 : (1 < l0.length) = True := eq_true (by omega)
                          (try rw [show ((1 : Int)).toNat = 1 from rfl] at hx102_0)
                          replace p102 := eq_true p102
                          replace q102 := eq_true q102
                          go_enter Try.func41, Try.ntmps41
                          go_wp2_with (first | (go_at_call 51; (with_reducible refine (wire_hex.calls k (rd l0 1) t103 _ A11.out).mono ?_); rintro e w' ⟨rfl, ⟨nd, rfl⟩⟩; (try first | exact ⟨rfl, _, World.drewN_drewN _ _ _⟩ | exact ⟨rfl, _, Eq.trans (World.drewN_drewN _ _ _) (congrArg (World.drewN _) (Nat.add_assoc _ _ _))⟩); have p104 : 0 ≤ (2 : Int) := (by omega); have q104 : 2 < (l0.length : Int) := of_decide_eq_true (by first | (with_reducible assumption) | assumption); obtain ⟨ad104, e104, hx104_0⟩ := Kd.at_int HR0.out 2 p104 q104; obtain rfl : ad101 = ad104 := (by injection e104); (try simp only [show (2 : Int).toNat = 2 from rfl, Nat.reduceMul, Nat.reduceEqDiff, Go.Addr.add, ↓reduceIte] at hx104_0); have qi104 : (2 < l0.length) = True := eq_true (by omega); (try rw [show ((2 : Int)).toNat = 2 from rfl] at hx104_0); replace p104 := eq_true p104; replace q104 := eq_true q104) | (go_at_call 51; (with_reducible refine (wire_hex.calls k (rd l0 2) t105 _ A13.out).mono ?_); rintro e w' ⟨rfl, ⟨nd, rfl⟩⟩; (try first | exact ⟨rfl, _, World.drewN_drewN _ _ _⟩ | exact ⟨rfl, _, Eq.trans (World.drewN_drewN _ _ _) (congrArg (World.drewN _) (Nat.add_assoc _ _ _))⟩); have p106 : 0 ≤ (0 : Int) := (by omega); have q106 : 0 < (l0.length : Int) := of_decide_eq_true (by first | (with_reducible assumption) | assumption); obtain ⟨ad106, e106, hx106_0⟩ := Kd.at_int HR0.out 0 p106 q106; obtain rfl : ad101 = ad106 := (by injection e106); have qi106 : (0 < l0.length) = True := eq_true (by omega); (try rw [show ((0 : Int)).toNat = 0 from rfl] at hx106_0); (try rw [Addr.add_zero'] at hx106_0); replace p106 := eq_true p106; replace q106 := eq_true q106))
                          repeat (go_quiet (first | (go_at_call 51; (with_reducible refine (wire_hex.calls k (rd l0 1) t103 _ A11.out).mono ?_); rintro e w' ⟨rfl, ⟨nd, rfl⟩⟩; (try first | exact ⟨rfl, _, World.drewN_drewN _ _ _⟩ | exact ⟨rfl, _, Eq.trans (World.drewN_drewN _ _ _) (congrArg (World.drewN _) (Nat.add_assoc _ _ _))⟩); have p104 : 0 ≤ (2 : Int) := (by omega); have q104 : 2 < (l0.length : Int) := of_decide_eq_true (by first | (with_reducible assumption) | assumption); obtain ⟨ad104, e104, hx104_0⟩ := Kd.at_int HR0.out 2 p104 q104; obtain rfl : ad101 = ad104 := (by injection e104); (try simp only [show (2 : Int).toNat = 2 from rfl, Nat.reduceMul, Nat.reduceEqDiff, Go.Addr.add, ↓reduceIte] at hx104_0); have qi104 : (2 < l0.length) = True := eq_true (by omega); (try rw [show ((2 : Int)).toNat = 2 from rfl] at hx104_0); replace p104 := eq_true p104; replace q104 := eq_true q104) | (go_at_call 51; (with_reducible refine (wire_hex.calls k (rd l0 2) t105 _ A13.out).mono ?_); rintro e w' ⟨rfl, ⟨nd, rfl⟩⟩; (try first | exact ⟨rfl, _, World.drewN_drewN _ _ _⟩ | exact ⟨rfl, _, Eq.trans (World.drewN_drewN _ _ _) (congrArg (World.drewN _) (Nat.add_assoc _ _ _))⟩); have p106 : 0 ≤ (0 : Int) := (by omega); have q106 : 0 < (l0.length : Int) := of_decide_eq_true (by first | (with_reducible assumption) | assumption); obtain ⟨ad106, e106, hx106_0⟩ := Kd.at_int HR0.out 0 p106 q106; obtain rfl : ad101 = ad106 := (by injection e106); have qi106 : (0 < l0.length) = True := eq_true (by omega); (try rw [show ((0 : Int)).toNat = 0 from rfl] at hx106_0); (try rw [Addr.add_zero'] at hx106_0); replace p106 := eq_true p106; replace q106 := eq_true q106)); try go_wp2_with (first | (go_at_call 51; (with_reducible refine (wire_hex.calls k (rd l0 1) t103 _ A11.out).mono ?_); rintro e w' ⟨rfl, ⟨nd, rfl⟩⟩; (try first | exact ⟨rfl, _, World.drewN_drewN _ _ _⟩ | exact ⟨rfl, _, Eq.trans (World.drewN_drewN _ _ _) (congrArg (World.drewN _) (Nat.add_assoc _ _ _))⟩); have p104 : 0 ≤ (2 : Int) := (by omega); have q104 : 2 < (l0.length : Int) := of_decide_eq_true (by first | (with_reducible assumption) | assumption); obtain ⟨ad104, e104, hx104_0⟩ := Kd.at_int HR0.out 2 p104 q104; obtain rfl : ad101 = ad104 := (by injection e104); (try simp only [show (2 : Int).toNat = 2 from rfl, Nat.reduceMul, Nat.reduceEqDiff, Go.Addr.add, ↓reduceIte] at hx104_0); have qi104 : (2 < l0.length) = True := eq_true (by omega); (try rw [show ((2 : Int)).toNat = 2 from rfl] at hx104_0); replace p104 := eq_true p104; replace q104 := eq_true q104) | (go_at_call 51; (with_reducible refine (wire_hex.calls k (rd l0 2) t105 _ A13.out).mono ?_); rintro e w' ⟨rfl, ⟨nd, rfl⟩⟩; (try first | exact ⟨rfl, _, World.drewN_drewN _ _ _⟩ | exact ⟨rfl, _, Eq.trans (World.drewN_drewN _ _ _) (congrArg (World.drewN _) (Nat.add_assoc _ _ _))⟩); have p106 : 0 ≤ (0 : Int) := (by omega); have q106 : 0 < (l0.length : Int) := of_decide_eq_true (by first | (with_reducible assumption) | assumption); obtain ⟨ad106, e106, hx106_0⟩ := Kd.at_int HR0.out 0 p106 q106; obtain rfl : ad101 = ad106 := (by injection e106); have qi106 : (0 < l0.length) = True := eq_true (by omega); (try rw [show ((0 : Int)).toNat = 0 from rfl] at hx106_0); (try rw [Addr.add_zero'] at hx106_0); replace p106 := eq_true p106; replace q106 := eq_true q106)))
                          go_ret2
                          exact ⟨by first | rfl | (simp; done) | (simp [*]; done), by repeat (first | exact Drawn0.refl _ | apply Drawn0.step)⟩
                      · rw [if_neg c14] at H
                        have c14b0 : decide (0 ≤ t103) = false := decide_eq_false c14
                        clear c14
                        simp only [Option.some.injEq, Prod.mk.injEq] at H
                        obtain ⟨rfl, rfl⟩ := H
                        have p101 : 0 ≤ (0 : Int) := (by omega)
                        have q101 : 0 < (l0.length : Int) := of_decide_eq_true (by first | (with_reducible assumption) | assumption)
                        obtain ⟨ad101, e101, hx101_0⟩ := Kd.at_int HR0.out 0 p101 q101
                        cases e101
                        have qi101 : (0 < l0.length) = True := eq_true (by omega)
                        (try rw [show ((0 : Int)).toNat = 0 from rfl] at hx101_0)
                        (try rw [Addr.add_zero'] at hx101_0)
                        replace p101 := eq_true p101
                        replace q101 := eq_true q101
                        have p102 : 0 ≤ (1 : Int) := (by omega)
                        have q102 : 1 < (l0.length : Int) := of_decide_eq_true (by first | (with_reducible assumption) | assumption)
                        obtain ⟨ad102, e102, hx102_0⟩ := Kd.at_int HR0.out 1 p102 q102
                        obtain rfl : ad101 = ad102 := (by injection e102)
                        (try simp only [show (1 : Int).toNat = 1 from rfl, Nat.reduceMul, Nat.reduceEqDiff, Go.Addr.add, ↓reduceIte] at hx102_0)
                        have qi102 : (1 < l0.length) = True := eq_true (by omega)
                        (try rw [show ((1 : Int)).toNat = 1 from rfl] at hx102_0)
                        replace p102 := eq_true p102
                        replace q102 := eq_true q102
                        go_enter Try.func41, Try.ntmps41
                        go_wp2_with (first | (go_at_call 51; (with_reducible refine (wire_hex.calls k (rd l0 1) t103 _ A11.out).mono ?_); rintro e w' ⟨rfl, ⟨nd, rfl⟩⟩; (try first | exact ⟨rfl, _, World.drewN_drewN _ _ _⟩ | exact ⟨rfl, _, Eq.trans (World.drewN_drewN _ _ _) (congrArg (World.drewN _) (Nat.add_assoc _ _ _))⟩); have p104 : 0 ≤ (2 : Int) := (by omega); have q104 : 2 < (l0.length : Int) := of_decide_eq_true (by first | (with_reducible assumption) | assumption); obtain ⟨ad104, e104, hx104_0⟩ := Kd.at_int HR0.out 2 p104 q104; obtain rfl : ad101 = ad104 := (by injection e104); (try simp only [show (2 : Int).toNat = 2 from rfl, Nat.reduceMul, Nat.reduceEqDiff, Go.Addr.add, ↓reduceIte] at hx104_0); have qi104 : (2 < l0.length) = True := eq_true (by omega); (try rw [show ((2 : Int)).toNat = 2 from rfl] at hx104_0); replace p104 := eq_true p104; replace q104 := eq_true q104) | (go_at_call 51; (with_reducible refine (wire_hex.calls k (rd l0 2) t105 _ A13.out).mono ?_); rintro e w' ⟨rfl, ⟨nd, rfl⟩⟩; (try first | exact ⟨rfl, _, World.drewN_drewN _ _ _⟩ | exact ⟨rfl, _, Eq.trans (World.drewN_drewN _ _ _) (congrArg (World.drewN _) (Nat.add_assoc _ _ _))⟩); have p107 : 0 ≤ (0 : Int) := (by omega); have q107 : 0 < (l0.length : Int) := of_decide_eq_true (by first | (with_reducible assumption) | assumption); obtain ⟨ad107, e107, hx107_0⟩ := Kd.at_int HR0.out 0 p107 q107; obtain rfl : ad101 = ad107 := (by injection e107); have qi107 : (0 < l0.length) = True := eq_true (by omega); (try rw [show ((0 : Int)).toNat = 0 from rfl] at hx107_0); (try rw [Addr.add_zero'] at hx107_0); replace p107 := eq_true p107; replace q107 := eq_true q107))
                        repeat (go_quiet (first | (go_at_call 51; (with_reducible refine (wire_hex.calls k (rd l0 1) t103 _ A11.out).mono ?_); rintro e w' ⟨rfl, ⟨nd, rfl⟩⟩; (try first | exact ⟨rfl, _, World.drewN_drewN _ _ _⟩ | exact ⟨rfl, _, Eq.trans (World.drewN_drewN _ _ _) (congrArg (World.drewN _) (Nat.add_assoc _ _ _))⟩); have p104 : 0 ≤ (2 : Int) := (by omega); have q104 : 2 < (l0.length : Int) := of_decide_eq_true (by first | (with_reducible assumption) | assumption); obtain ⟨ad104, e104, hx104_0⟩ := Kd.at_int HR0.out 2 p104 q104; obtain rfl : ad101 = ad104 := (by injection e104); (try simp only [show (2 : Int).toNat = 2 from rfl, Nat.reduceMul, Nat.reduceEqDiff, Go.Addr.add, ↓reduceIte] at hx104_0); have qi104 : (2 < l0.length) = True := eq_true (by omega); (try rw [show ((2 : Int)).toNat = 2 from rfl] at hx104_0); replace p104 := eq_true p104; replace q104 := eq_true q104) | (go_at_call 51; (with_reducible refine (wire_hex.calls k (rd l0 2) t105 _ A13.out).mono ?_); rintro e w' ⟨rfl, ⟨nd, rfl⟩⟩; (try first | exact ⟨rfl, _, World.drewN_drewN _ _ _⟩ | exact ⟨rfl, _, Eq.trans (World.drewN_drewN _ _ _) (congrArg (World.drewN _) (Nat.add_assoc _ _ _))⟩); have p107 : 0 ≤ (0 : Int) := (by omega); have q107 : 0 < (l0.length : Int) := of_decide_eq_true (by first | (with_reducible assumption) | assumption); obtain ⟨ad107, e107, hx107_0⟩ := Kd.at_int HR0.out 0 p107 q107; obtain rfl : ad101 = ad107 := (by injection e107); have qi107 : (0 < l0.length) = True := eq_true (by omega); (try rw [show ((0 : Int)).toNat = 0 from rfl] at hx107_0); (try rw [Addr.add_zero'] at hx107_0); replace p107 := eq_true p107; replace q107 := eq_true q107)); try go_wp2_with (first | (go_at_call 51; (with_reducible refine (wire_hex.calls k (rd l0 1) t103 _ A11.out).mono ?_); rintro e w' ⟨rfl, ⟨nd, rfl⟩⟩; (try first | exact ⟨rfl, _, World.drewN_drewN _ _ _⟩ | exact ⟨rfl, _, Eq.trans (World.drewN_drewN _ _ _) (congrArg (World.drewN _) (Nat.add_assoc _ _ _))⟩); have p104 : 0 ≤ (2 : Int) := (by omega); have q104 : 2 < (l0.length : Int) := of_decide_eq_true (by first | (with_reducible assumption) | assumption); obtain ⟨ad104, e104, hx104_0⟩ := Kd.at_int HR0.out 2 p104 q104; obtain rfl : ad101 = ad104 := (by injection e104); (try simp only [show (2 : Int).toNat = 2 from rfl, Nat.reduceMul, Nat.reduceEqDiff, Go.Addr.add, ↓reduceIte] at hx104_0); have qi104 : (2 < l0.length) = True := eq_true (by omega); (try rw [show ((2 : Int)).toNat = 2 from rfl] at hx104_0); replace p104 := eq_true p104; replace q104 := eq_true q104) | (go_at_call 51; (with_reducible refine (wire_hex.calls k (rd l0 2) t105 _ A13.out).mono ?_); rintro e w' ⟨rfl, ⟨nd, rfl⟩⟩; (try first | exact ⟨rfl, _, World.drewN_drewN _ _ _⟩ | exact ⟨rfl, _, Eq.trans (World.drewN_drewN _ _ _) (congrArg (World.drewN _) (Nat.add_assoc _ _ _))⟩); have p107 : 0 ≤ (0 : Int) := (by omega); have q107 : 0 < (l0.length : Int) := of_decide_eq_true (by first | (with_reducible assumption) | assumption); obtain ⟨ad107, e107, hx107_0⟩ := Kd.at_int HR0.out 0 p107 q107; obtain rfl : ad101 = ad107 := (by injection e107); have qi107 : (0 < l0.length) = True := eq_true (by omega); (try rw [show ((0 : Int)).toNat = 0 from rfl] at hx107_0); (try rw [Addr.add_zero'] at hx107_0); replace p107 := eq_true p107; replace q107 := eq_true q107)))
                        go_ret2
                        exact ⟨by first | rfl | (simp; done) | (simp [*]; done), by repeat (first | exact Drawn0.refl _ | apply Drawn0.step)⟩
                    · rw [if_neg c12] at H
                      exact absurd H (by simp)
                  · rw [if_neg c10] at H
                    exact absurd H (by simp)
                · rw [if_neg c9] at H
                  have c9b0 : decide (2 < (l0.length : Int)) = false := decide_eq_false c9
                  have c9b1 : decide (2 < l0.length) = false := decide_eq_false (by omega)
                  clear c9
                  simp only [Option.some.injEq, Prod.mk.injEq] at H
                  obtain ⟨rfl, rfl⟩ := H
                  have p101 : 0 ≤ (0 : Int) := (by omega)
                  have q101 : 0 < (l0.length : Int) := of_decide_eq_true (by first | (with_reducible assumption) | assumption)
                  obtain ⟨ad101, e101, hx101_0⟩ := Kd.at_int HR0.out 0 p101 q101
                  cases e101
                  have qi101 : (0 < l0.length) = True := eq_true (by omega)
                  (try rw [show ((0 : Int)).toNat = 0 from rfl] at hx101_0)
                  (try rw [Addr.add_zero'] at hx101_0)
                  replace p101 := eq_true p101
                  replace q101 := eq_true q101
                  have p108 : 0 ≤ (0 : Int) := (by omega)
                  have q108 : 0 < (l0.length : Int) := of_decide_eq_true (by first | (with_reducible assumption) | assumption)
                  obtain ⟨ad108, e108, hx108_0⟩ := Kd.at_int HR0.out 0 p108 q108
                  obtain rfl : ad101 = ad108 := (by injection e108)
                  have qi108 : (0 < l0.length) = True := eq_true (by omega)
                  (try rw [show ((0 : Int)).toNat = 0 from rfl] at hx108_0)
                  (try rw [Addr.add_zero'] at hx108_0)
                  replace p108 := eq_true p108
                  replace q108 := eq_true q108
                  go_enter Try.func41, Try.ntmps41
                  go_wp2
                  repeat (go_quiet (fail); try go_wp2)
                  go_ret2
                  exact ⟨by first | rfl | (simp; done) | (simp [*]; done), by repeat (first | exact Drawn0.refl _ | apply Drawn0.step)⟩
              · rw [if_neg c8] at H
                have c8b0 : ((rd l0 0) == 120) = false := beq_eq_false_iff_ne.mpr c8
                have c8b1 : ((rd l0 0) != 120) = true := bne_iff_ne.mpr c8
                simp only [Option.some.injEq, Prod.mk.injEq] at H
                obtain ⟨rfl, rfl⟩ := H
                have p101 : 0 ≤ (0 : Int) := (by omega)
                have q101 : 0 < (l0.length : Int) := of_decide_eq_true (by first | (with_reducible assumption) | assumption)
                obtain ⟨ad101, e101, hx101_0⟩ := Kd.at_int HR0.out 0 p101 q101
                cases e101
                have qi101 : (0 < l0.length) = True := eq_true (by omega)
                (try rw [show ((0 : Int)).toNat = 0 from rfl] at hx101_0)
                (try rw [Addr.add_zero'] at hx101_0)
                replace p101 := eq_true p101
                replace q101 := eq_true q101
                have p109 : 0 ≤ (0 : Int) := (by omega)
                have q109 : 0 < (l0.length : Int) := of_decide_eq_true (by first | (with_reducible assumption) | assumption)
                obtain ⟨ad109, e109, hx109_0⟩ := Kd.at_int HR0.out 0 p109 q109
                obtain rfl : ad101 = ad109 := (by injection e109)
                have qi109 : (0 < l0.length) = True := eq_true (by omega)
                (try rw [show ((0 : Int)).toNat = 0 from rfl] at hx109_0)
                (try rw [Addr.add_zero'] at hx109_0)
                replace p109 := eq_true p109
                replace q109 := eq_true q109
                go_enter Try.func41, Try.ntmps41
                go_wp2
                repeat (go_quiet (fail); try go_wp2)
                go_ret2
                exact ⟨by first | rfl | (simp; done) | (simp [*]; done), by repeat (first | exact Drawn0.refl _ | apply Drawn0.step)⟩
  · rw [if_neg c2] at H
    exact absurd H (by simp)
end Go.Proofs.Ytfdkcnbkoagmiaa.PA
end
