/- Layer 8: value and empties walked. -/
import Derived.Test.YtfdkcnbkoagmiaaIsG
import Derived.Test.YtfdkcnbkoagmiaaApnG
import Derived.Test.YtfdkcnbkoagmiaaLivF
import Derived.Lib.AppendStr
import Derived.Deep.DeepMust
namespace Go.Proofs.Ytfdkcnbkoagmiaa.FinV
open Go Go.RowKit Go.Proofs.YtfdkcnbkoagmiaaW.PrintWords Go.Proofs.YtfdkcnbkoagmiaaW.PrintLast Go.Proofs.YtfdkcnbkoagmiaaW.PrintMore Go.Proofs.Ytfdkcnbkoagmiaa.PA Go.Proofs.Ytfdkcnbkoagmiaa.RowU Go.Proofs.Ytfdkcnbkoagmiaa.CopL Go.Proofs.Ytfdkcnbkoagmiaa.ApnG Go.Proofs.Ytfdkcnbkoagmiaa.LivS Go.Proofs.Ytfdkcnbkoagmiaa.LivT Go.Proofs.Ytfdkcnbkoagmiaa.LivF
set_option linter.unusedVariables false
set_option maxRecDepth 100000

theorem byteAt {w : World} {A : Option Addr} {l : List Int} (h : (Kd.int .u8).C w A l.length l) {i : Nat} {x : Int} (hi : l[i]? = some x) : ∃ ad, A = some ad ∧ w.cell? (ad.add i) = some (.int .u8 x) := by
  obtain ⟨hl, rfl⟩ := List.getElem?_eq_some_iff.1 hi
  obtain ⟨ad, e, hc⟩ := h.2.2 (by omega)
  obtain ⟨cs, c1, c2, c3⟩ := hc i l[i] (List.getElem?_eq_getElem hl)
  have c4 : cs = [Value.int .u8 l[i]] := c2
  subst c4
  have := c3 0 _ rfl
  rw [show (Kd.int .u8).sz = 1 from rfl, Nat.mul_one, Nat.add_zero] at this
  exact ⟨ad, e, this⟩
theorem val_le4 {l : List Int} (h : digs l) (hl : l.length ≤ 4) : ∀ k, 0 ≤ val (l.take k) ∧ val (l.take k) ≤ 9999 := by
  have key : ∀ m : List Int, digs m → 0 ≤ val m ∧ val m < 10 ^ m.length := by
    refine fun m => snoc_ind (P := fun m => digs m → 0 ≤ val m ∧ val m < 10 ^ m.length) (fun _ => by simp [val]) (fun m c ih h => ?_) m
    have h1 := ih (fun x hx => h x (by simp [hx]))
    have h2 := h c (by simp)
    rw [val_snoc, List.length_append, List.length_singleton, Int.pow_succ]
    omega
  intro k
  have h1 := key (l.take k) (fun x hx => h x (List.mem_of_mem_take hx))
  refine ⟨h1.1, ?_⟩
  have hk : (l.take k).length ≤ 4 := by rw [List.length_take]; omega
  generalize (l.take k).length = n at h1 hk
  have : n = 0 ∨ n = 1 ∨ n = 2 ∨ n = 3 ∨ n = 4 := by omega
  rcases this with rfl | rfl | rfl | rfl | rfl <;> omega
theorem val_take {l : List Int} {k : Nat} {x : Int} (h : l[k]? = some x) : val (l.take (k + 1)) = 10 * val (l.take k) + (x - 48) := by
  obtain ⟨hk, rfl⟩ := List.getElem?_eq_some_iff.1 h
  rw [List.take_add_one, List.getElem?_eq_getElem hk, Option.toList_some, val_snoc]
set_option maxHeartbeats 4000000 in
theorem value.calls (A : Option Addr) (c : Nat) (l : List Int) (v : Int) (w : World) (hr : (Kd.int .u8).C w A l.length l) (hc : l.length ≤ c) (hv : Vl l v) :
    Calls Try.prog 38 #[.slice A l.length c] w fun e w' => e = .returned (.int .i64 v) ∧ Below w.heap.size w w' := by
  have hlen : l.length ≤ 4 := by
    rcases hv with ⟨rfl, _⟩ | ⟨h, _⟩
    · decide
    · exact h.len
  have e1 : strOfNums [45, 49] = (⟨#[45, 49]⟩ : ByteArray) := rfl
  have hi := IsG.isG.calls A c l [45, 49] w hr hc (by intro x hx; simp at hx; omega) (by omega) (by decide)
  rw [e1] at hi
  rcases hv with ⟨rfl, rfl⟩ | ⟨hn, hne⟩
  · rw [decide_eq_true rfl] at hi
    have HI := Aside0.mk hi
    clear hi hr hc hlen
    go_enter Try.func38, Try.ntmps38
    go_wp2_with (go_at_call 27; refine HI.out.mono ?_; rintro e w2 ⟨rfl, hb⟩; have HB := Aside0.mk hb; clear hb)
    go_ret
    exact ⟨rfl, HB.out⟩
  · rw [decide_eq_false (by rintro rfl; have := hn.d 45 (by simp); omega)] at hi
    have HI := Aside0.mk hi
    have HV := Aside0.mk (val_le4 hn.d hlen)
    have HN := Aside0.mk hn
    have HR := Aside0.mk hr
    have HL := Aside0.mk hlen
    clear hi hr hn hlen
    go_enter Try.func38, Try.ntmps38
    go_wp2_with (go_at_call 27; refine HI.out.mono ?_; rintro e w2 ⟨rfl, hb⟩; have HB := Aside0.mk hb; clear hb)
    have HR2 := Aside0.mk (Kd.C_below HR.out HB.out)
    go_loopw [3, 4] (fun n i wr => ∃ k : Nat, n = .int .i64 (val (l.take k)) ∧ i = .int .i64 k ∧ Aside0 (k ≤ l.length ∧ wr = w2)) (fun _ i _ => l.length - (intOf i).toNat)
    case atStart => exact ⟨0, rfl, rfl, ⟨Nat.zero_le _, rfl⟩⟩
    case round =>
      obtain ⟨k, rfl, rfl, HK⟩ := hrel
      obtain ⟨hk, hw⟩ := HK.out
      subst hw
      have hl4 := HL.out
      have hVk := HV.out k
      by_cases hlt : k < l.length
      · obtain ⟨x, hx⟩ : ∃ x, l[k]? = some x := ⟨_, List.getElem?_eq_getElem hlt⟩
        obtain ⟨ad, rfl, hcell⟩ := byteAt HR2.out hx
        have hd := HN.out.d x (List.mem_of_getElem? hx)
        have HT := Aside0.mk (val_take hx)
        have HD := Aside0.mk hd
        have HVK := Aside0.mk hVk
        have hlt' : (k : Int) < (l.length : Int) := by omega
        have hk0 : (0 : Int) ≤ (k : Int) := by omega
        have hk4 : ¬ (4 : Int) < (k : Int) := by omega
        have hd1 : ¬ x < 48 := by omega
        have hd2 : ¬ 57 < x := by omega
        have HM : Aside0 (k < l.length ∧ l.length - (k + 1) < l.length - k ∧ l.length ≤ 4) := ⟨by omega⟩
        obtain ⟨V, hV⟩ : ∃ V, V = val (l.take k) := ⟨_, rfl⟩
        rw [← hV] at HT HVK
        rw [← hV]
        clear hVk hx hd hlt hl4 hk hV HK
        go_wp2_with fail
        have h1 := HT.out
        have h2 := HD.out
        have h3 := HVK.out
        have h4 := HM.out
        refine ⟨⟨k + 1, ?_, ?_, ⟨by omega, trivial⟩⟩, ?_⟩
        · congr 1
          rw [h1]
          (try unfold wrap64)
          omega
        · first
            | rfl
            | (congr 1; (try unfold wrap64); omega)
        · simp only [intOf]
          (try unfold wrap64)
          omega
      · have hke : k = l.length := by omega
        subst hke
        rw [List.take_length]
        have HE : Aside0 (val l = v) := ⟨HN.out.v⟩
        have hlt' : ¬ (l.length : Int) < (l.length : Int) := by omega
        clear hVk hlt hl4 hk
        go_wp2_with fail
        go_ret
        exact ⟨by rw [HE.out]; rfl, HB.out⟩
theorem empties_snoc (n : Nat) : LivT.empties (n + 1) = LivT.empties n ++ one := by
  unfold LivT.empties
  rw [List.replicate_succ', List.flatten_append]
  simp
theorem empties_len (n : Nat) : (LivT.empties n).length = 6 * n := by
  induction n with
  | zero => rfl
  | succ n ih => rw [empties_snoc, List.length_append, ih]; simp [one]; omega
theorem meas (n k : Nat) (h : k < n) : n - (intOf (.int .i64 ((k : Int) + 1))).toNat < n - (intOf (.int .i64 (k : Int))).toNat := by simp only [intOf]; omega
theorem meas2 (n k : Nat) (h : k < n) : n - (intOf (.int .i64 ((k + 1 : Nat) : Int))).toNat < n - (intOf (.int .i64 (k : Int))).toNat := by simp only [intOf]; omega
theorem one_size : (⟨#[36, 48, 13, 10, 13, 10]⟩ : ByteArray).size = 6 := rfl
theorem one_cells : Lib.strCells ⟨#[36, 48, 13, 10, 13, 10]⟩ = one.map (Value.int .u8) := rfl
set_option maxHeartbeats 4000000 in
theorem empties.calls (n : Nat) (hn : n ≤ 1000) (w : World) :
    Calls Try.prog 39 #[.int .i64 n] w fun e w' => ∃ vb, e = .returned vb ∧ Apd w.heap.size w w' vb (LivT.empties n) := by
  obtain ⟨i5, hi5, hz0, hz1, hz2⟩ := infoB
  have HI := Aside0.mk (And.intro hi5 (And.intro hz0 (And.intro hz1 hz2)))
  clear hi5 hz0 hz1 hz2
  go_enter Try.func39, Try.ntmps39
  go_wp2_with fail
  go_loopw [3, 4] (fun b i wr => ∃ (vb : Value) (k : Nat), vb = b ∧ i = .int .i64 k ∧ Aside0 (k ≤ n ∧ wr.ownsRow w.heap.size 5 1 b (6 * k) ((LivT.empties k).map (Value.int .u8)) ∧ Below w.heap.size w wr)) (fun _ i _ => n - (intOf i).toNat)
  case atStart => exact ⟨_, 0, rfl, rfl, ⟨Nat.zero_le _, World.ownsRow_nil w _ _ 1, Below.refl _ _⟩⟩
  case round =>
    rename World => wr
    obtain ⟨b, k, rfl, rfl, HK⟩ := hrel
    have hk := HK.out.1
    by_cases hlt : k < n
    · have hlt' : (k : Int) < (n : Int) := by omega
      have HM : Aside0 (k < n ∧ n ≤ 1000) := ⟨by omega⟩
      have HW : Aside0 (wrap64 ((k : Int) + 1) = ((k + 1 : Nat) : Int)) := ⟨by unfold wrap64; omega⟩
      have HB1 : Aside0 (6 * k + 6 ≤ maxLen ∧ 6 * k + 6 ≤ 140737488355328) := ⟨by unfold maxLen; omega⟩
      clear hk hn hlt
      go_wp2_with ((with_reducible refine gate_builtin (b := .append) (xs := #[.tmp 10, .const (.string ⟨#[36, 48, 13, 10, 13, 10]⟩)]) rfl ?_); at_builtin; go_must (refine Lib.wpList_append_own_string _ rfl (.tmp 10) (.const (.string ⟨#[36, 48, 13, 10, 13, 10]⟩)) 26 9 rfl w.heap.size 5 i5 Try.underlying26 Try.underlying9 HI.out.1 HI.out.2.1 HI.out.2.2.1 HI.out.2.2.2 b (6 * k) ((LivT.empties k).map (Value.int .u8)) rfl HK.out.2.1 _ rfl HB1.out.1 HB1.out.2 HK.out.2.2.size ?_); intro v2 w2 ho hg _; have HO := Aside0.mk ho; have HG := Aside0.mk hg; clear ho hg)
      have hm := HM.out
      refine ⟨⟨_, k + 1, rfl, ?_, ⟨by omega, ?_, ?_⟩⟩, ?_⟩
      · first
          | rfl
          | (congr 1; (try unfold wrap64); omega)
      · have h1 := HO.out
        have e : (LivT.empties (k + 1)).map (Value.int .u8) = (LivT.empties k).map (Value.int .u8) ++ Lib.strCells ⟨#[36, 48, 13, 10, 13, 10]⟩ := by rw [empties_snoc, List.map_append, one_cells]
        rw [e, show 6 * (k + 1) = 6 * k + 6 by omega]
        rw [one_size] at h1
        exact h1
      · refine HK.out.2.2.grown HG.out HK.out.2.2.size (fun q hq => ?_)
        rcases HK.out.2.1.2 with ⟨h1, _⟩ | ⟨g', cap', cur', h1, hb', _⟩
        · rw [h1] at hq; cases hq
        · rw [h1] at hq
          obtain rfl := Option.some.inj hq
          exact hb'
      · first
          | exact meas n k HM.out.1
          | (rw [HW.out]; exact meas2 n k HM.out.1)
    · have hke : k = n := by omega
      subst hke
      have hlt' : ¬ (k : Int) < (k : Int) := by omega
      clear hk hlt
      go_wp2_with fail
      go_ret
      obtain ⟨_, ho, hb⟩ := HK.out
      have ho2 : wr.ownsRow w.heap.size 5 1 b (LivT.empties k).length (encs (Value.int .u8) (LivT.empties k)) := by
        rw [empties_len, show encs (Value.int .u8) (LivT.empties k) = (LivT.empties k).map (Value.int .u8) by simp [encs]]
        exact ho
      obtain ⟨A', c', rfl, hl, hC⟩ := Kd.R_reads (Kd.R_of_own (h1 := fun _ => rfl) ho2 (ok := fun _ => True) (fun _ _ => trivial))
      refine ⟨_, rfl, A', c', rfl, hl, hC, fun ad e => ?_, hb⟩
      subst e
      rcases ho2.2 with ⟨h1, _⟩ | ⟨g', cap', cur', h1, hb', hg', _⟩
      · cases h1
      · simp only [Value.slice.injEq, Option.some.injEq] at h1
        rw [h1.1]
        exact ⟨hb', (Array.getElem?_eq_some_iff.1 hg').1, rfl, rfl⟩
end Go.Proofs.Ytfdkcnbkoagmiaa.FinV
