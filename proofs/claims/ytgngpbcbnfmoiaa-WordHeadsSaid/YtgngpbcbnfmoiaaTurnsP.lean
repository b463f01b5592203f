/- WordTurns over numbers and lists: true at every input that fits; the machine's call answers it. -/
import Derived.Test.YtgngpbcbnfmoiaaTurnsX
import Derived.Test.YtgngpbcbnfmoiaaWordS
import Derived.Test.YtgngpbcbnfmoiaaApartP
import Derived.Test.YtgngpbcbnfmoiaaArgsW
namespace Go.Proofs.Ytgngpbcbnfmoiaa.TurnsP
open Go Go.RowKit Go.Proofs.YtgngpbcbnfmoiaaW.PrintWords Go.Proofs.YtgngpbcbnfmoiaaW.PrintLast Go.Proofs.YtgngpbcbnfmoiaaW.PrintMore Go.Proofs.Ytgngpbcbnfmoiaa.PA Go.Proofs.Ytgngpbcbnfmoiaa.WordS

theorem head_ok {k r s : Int} (h : headOk k r s) : word_Head.f k r s = some (k + 256 * r + 4294967296 * s, 0) := if_pos h
theorem head_bad {k r s : Int} (h : ¬ headOk k r s) : word_Head.f k r s = some (0, 10) := if_neg h

def splitOk (x : Int) : Prop := x / 72057594037927936 = 0 ∧ x % 256 ≠ 0 ∧ x / 256 % 16777216 ≤ 1048576 ∧ x / 4294967296 % 16777216 ≤ 1048576

theorem and_255 (x : Int) (h0 : 0 ≤ x) (h1 : x < 18446744073709551616) : wrap64 (Go.bits .and .u64 x 255) = x % 256 := by
  rw [show (255 : Int) = 2 ^ 8 - 1 from rfl, NumA.and_u64 8 (by decide) x h0 h1]
  unfold wrap64; omega
theorem and_24 (x : Int) (h0 : 0 ≤ x) (h1 : x < 18446744073709551616) : wrap64 (Go.bits .and .u64 x 16777215) = x % 16777216 := by
  rw [show (16777215 : Int) = 2 ^ 24 - 1 from rfl, NumA.and_u64 24 (by decide) x h0 h1]
  unfold wrap64; omega

theorem split_some (x : Int) (h0 : 0 ≤ x) (h1 : x < 18446744073709551616) :
    word_Split.f x = if x / 72057594037927936 = 0 ∧ x % 256 ≠ 0 ∧ x / 256 % 16777216 ≤ 1048576 ∧ x / 4294967296 % 16777216 ≤ 1048576 then some (x % 256, x / 256 % 16777216, x / 4294967296 % 16777216, 0) else some (0, 0, 0, 10) := by
  unfold word_Split.f
  rw [and_255 x h0 h1, and_24 (x / 256) (by omega) (by omega), and_24 (x / 4294967296) (by omega) (by omega)]
  by_cases c1 : x / 72057594037927936 = 0
  · rw [if_pos c1]
    by_cases c2 : x % 256 = 0
    · rw [if_pos c2, if_neg (fun h => h.2.1 c2)]
    · rw [if_neg c2]
      by_cases c3 : x / 256 % 16777216 > 1048576
      · rw [if_pos c3, if_neg (fun h => by have := h.2.2.1; omega)]
      · rw [if_neg c3]
        by_cases c4 : x / 4294967296 % 16777216 > 1048576
        · rw [if_pos c4, if_neg (fun h => by have := h.2.2.2; omega)]
        · rw [if_neg c4, if_pos ⟨c1, c2, by omega, by omega⟩]
  · rw [if_neg c1, if_neg (fun h => c1 h.1)]

theorem num_some (x : Int) : larderlaw1_num.f x = some x := rfl

theorem loop_ev (ws : List Int) (all t : List Int) (p0 p1 p2 p3 n : Int) (hall : ∀ i, i < all.length → all.getD i 0 = t.getD i 0) (hn : all.length < 9223372036854775807) (r : Bool)
    (h : Ev (fun k => larderlaw1_WordTurns.l0 k ws all (all.length : Int) p0 p1 p2 p3 t n) r) (d : Nat) : ∀ i : Nat, i + d = all.length → Ev (fun k => larderlaw1_WordTurns.l0 k ws all i p0 p1 p2 p3 t n) r := by
  induction d with
  | zero =>
    intro i hi
    obtain rfl : i = all.length := by omega
    exact h
  | succ d ih =>
    intro i hi
    have hw : wrap64 ((i : Int) + 1) = ((i + 1 : Nat) : Int) := by unfold wrap64; omega
    refine Ev.step (f := fun k => larderlaw1_WordTurns.l0 k ws all ((i + 1 : Nat) : Int) p0 p1 p2 p3 t n) (fun k => ?_) (ih (i + 1) (by omega))
    have hrd : rd all (i : Int) = t.getD i 0 := by unfold rd; rw [Int.toNat_natCast]; exact hall i (by omega)
    simp only [larderlaw1_WordTurns.l0]
    rw [if_pos (by omega)]
    by_cases hlt : (i : Int) < (t.length : Int)
    · rw [if_pos hlt, if_pos (by omega), hrd, if_pos (by unfold rd; rw [Int.toNat_natCast]), hw]
    · rw [if_neg hlt, if_pos (by omega), hrd, if_pos (by rw [List.getD_eq_getElem?_getD, List.getElem?_eq_none (by omega)]; rfl), hw]

theorem WordTurns (kd rf rw_ x : Int) (t : List Int) (n : Int) (hx : 0 ≤ x ∧ x < 18446744073709551616) (ht : inB t) (htl : t.length ≤ 140737488351232) (hn : -9223372036854775808 ≤ n ∧ n < 9223372036854775808) :
    ∃ k, larderlaw1_WordTurns.f k kd rf rw_ x t n = some true := by
  apply Ev.rounds
  have hPack := Pack t ht (by omega)
  have hpl : (pack t).length = (t.length + 7) / 8 := pack_len t
  have hw8 : wrap64 (8 * ((pack t).length : Int)) = ((8 * (pack t).length : Nat) : Int) := by unfold wrap64; omega
  have hw88 : wrap64 ((t.length : Int) + 8) = ((t.length + 8 : Nat) : Int) := by unfold wrap64; omega
  have hAll := Unpack_ok (pack t) (8 * (pack t).length) (Nat.le_refl _) (by omega)
  have hul : ∀ m, (unpack (pack t) m).length = m := fun m => by simp [unpack]
  have hug : ∀ m i, i < m → (unpack (pack t) m).getD i 0 = t.getD i 0 := fun m i hi => by
    rw [← byte_pack ht i, List.getD_eq_getElem?_getD]
    simp [unpack, hi]
  -- behind the loop
  have e6 : ∀ b e (s : List Int), (b = true → e ≠ 0 ∧ s.length = 0) → (b = false → e = 0 ∧ 0 ≤ n ∧ n ≤ (8 * (pack t).length : Nat) ∧ s = unpack (pack t) n.toNat) → Ev (fun k => larderlaw1_WordTurns.j6 k (unpack (pack t) (8 * (pack t).length)) e s b kd rf rw_ x t n) true := by
    intro b e s h1 h2
    refine Ev.step (f := fun _ => some true) (fun k => ?_) (Ev.now true)
    simp only [larderlaw1_WordTurns.j6]
    cases b with
    | true =>
      obtain ⟨q1, q2⟩ := h1 rfl
      rw [if_pos rfl, num_some, Option.bind_some, if_neg q1, q2]
      rfl
    | false =>
      obtain ⟨q1, q2, q3, q4⟩ := h2 rfl
      rw [if_neg (by simp), num_some, Option.bind_some, if_pos q1, if_pos q2, if_pos (by rw [hul]; exact q3)]
      have e1 : s = (unpack (pack t) (8 * (pack t).length)).take n.toNat := by
        rw [q4]
        apply List.ext_getElem?
        intro i
        by_cases hi : i < n.toNat
        · rw [List.getElem?_take_of_lt hi]
          simp only [unpack, List.getElem?_map, List.getElem?_range hi, List.getElem?_range (show i < 8 * (pack t).length by omega)]
        · rw [List.getElem?_eq_none (by rw [hul]; omega), List.getElem?_eq_none (by rw [List.length_take]; omega)]
      rw [← e1]
      unfold larderlaw1_sameBytes.f
      simp
  have e5 : Ev (fun k => larderlaw1_WordTurns.l0 k (pack t) (unpack (pack t) (8 * (pack t).length)) ((8 * (pack t).length : Nat) : Int) kd rf rw_ x t n) true := by
    by_cases c : n < 0 ∨ 8 * ((pack t).length : Int) < n
    · refine Ev.step (fun k => by simp only [larderlaw1_WordTurns.l0]; rw [if_neg (by rw [hul]; omega)]) ?_
      refine Ev.bind (Unpack_bad (pack t) n hn c) ?_
      by_cases c1 : n < 0
      · exact Ev.congr (fun k => by rw [if_pos c1]) (e6 true 11 [] (fun _ => ⟨by decide, rfl⟩) (fun h => by cases h))
      · exact Ev.congr (fun k => by rw [if_neg c1, decide_eq_true (by rw [hul]; omega)]) (e6 true 11 [] (fun _ => ⟨by decide, rfl⟩) (fun h => by cases h))
    · obtain ⟨m, rfl⟩ := Int.eq_ofNat_of_zero_le (show 0 ≤ n by omega)
      refine Ev.step (fun k => by simp only [larderlaw1_WordTurns.l0]; rw [if_neg (by rw [hul]; omega)]) ?_
      refine Ev.bind (Unpack_ok (pack t) m (by omega) (by omega)) ?_
      exact Ev.congr (fun k => by rw [if_neg (by omega), decide_eq_false (by rw [hul]; omega)]) (e6 false 0 _ (fun h => by cases h) (fun _ => ⟨rfl, by omega, by omega, by rw [Int.toNat_natCast]⟩))
  have e4 : Ev (fun k => larderlaw1_WordTurns.j4 k (pack t) (unpack (pack t) (8 * (pack t).length)) false kd rf rw_ x t n) true := by
    refine Ev.step (fun k => by simp only [larderlaw1_WordTurns.j4]; rw [if_neg (by simp)]) ?_
    have := loop_ev (pack t) (unpack (pack t) (8 * (pack t).length)) t kd rf rw_ x n (fun i hi => hug _ i (by rw [hul] at hi; exact hi)) (by rw [hul]; omega) true (by rw [hul]; exact e5) _ 0 (Nat.zero_add _)
    exact this
  have e3 : Ev (fun k => larderlaw1_WordTurns.j3 k (pack t) false kd rf rw_ x t n) true := by
    refine Ev.step (fun k => by simp only [larderlaw1_WordTurns.j3]; rw [if_neg (by simp), hw8]) ?_
    refine Ev.bind hAll ?_
    refine Ev.congr (fun k => by rw [num_some, Option.bind_some, if_pos rfl]) ?_
    refine Ev.congr (fun k => ?_) e4
    rw [hul]
    simp
  have e2 : Ev (fun k => larderlaw1_WordTurns.j2 k kd rf rw_ x t n) true := by
    refine Ev.step (fun k => by simp only [larderlaw1_WordTurns.j2]; rfl) ?_
    refine Ev.bind hPack ?_
    refine Ev.congr (fun k => by rw [words_nat _ (by omega), Option.bind_some, if_pos (by rw [hpl]), hw8, if_neg (by omega), hw88, decide_eq_false (by omega)]) e3
  have e1 : Ev (fun k => larderlaw1_WordTurns.j1 k kd rf rw_ x t n) true := by
    refine Ev.step (f := fun k => larderlaw1_WordTurns.j2 k kd rf rw_ x t n) (fun k => ?_) e2
    simp only [larderlaw1_WordTurns.j1]
    rw [split_some x hx.1 hx.2]
    by_cases c : x / 72057594037927936 = 0 ∧ x % 256 ≠ 0 ∧ x / 256 % 16777216 ≤ 1048576 ∧ x / 4294967296 % 16777216 ≤ 1048576
    · have hh : headOk (x % 256) (x / 256 % 16777216) (x / 4294967296 % 16777216) := ⟨by omega, by omega, by omega, by omega, by omega, by omega⟩
      rw [if_pos c, Option.bind_some]
      dsimp only
      rw [num_some, Option.bind_some, if_pos rfl, head_ok hh, Option.bind_some]
      dsimp only
      rw [if_pos (by omega), num_some, Option.bind_some, if_pos rfl]
    · rw [if_neg c, Option.bind_some, num_some, Option.bind_some, if_neg (by decide)]
  have e0 : Ev (fun k => larderlaw1_WordTurns.j0 k false kd rf rw_ x t n) true := by
    refine Ev.step (f := fun k => larderlaw1_WordTurns.j1 k kd rf rw_ x t n) (fun k => ?_) e1
    simp only [larderlaw1_WordTurns.j0]
    rw [if_neg (by simp)]
    by_cases c : headOk kd rf rw_
    · have c' := c
      obtain ⟨q1, q2, q3, q4, q5, q6⟩ := c'
      rw [head_ok c, Option.bind_some, num_some, Option.bind_some, if_pos rfl, split_some _ (by omega) (by omega)]
      rw [if_pos ⟨by show (kd + 256 * rf + 4294967296 * rw_) / 72057594037927936 = 0; omega, by show (kd + 256 * rf + 4294967296 * rw_) % 256 ≠ 0; omega, by show (kd + 256 * rf + 4294967296 * rw_) / 256 % 16777216 ≤ 1048576; omega, by show (kd + 256 * rf + 4294967296 * rw_) / 4294967296 % 16777216 ≤ 1048576; omega⟩, Option.bind_some]
      rw [if_pos (by show (kd + 256 * rf + 4294967296 * rw_) % 256 = kd; omega), if_pos (by show (kd + 256 * rf + 4294967296 * rw_) / 256 % 16777216 = rf; omega), if_pos (by show (kd + 256 * rf + 4294967296 * rw_) / 4294967296 % 16777216 = rw_; omega), num_some, Option.bind_some, if_pos rfl]
    · rw [head_bad c, Option.bind_some, num_some, Option.bind_some, if_neg (by decide)]
  refine Ev.congr (fun k => ?_) e0
  unfold larderlaw1_WordTurns.f
  rw [head_ok ⟨by decide, by decide, by decide, by decide, by decide, by decide⟩, Option.bind_some, num_some, Option.bind_some, if_pos rfl]
  rfl

open Go.Proofs.Ytgngpbcbnfmoiaa.ArgsW in
theorem walk (y : Int × Int × Int × Int × List Int × Int) (ca : Array Value) (W : World) (hK : kTurn.K W y ca.toList) (hg : gI y.1 ∧ gI y.2.1 ∧ gI y.2.2.1 ∧ gU y.2.2.2.1 ∧ gBytes y.2.2.2.2.1 ∧ gI y.2.2.2.2.2) :
    Calls Try.prog 5 #[.agg ca] W fun e w' => e = .returned (.bool true) ∧ Below W.heap.size W w' := by
  obtain ⟨a, b, d, x, l, n⟩ := y
  obtain ⟨_, _, _, hx, hl, hn⟩ := hg
  obtain ⟨c0, c1, e0, hk0, c2, c3, rfl, hk1, c4, c5, rfl, hk2, c6, c7, rfl, hk3, c8, c9, rfl, hk4, hk5⟩ := hK
  obtain ⟨A, c, rfl, hlc, hC⟩ := bytes_cell hk4
  have h0 : c0 = [.int .i64 a] := hk0
  have h1 : c2 = [.int .i64 b] := hk1
  have h2 : c4 = [.int .i64 d] := hk2
  have h3 : c6 = [.int .u64 x] := hk3
  have h4 : c9 = [.int .i64 n] := hk5
  subst h0 h1 h2 h3 h4
  obtain rfl : ca = #[.int .i64 a, .int .i64 b, .int .i64 d, .int .u64 x, .slice A l.length c, .int .i64 n] := by cases ca; simp_all
  obtain ⟨k, h⟩ := WordTurns a b d x l n (wf_u64 hx) (gBytes_in hl) (gBytes_len hl) (wf_i64 hn)
  exact larderlaw1_WordTurns.calls k a b d x A c l n true W hC hlc h
end Go.Proofs.Ytgngpbcbnfmoiaa.TurnsP
