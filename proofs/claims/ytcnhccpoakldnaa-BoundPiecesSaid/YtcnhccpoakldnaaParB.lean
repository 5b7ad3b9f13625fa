/- BoundPieces returns true, whatever the two numbers, and writes nothing that was there. No conditions beyond the range of an int. -/
import Derived.Test.YtcnhccpoakldnaaParA
import Derived.Deep.QuietTactic
import Derived.BigQuiet
import Derived.Deep.CutRange
namespace Go.Proofs.Ytcnhccpoakldnaa
open Go.RowKit
theorem eq_arr2 (n : Nat) (a b c d : Int) (w : World) : (Op.equalIn (n + 2) 38 (.agg #[.int .i64 a, .int .i64 b]) (.agg #[.int .i64 c, .int .i64 d])).run Try.prog w = .ok (a == c && b == d) w := by
  unfold Op.equalIn
  cases h1 : (a == c) <;> cases h2 : (b == d) <;> simp [go_sem, Try.underlying38, Try.underlying3, Std.Legacy.Range.forIn_eq_forIn_range', List.range', part, h1, h2]
theorem eq2 (a b c d : Int) (w : World) : (Op.equalIn 10000 38 (.agg #[.int .i64 a, .int .i64 b]) (.agg #[.int .i64 c, .int .i64 d])).run Try.prog w = .ok (a == c && b == d) w := eq_arr2 9998 a b c d w
theorem cells_len (low : Int) (N n : Nat) : ∀ m, (cellsTo low N n m).length = m * 2
  | 0 => rfl
  | m + 1 => by simp [cellsTo, cells_len low N n m]; omega
theorem cells_get (low : Int) (N n : Nat) : ∀ m i, i < m → (cellsTo low N n m)[i * 2]? = some (.int .i64 (lowAt low N n i)) ∧ (cellsTo low N n m)[i * 2 + 1]? = some (.int .i64 (lowAt low N n (i + 1) - 1))
  | 0, _, h => by omega
  | m + 1, i, h => by
    have hl := cells_len low N n m
    by_cases hi : i < m
    · have ih := cells_get low N n m i hi
      unfold cellsTo
      rw [List.getElem?_append_left (by omega), List.getElem?_append_left (by omega)]
      exact ih
    · obtain rfl : i = m := by omega
      unfold cellsTo
      rw [List.getElem?_append_right (by omega), List.getElem?_append_right (by omega), hl]
      simp
theorem own_open {w : World} {base : Nat} {e : TypeId} {size n : Nat} {v : Value} {xs : List Value} (h : w.ownsRow base e size v n xs) (hn : 0 < n) :
    ∃ g cap, v = .slice (some ⟨g, 0, none⟩) n cap ∧ base ≤ g ∧ g < w.heap.size ∧ ∀ j, j < n * size → w.cell? ⟨g, j, none⟩ = xs[j]? := by
  rcases h.2 with ⟨rfl, h0⟩ | ⟨g, cap, cur, rfl, hb, hh, hc⟩
  · omega
  · refine ⟨g, cap, rfl, hb, ?_, fun j hj => h.cellAt j hj⟩
    rcases Nat.lt_or_ge g w.heap.size with hlt | hge
    · exact hlt
    · rw [Array.getElem?_eq_none hge] at hh; cases hh
def Piece (w w' : World) (low : Int) (N n : Nat) (g : Nat) : Prop :=
  w.heap.size ≤ g ∧ g < w'.heap.size ∧ (∀ i, i < n → w'.cell? ⟨g, i * 2, none⟩ = some (.int .i64 (lowAt low N n i)) ∧ w'.cell? ⟨g, i * 2 + 1, none⟩ = some (.int .i64 (lowAt low N n (i + 1) - 1))) ∧ Below w.heap.size w w'
theorem parts_open (low high : Int) (N n : Nat) (w : World) (h : bad low high = false) (hN : high - low + 1 = N) (hn1 : 1 ≤ n) (hn2 : n ≤ N) (hn3 : n ≤ 1000) :
    Calls Try.prog 9 #[.int .i64 low, .int .i64 high, .int .i64 n] w fun e w' => ∃ g cap, e = .returned (.tuple #[.slice (some ⟨g, 0, none⟩) n cap, .nilIface]) ∧ Piece w w' low N n g := by
  refine (parts_ok low high N n w h hN hn1 hn2 hn3).mono ?_
  rintro e w' ⟨v, rfl, hown, hb⟩
  obtain ⟨g, cap, rfl, h1, h2, h3⟩ := own_open hown (by omega)
  exact ⟨g, cap, rfl, h1, h2, fun i hi => by
    have hg := cells_get low N n n i hi
    exact ⟨(h3 _ (by omega)).trans hg.1, (h3 _ (by omega)).trans hg.2⟩, hb⟩
theorem parts_fact (w : World) : Calls Try.prog 9 #[.int .i64 1, .int .i64 9, .int .i64 2] w fun e w' => ∃ g cap, e = .returned (.tuple #[.slice (some ⟨g, 0, none⟩) 2 cap, .nilIface]) ∧ Piece w w' 1 9 2 g :=
  parts_open 1 9 9 2 w (by decide) (by decide) (by decide) (by decide) (by decide)
theorem parts_one (low high : Int) (N : Nat) (w : World) (h : bad low high = false) (hN : high - low + 1 = N) :
    Calls Try.prog 9 #[.int .i64 low, .int .i64 high, .int .i64 1] w fun e w' => ∃ g cap, e = .returned (.tuple #[.slice (some ⟨g, 0, none⟩) 1 cap, .nilIface]) ∧ Piece w w' low N 1 g := by
  have := bad_false h
  exact parts_open low high N 1 w h hN (by omega) (by omega) (by omega)
theorem parts_two (low high : Int) (N : Nat) (w : World) (h : bad low high = false) (hN : high - low + 1 = N) (h2 : 2 ≤ N) :
    Calls Try.prog 9 #[.int .i64 low, .int .i64 high, .int .i64 2] w fun e w' => ∃ g cap, e = .returned (.tuple #[.slice (some ⟨g, 0, none⟩) 2 cap, .nilIface]) ∧ Piece w w' low N 2 g :=
  parts_open low high N 2 w h hN (by omega) (by omega) (by omega)
theorem Piece.later {w w' w'' : World} {low : Int} {N n g B : Nat} (h : Piece w w' low N n g) (hb : Below B w' w'') (hB : w'.heap.size ≤ B) : ∀ i, i < n → w''.cell? ⟨g, i * 2, none⟩ = some (.int .i64 (lowAt low N n i)) ∧ w''.cell? ⟨g, i * 2 + 1, none⟩ = some (.int .i64 (lowAt low N n (i + 1) - 1)) := fun i hi => by
  have hg : g < w'.heap.size := h.2.1
  have := h.2.2.1 i hi
  exact ⟨(hb.cell (p := ⟨g, i * 2, none⟩) (by simp; omega)).trans this.1, (hb.cell (p := ⟨g, i * 2 + 1, none⟩) (by simp; omega)).trans this.2⟩
set_option maxRecDepth 100000 in
set_option maxHeartbeats 400000 in
theorem pieces_bad (low high : Int) (w : World) (h : bad low high = true) :
    Calls Try.prog 5 #[.int .i64 low, .int .i64 high] w fun e w' => e = .returned (.bool true) ∧ Below w.heap.size w w' := by
  by_cases h1 : high < low
  all_goals by_cases h2 : low < -1073741824
  all_goals have h3 : high < low ∨ low < -1073741824 ∨ 1073741824 < high := by simp [bad] at h; omega
  all_goals
    have H := hid h
    have H3 := hid h3
    clear h h3
    go_enter Try.func5, Try.ntmps5
    go_wp2_with fail
    refine (parts_fact _).mono ?_
    rintro e w1 ⟨g1, c1, rfl, hp1⟩
    have hb1 : Below w.heap.size w w1 := hp1.2.2.2
    clear hp1
    go_wp2_with fail
    refine (parts_bad _ _ _ _ H.out).mono ?_
    rintro e w2 ⟨rfl, rfl⟩
    go_wp2_with fail
    refine (parts_bad _ _ _ _ H.out).mono ?_
    rintro e w2 ⟨rfl, rfl⟩
    go_wp2_with fail
    go_ret
    have h3 := H3.out
    exact ⟨by first | rfl | (simp; omega), hb1⟩
set_option maxHeartbeats 400000 in
theorem pieces_same (low high : Int) (w : World) (h : bad low high = false) (h1 : low = high) :
    Calls Try.prog 5 #[.int .i64 low, .int .i64 high] w fun e w' => e = .returned (.bool true) ∧ Below w.heap.size w w' := by
  subst h1
  have hb := bad_false h
  have H := hid h
  clear h
  have hq := eq2
  go_enter Try.func5, Try.ntmps5
  go_wp2_with fail
  refine (parts_fact _).mono ?_
  rintro e w1 ⟨g1, c1, rfl, hp1⟩
  have hb1 : Below w.heap.size w w1 := hp1.2.2.2
  clear hp1
  go_wp2_with fail
  refine (parts_one _ _ 1 _ H.out (by omega)).mono ?_
  rintro e w2 ⟨g2, c2, rfl, hp2⟩
  have hb2 : Below w.heap.size w w2 := hb1.trans (hp2.2.2.2.mono hb1.size)
  have c0 := (hp2.2.2.1 0 (by omega)).1
  have c1 := (hp2.2.2.1 0 (by omega)).2
  simp [lowAt] at c0 c1
  clear hp2
  go_wp2_with fail
  refine (parts_range _ _ _ _ H.out (by omega)).mono ?_
  rintro e w3 ⟨rfl, rfl⟩
  go_wp2_with fail
  go_ret
  exact ⟨by first | rfl | (simp; omega), hb2⟩
theorem low_one (low : Int) (N : Nat) (hN : 1 ≤ N) : lowAt low N 1 0 = low ∧ lowAt low N 1 1 = low + N := by
  unfold lowAt; simp [Nat.mod_one]
theorem low_two (low : Int) (N : Nat) (hN : 2 ≤ N) : lowAt low N 2 0 = low ∧ lowAt low N 2 1 = low + ((N + 1) / 2 : Nat) ∧ lowAt low N 2 2 = low + N := by
  unfold lowAt; omega
theorem low_all (low : Int) (N i : Nat) (hN : 1 ≤ N) : lowAt low N N i = low + i := by
  unfold lowAt; simp [Nat.div_self (by omega : 0 < N)]
theorem below_drewN {B : Nat} {a w : World} (h : Below B a w) (n : Nat) : Below B a (w.drewN n) := ⟨h.os, h.tape, h.output, h.size, h.block⟩
def Two (w : World) (low : Int) (N g1 g2 : Nat) : Prop :=
  w.cell? ⟨g1, 0, none⟩ = some (.int .i64 low) ∧ w.cell? ⟨g1, 1, none⟩ = some (.int .i64 (low + N - 1)) ∧
  w.cell? ⟨g2, 0, none⟩ = some (.int .i64 low) ∧ w.cell? ⟨g2, 1, none⟩ = some (.int .i64 (low + ((N + 1) / 2 : Nat) - 1)) ∧
  w.cell? ⟨g2, 2, none⟩ = some (.int .i64 (low + ((N + 1) / 2 : Nat))) ∧ w.cell? ⟨g2, 3, none⟩ = some (.int .i64 (low + N - 1))
theorem two_of {w0 w1 w2 : World} {low : Int} {N g1 g2 : Nat} (hN : 2 ≤ N) (h1 : Piece w0 w1 low N 1 g1) (h2 : Piece w1 w2 low N 2 g2) : Two w2 low N g1 g2 := by
  have a := h1.later h2.2.2.2 (Nat.le_refl _) 0 (by omega)
  have b := h2.2.2.1 0 (by omega)
  have c := h2.2.2.1 1 (by omega)
  simp only [(low_one low N (by omega)).1, (low_one low N (by omega)).2, (low_two low N hN).1, (low_two low N hN).2.1, (low_two low N hN).2.2, Nat.zero_mul, Nat.one_mul, Nat.zero_add] at a b c
  exact ⟨a.1, a.2, b.1, b.2, c.1, c.2⟩
set_option maxRecDepth 100000 in
set_option maxHeartbeats 800000 in
theorem pieces_many (low : Int) (N : Nat) (w : World) (h : bad low (low + N - 1) = false) (h2 : 2 ≤ N) :
    Calls Try.prog 5 #[.int .i64 low, .int .i64 (low + N - 1)] w fun e w' => e = .returned (.bool true) ∧ Below w.heap.size w w' := by
  have hb := bad_false h
  have H := hid h
  clear h
  have hq := eq2
  have e0 : low + (N : Int) - 1 - low + 1 = N := by omega
  go_enter Try.func5, Try.ntmps5
  go_wp2_with fail
  refine (parts_fact _).mono ?_
  rintro e w1 ⟨g1, c1, rfl, hp1⟩
  have hb1 : Below w.heap.size w w1 := hp1.2.2.2
  clear hp1
  go_wp2_with fail
  refine (parts_one _ _ N _ H.out e0).mono ?_
  rintro e w2 ⟨g2, c2, rfl, hp2⟩
  have hb2 : Below w.heap.size w w2 := hb1.trans (hp2.2.2.2.mono hb1.size)
  have P2 := hid hp2
  clear hp2
  go_wp2_with fail
  refine (parts_two _ _ N _ H.out e0 h2).mono ?_
  rintro e w3 ⟨g3, c3, rfl, hp3⟩
  have hb3 : Below w.heap.size w w3 := hb2.trans (hp3.2.2.2.mono hb2.size)
  obtain ⟨a1, a2, a3, a4, a5, a6⟩ := two_of h2 P2.out hp3
  clear P2 hp3
  have f1 : (low == low) = true := by simp
  have f2 : (low + (N : Int) - 1 == low + (N : Int) - 1) = true := by simp
  go_upto_region 12 with fail
  obtain ⟨M, hM⟩ : ∃ M, M = (N + 1) / 2 := ⟨_, rfl⟩
  obtain ⟨K, hK⟩ : ∃ K, K = N / 2 := ⟨_, rfl⟩
  rw [← hM] at a4 a5
  have hMK : M + K = N ∧ K ≤ M ∧ M ≤ K + 1 := by omega
  obtain ⟨m1, m2, m3⟩ := hMK
  have x1 : IntKind.i64.wrap (low + (M : Int) - 1 - low) = (M : Int) - 1 := by rw [IntWalk.i64_in _ (by omega)]; omega
  have x2 : IntKind.i64.wrap (low + (N : Int) - 1 - (low + (M : Int))) = (K : Int) - 1 := by rw [IntWalk.i64_in _ (by omega)]; omega
  have x3 : IntKind.i64.wrap ((K : Int) - 1 + 1) = K := by rw [IntWalk.i64_in _ (by omega)]; omega
  have x4 : decide ((M : Int) - 1 < (K : Int) - 1) = false := by simp; omega
  have x5 : decide ((K : Int) < (M : Int) - 1) = false := by simp; omega
  have x6 : decide (M < K) = false := by simp; omega
  have x7 : decide ((M : Int) < (K : Int)) = false := by simp; omega
  clear hM hK
  go_cut [117] from 72 to 117 (fun c wx => c = .bool false ∧ ∃ n, wx = w3.drewN n)
  case first =>
    have HM := hid (And.intro m1 (And.intro m2 m3))
    clear m1 m2 m3
    go_quiet (fail)
    go_wp2_with fail
    go_meet
    have hm := HM.out
    exact ⟨by rw [show wrap64 (K : Int) = K from IntWalk.wrap64_in _ (by omega)]; rw [x5], _, rfl⟩
  case rest =>
    obtain ⟨rfl, n, rfl⟩ := hcut
    clear a1 a2 a3 a4 a5 a6 x1 x2 x3 x4 x5 x6 x7 m1 m2 m3 f1 f2
    go_wp2_with fail
    by_cases hbig : 1000 < N
    · refine (parts_range _ _ _ _ H.out (by omega)).mono ?_
      rintro e w4 ⟨rfl, rfl⟩
      go_wp2_with fail
      go_ret
      exact ⟨rfl, below_drewN hb3 n⟩
    · refine (parts_open _ _ N N _ H.out e0 (by omega) (by omega) (by omega)).mono ?_
      rintro e w4 ⟨g4, c4, rfl, hp4⟩
      have hb4 : Below w.heap.size w w4 := (below_drewN hb3 n).trans (hp4.2.2.2.mono hb3.size)
      have hc4 : ∀ i : Nat, i < N → w4.cell? ⟨g4, i * 2, none⟩ = some (.int .i64 (low + i)) ∧ w4.cell? ⟨g4, i * 2 + 1, none⟩ = some (.int .i64 (low + i)) := fun i hi => by
        have := hp4.2.2.1 i hi
        rw [low_all _ _ _ (by omega), low_all _ _ _ (by omega)] at this
        exact ⟨this.1, by rw [this.2]; congr 2; omega⟩
      clear hp4
      have d0 : decide (1000 < (N : Int)) = false := by simp; omega
      go_wp2_with fail
      go_loop [14] (fun i => ∃ k : Nat, k ≤ N ∧ i = .int .i64 k) (fun i => N - (intOf i).toNat)
      case atStart => exact ⟨0, Nat.zero_le _, rfl⟩
      case round =>
        obtain ⟨k, hk, rfl⟩ := hrel
        by_cases hlt : k < N
        · obtain ⟨y1, y2⟩ := hc4 k hlt
          clear hc4
          have f3 : (low + (k : Int) == low + (k : Int)) = true := by simp
          go_wp2_with fail
          go_round
          case rel => exact ⟨k + 1, by omega, by go_num⟩
          case measure => simp [intOf]; omega
        · clear hc4
          obtain rfl : k = N := by omega
          have f4 : ((k : Int) == (k : Int)) = true := by simp
          go_wp2_with fail
          go_ret
          exact ⟨rfl, hb4⟩
theorem pieces_any (low high : Int) (w : World) :
    Calls Try.prog 5 #[.int .i64 low, .int .i64 high] w fun e w' => e = .returned (.bool true) ∧ Below w.heap.size w w' := by
  cases h : bad low high with
  | true => exact pieces_bad low high w h
  | false =>
    have hb := bad_false h
    by_cases h1 : low = high
    · exact pieces_same low high w h h1
    · have e : high = low + ((high - low + 1).toNat : Int) - 1 := by omega
      rw [e] at h ⊢
      exact pieces_many low _ w h (by omega)
end Go.Proofs.Ytcnhccpoakldnaa
