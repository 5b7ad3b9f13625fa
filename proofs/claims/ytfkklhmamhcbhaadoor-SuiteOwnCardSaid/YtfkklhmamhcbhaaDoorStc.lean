/- suite.Check: what is wrong with tests; suite.passed of all of them: what they pass together. Condition: the search's table is laid. -/
import Derived.Test.YtfkklhmamhcbhaaDoorUna
import Derived.Test.YtfkklhmamhcbhaaDoorTzl
namespace Go.Proofs.YtfkklhmamhcbhaaDoor
open Go.RowKit Go.Deep
/-- what is wrong with tests -/
def stC (n : Int) (l : List Nat) : Int := if n < 0 ∨ 32 < n then 1 else if 12 < l.length then 4 else if l.all fun s => decide (s < 2 ^ n.toNat) then 0 else 1
theorem stC_good {n : Int} {l : List Nat} (h : stC n l = 0) : 0 ≤ n ∧ n ≤ 32 ∧ l.length ≤ 12 ∧ ∀ s ∈ l, s < 2 ^ n.toNat := by
  unfold stC at h
  split at h
  · simp at h
  · split at h
    · simp at h
    · split at h
      · rename_i h1 h2 h3
        rw [List.all_eq_true] at h3
        exact ⟨by omega, by omega, by omega, fun s hs => by simpa using h3 s hs⟩
      · simp at h
def unionN (l : List Nat) : Nat := l.foldl (fun a b => a ||| b) 0
theorem unionN_snoc (l : List Nat) (s : Nat) : unionN (l ++ [s]) = unionN l ||| s := by unfold unionN; rw [List.foldl_append]; rfl
theorem unionN_lt {l : List Nat} (h : ∀ s ∈ l, s < 4294967296) : unionN l < 4294967296 := by
  induction l using list_snoc_ind with
  | h0 => show (0 : Nat) < _; omega
  | h1 l s ih =>
    rw [unionN_snoc]
    exact Nat.or_lt_two_pow (n := 32) (ih fun y hy => h y (List.mem_append_left _ hy)) (h s (by simp))
theorem unionN_bit {l : List Nat} {i : Nat} : (unionN l).testBit i = true ↔ ∃ s ∈ l, s.testBit i = true := by
  induction l using list_snoc_ind with
  | h0 => show (0 : Nat).testBit i = true ↔ _; simp
  | h1 l s ih =>
    rw [unionN_snoc, Nat.testBit_or, Bool.or_eq_true, ih]
    constructor
    · rintro (⟨y, h1, h2⟩ | h)
      · exact ⟨y, List.mem_append_left _ h1, h2⟩
      · exact ⟨s, by simp, h⟩
    · rintro ⟨y, h1, h2⟩
      rcases List.mem_append.1 h1 with h | h
      · exact .inl ⟨y, h, h2⟩
      · rw [List.mem_singleton.1 h] at h2; exact .inr h2
theorem which_ok : ∀ m, m ≤ 12 → ∀ j, j < m → Lib.ctz 64 (2 ^ m - 2 ^ j) = j ∧ (2 ^ m - 2 ^ j) &&& (2 ^ m - 2 ^ j - 1) = 2 ^ m - 2 ^ (j + 1) := by decide +kernel
theorem pow_le12 {m : Nat} (h : m ≤ 12) : 2 ^ m ≤ 4096 := (Nat.pow_le_pow_right (by omega) h : 2 ^ m ≤ 2 ^ 12)
theorem pow_mono {j m : Nat} (h : j ≤ m) : 2 ^ j ≤ 2 ^ m := Nat.pow_le_pow_right (by omega) h
set_option maxRecDepth 100000 in
set_option maxHeartbeats 1000000 in
theorem passed_any (l : List Nat) (F : Nat → Prop) (v : Value) (w : World) (hT : Tz w) (hv : IntsIn .u32 F w v (ofN l)) (hl : l.length ≤ 12) :
    Calls Tryd.prog 14 #[v, .int .u64 ((2 ^ l.length - 1 : Nat) : Int)] w fun e w' => e = .returned (.int .u32 (unionN l : Nat)) ∧ w' = w := by
  have NW := hid (nwf hv)
  have HT := hid hT
  have H := hid hv
  obtain ⟨A, c, rfl, ⟨h1, h2⟩, _, _⟩ := hv
  rw [ofN_len] at h1 H ⊢
  unfold maxLen at h2
  clear hT
  obtain ⟨W0, hW⟩ : ∃ W0, W0 = 2 ^ l.length - 1 := ⟨_, rfl⟩
  rw [← hW]
  have P0 := hid hW
  clear hW
  go_enter Tryd.func14, Tryd.ntmps14
  go_wp2_with fail
  go_loopw [1, 5] (fun wv ov wr => ∃ j : Nat, j ≤ l.length ∧ wv = .int .u64 ((2 ^ l.length - 2 ^ j : Nat) : Int) ∧ ov = .int .u32 ((unionN (l.take j) : Nat) : Int) ∧ wr = w) (fun wv _ _ => (intOf wv).toNat)
  case atStart => exact ⟨0, Nat.zero_le _, by rw [P0.out], rfl, rfl⟩
  case round =>
    obtain ⟨j, hj, rfl, rfl, rfl⟩ := hrel
    have pj := pow_mono hj
    have pm := pow_le12 hl
    by_cases hlt : j < l.length
    · obtain ⟨b, o, rfl, _, c1⟩ := nat_cell H.out hlt
      obtain ⟨hz, hn⟩ := which_ok _ hl _ hlt
      have pj2 := pow_mono (show j + 1 ≤ l.length by omega)
      have pj3 : 2 ^ (j + 1) = 2 * 2 ^ j := by rw [Nat.pow_succ]; omega
      have p1 : 1 ≤ 2 ^ j := Nat.one_le_two_pow
      have UT : unionN (l.take j) < 4294967296 := unionN_lt fun y hy => NW.out y (List.mem_of_mem_take hy)
      have US := hid (unionN_snoc (l.take j) (l.getD j 0))
      have TS := hid (take_snocN hlt)
      have s32 := NW.out _ (getD_mem hlt)
      generalize l.getD j 0 = s at c1 US TS s32
      have eO := u32_or_nat (unionN (l.take j)) s UT s32
      generalize unionN (l.take j) = u at UT US eO
      generalize hx : 2 ^ l.length - 2 ^ j = x at hz hn
      generalize hy : 2 ^ l.length - 2 ^ (j + 1) = y at hn
      have x1 : 1 ≤ x := by omega
      have x2 : x ≤ 4096 := by omega
      have yx : Hid (y < x) := by show _ < _; omega
      have HX := hid hx
      have HY := hid hy
      have eA : bits .and .u64 (x : Int) ((x : Int) - 1) = (y : Int) := by
        rw [show ((x : Int) - 1) = ((x - 1 : Nat) : Int) by omega, bits_and_u64_nat _ _ (by omega) (by omega), hn]
      have HZ := hid hz
      generalize u ||| s = q at US eO
      have i1 : (j : Int) < (l.length : Int) := by omega
      clear hx hy hn hz pj pm pj2 pj3 p1
      go_wp2_with fail
      refine (tz_any x (by omega) _ HT.out).mono ?_
      rintro e w2 ⟨rfl, rfl⟩
      rw [HZ.out]
      go_wp2_with fail
      go_roundw
      case rel => exact ⟨j + 1, by omega, by rw [HY.out], by rw [TS.out, US.out], trivial⟩
      case measure => simp only [intOf]; have := yx.out; omega
    · obtain rfl : j = l.length := by omega
      rw [List.take_length, Nat.sub_self]
      go_wp2_with fail
      go_ret
      exact ⟨rfl, rfl⟩
set_option maxRecDepth 100000 in
set_option maxHeartbeats 400000 in
theorem scheck_any (n : Int) (l : List Nat) (F : Nat → Prop) (v : Value) (w : World) (hv : IntsIn .u32 F w v (ofN l)) :
    Calls Tryd.prog 13 #[.int .i64 n, v] w fun e w' => e = .returned (errV (stC n l)) ∧ w' = w := by
  have NW := hid (nwf hv)
  have H := hid hv
  obtain ⟨A, c, rfl, ⟨h1, h2⟩, _, _⟩ := hv
  rw [ofN_len] at h1 H ⊢
  unfold maxLen at h2
  by_cases h0 : n < 0
  · have E : Hid (stC n l = 1) := by show _ = _; unfold stC; rw [if_pos (.inl h0)]
    go_enter Tryd.func13, Tryd.ntmps13
    go_wp2_with fail
    go_ret
    exact ⟨by rw [E.out, errV_no (by decide)]; rfl, rfl⟩
  by_cases h32 : n > 32
  · have E : Hid (stC n l = 1) := by show _ = _; unfold stC; rw [if_pos (.inr h32)]
    have d0 : decide (n < 0) = false := by simp; omega
    go_enter Tryd.func13, Tryd.ntmps13
    go_wp2_with fail
    go_ret
    exact ⟨by rw [E.out, errV_no (by decide)]; rfl, rfl⟩
  have E0 : Hid (stC n l = if 12 < l.length then 4 else if l.all fun s => decide (s < 2 ^ n.toNat) then 0 else 1) := by show _ = _; unfold stC; rw [if_neg (by omega)]
  by_cases hl : 12 < l.length
  · have E : Hid (stC n l = 4) := by show _ = _; rw [E0.out, if_pos hl]
    have i1 : ((l.length : Int) > 12) := by omega
    go_enter Tryd.func13, Tryd.ntmps13
    go_wp2_with fail
    go_ret
    exact ⟨by rw [E.out, errV_no (by decide)]; rfl, rfl⟩
  · have i1 : ¬ ((l.length : Int) > 12) := by omega
    obtain ⟨N, rfl⟩ : ∃ N : Nat, n = (N : Int) := ⟨n.toNat, by omega⟩
    rw [Int.toNat_natCast, if_neg hl] at E0
    have n32 : N ≤ 32 := by omega
    go_enter Tryd.func13, Tryd.ntmps13
    go_wp2_with fail
    go_loopw [20] (fun iv wr => ∃ j : Nat, j ≤ l.length ∧ iv = .int .i64 j ∧ wr = w ∧ Hid (∀ k, k < j → l.getD k 0 < 2 ^ N)) (fun iv _ => l.length - (intOf iv).toNat)
    case atStart => exact ⟨0, Nat.zero_le _, rfl, rfl, fun k hk => by omega⟩
    case round =>
      obtain ⟨j, hj, rfl, rfl, hold⟩ := hrel
      by_cases hlt : j < l.length
      · obtain ⟨b, o, rfl, _, c1⟩ := nat_cell H.out hlt
        have i2 : (j : Int) < (l.length : Int) := by omega
        have MJ := hid (getD_mem hlt)
        have SJ := NW.out _ (getD_mem hlt)
        generalize hs : l.getD j 0 = s at c1 SJ MJ
        have HS := hid hs
        clear hs
        have eD : ((s : Int) / 2 ^ N) = ((s / 2 ^ N : Nat) : Int) := by push_cast; rfl
        have pN : 0 < 2 ^ N := Nat.two_pow_pos N
        by_cases hq : s < 2 ^ N
        · have z1 : ((s : Int) / 2 ^ N != 0) = false := by rw [eD, Nat.div_eq_of_lt hq]; rfl
          have N' : Hid (∀ k, k < j + 1 → l.getD k 0 < 2 ^ N) := fun k hk => by
            by_cases hkj : k = j
            · subst hkj; rw [HS.out]; exact hq
            · exact hold.out k (by omega)
          clear eD hq pN
          go_wp2_with fail
          go_roundw
          case rel => exact ⟨j + 1, by omega, by go_num, trivial, N'⟩
          case measure => simp [intOf]; omega
        · have z1 : ((s : Int) / 2 ^ N != 0) = true := by
            rw [eD, bne_iff_ne]
            have : 0 < s / 2 ^ N := Nat.div_pos (by omega) pN
            omega
          have E : Hid (stC N l = 1) := by
            show _ = _
            rw [E0.out, if_neg]
            intro h
            rw [List.all_eq_true] at h
            have := h _ MJ.out
            simp at this
            omega
          clear eD hq pN
          go_wp2_with fail
          go_ret
          exact ⟨by rw [E.out, errV_no (by decide)]; rfl, rfl⟩
      · obtain rfl : j = l.length := by omega
        have E : Hid (stC N l = 0) := by
          show _ = _
          rw [E0.out, if_pos]
          rw [List.all_eq_true]
          intro x hx
          obtain ⟨k, hk, rfl⟩ := List.getElem_of_mem hx
          have := hold.out k hk
          rw [List.getD_eq_getElem?_getD, List.getElem?_eq_getElem hk] at this
          simpa using this
        go_wp2_with fail
        go_ret
        exact ⟨by rw [E.out, errV_0]; rfl, rfl⟩
end Go.Proofs.YtfkklhmamhcbhaaDoor
