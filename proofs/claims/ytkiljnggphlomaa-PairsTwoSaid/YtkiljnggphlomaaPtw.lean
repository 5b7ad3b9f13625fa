/- The law PairsTwo: it returns true, and all that the call was given reads as before. No conditions. -/
import Derived.Test.YtkiljnggphlomaaPrw
namespace Go.Proofs.Ytkiljnggphlomaa
open Go.RowKit Go.Deep
def LawPost (W : World) (e : Ending) (w' : World) : Prop := e = .returned (.bool true) ∧ Below W.heap.size W w'
theorem pairsC_two (a b : Int) : pairsC [a, b] = if a < 1 ∨ 5 < a ∨ b < 1 ∨ 5 < b then 1 else 0 := by
  unfold pairsC
  simp only [List.length_cons, List.length_nil, List.any_cons, List.any_nil, Bool.or_false, Bool.or_eq_true, decide_eq_true_eq]
  rw [if_neg (by omega)]
  by_cases h : a < 1 ∨ 5 < a ∨ b < 1 ∨ 5 < b
  · rw [if_pos h, if_pos (by omega)]
  · rw [if_neg h, if_neg (by omega)]
theorem pairsC_three (a b : Int) : pairsC [a, b, 1] = if a < 1 ∨ 5 < a ∨ b < 1 ∨ 5 < b then 1 else 0 := by
  unfold pairsC
  simp only [List.length_cons, List.length_nil, List.any_cons, List.any_nil, Bool.or_false, Bool.or_eq_true, decide_eq_true_eq]
  rw [if_neg (by omega)]
  by_cases h : a < 1 ∨ 5 < a ∨ b < 1 ∨ 5 < b
  · rw [if_pos h, if_pos (by omega)]
  · rw [if_neg h, if_neg (by omega)]
theorem ints2x {F : Nat → Prop} {w : World} {b c : Nat} {x y : Int} (hF : F b) (h0 : w.cell? ⟨b, 0, none⟩ = some (.int .i64 x)) (h1 : w.cell? ⟨b, 1, none⟩ = some (.int .i64 y)) (hx : ∀ n ∈ [x, y], (Lit.int .i64 n).wf = true) (hc : 2 ≤ c ∧ c ≤ maxLen := by simp [maxLen]) : IntsIn .i64 F w (.slice (some ⟨b, 0, none⟩) 2 c) [x, y] :=
  ⟨_, c, rfl, hc, hx, fun _ => ⟨b, 0, rfl, hF, fun i hi => by
    match i, hi with
    | 0, _ => simpa using h0
    | 1, _ => simpa using h1⟩⟩
theorem lit2 (a b : Int) (W : World) (ha : (Lit.int .i64 a).wf = true) (hb : (Lit.int .i64 b).wf = true) : IntsIn .i64 (fun k => k < W.heap.size + 1) (W.alloc (.cells #[.int .i64 a, .int .i64 b] 3)) (.slice (some ⟨W.heap.size, 0, none⟩) 2 2) [a, b] :=
  have N := Has.new W (.cells #[.int .i64 a, .int .i64 b] 3)
  ints2x (by omega) ((Has.cell N 0).trans rfl) ((Has.cell N 1).trans rfl) (by intro n hn; simp at hn; rcases hn with rfl | rfl; exact ha; exact hb)
theorem lit3 (a b c : Int) (W : World) (ha : (Lit.int .i64 a).wf = true) (hb : (Lit.int .i64 b).wf = true) (hc : (Lit.int .i64 c).wf = true) : IntsIn .i64 (fun k => k < W.heap.size + 1) (W.alloc (.cells #[.int .i64 a, .int .i64 b, .int .i64 c] 3)) (.slice (some ⟨W.heap.size, 0, none⟩) 3 3) [a, b, c] :=
  have N := Has.new W (.cells #[.int .i64 a, .int .i64 b, .int .i64 c] 3)
  ints3 (by omega) ((Has.cell N 0).trans rfl) ((Has.cell N 1).trans rfl) ((Has.cell N 2).trans rfl) (by intro n hn; simp at hn; rcases hn with rfl | rfl | rfl; exact ha; exact hb; exact hc)
theorem fact22 : pairsC [2, 2] = 0 ∧ (rowsP [2, 2]).length = 4 := ⟨by decide, (two_ok 2 2 (by omega) (by omega) (by omega) (by omega)).1⟩
set_option maxRecDepth 100000 in
set_option maxHeartbeats 4000000 in
theorem pairsTwo_walk (a b : Int) (W : World) (ha : (Lit.int .i64 a).wf = true) (hb : (Lit.int .i64 b).wf = true) :
    Calls Try.prog 5 #[.int .i64 a, .int .i64 b] W (LawPost W) := by
  have wa := hid ha
  have wb := hid hb
  have BN := fun (w : World) (o : Obj) => (Below.refl w.heap.size w).alloc (Nat.le_refl _) o
  have HBN := hid BN
  clear ha hb BN
  by_cases hbad : a < 1 ∨ 5 < a ∨ b < 1 ∨ 5 < b
  · have C2 : Hid (pairsC [a, b] = 1) := by show _ = _; rw [pairsC_two, if_pos hbad]
    have C3 : Hid (pairsC [a, b, 1] = 1) := by show _ = _; rw [pairsC_three, if_pos hbad]
    have HBAD := hid hbad
    clear hbad
    go_enter Try.func5, Try.ntmps5
    go_wp2_with fail
    refine (prows_any [a, b] _ _ _ (fun k hk => by simpa using hk) (lit2 a b W wa.out wb.out)).mono ?_
    rintro e w1 ⟨hb1, ⟨_, rfl⟩ | ⟨h0, _⟩⟩
    case inr => rw [C2.out] at h0; cases h0
    have B1 := hid ((HBN.out W (.cells #[.int .i64 a, .int .i64 b] 3)).trans (hb1.mono (by simp)))
    have s1 := B1.out.size
    rw [C2.out, errV_no (by decide)]
    clear hb1
    go_wp2_with fail
    refine (prows_any [a, b, 1] _ _ _ (fun k hk => by simpa using hk) (lit3 a b 1 w1 wa.out wb.out (by decide))).mono ?_
    rintro e w2 ⟨hb1, ⟨_, rfl⟩ | ⟨h0, _⟩⟩
    case inr => rw [C3.out] at h0; cases h0
    have B2 := hid ((B1.out.alloc s1 (.cells #[.int .i64 a, .int .i64 b, .int .i64 1] 3)).trans (hb1.mono (by simp; omega)))
    have s2 := B2.out.size
    rw [C3.out, errV_no (by decide)]
    clear hb1
    go_wp2_with fail
    refine (prows_any [2, 2] _ _ _ (fun k hk => by simpa using hk) (lit2 2 2 w2 (by decide) (by decide))).mono ?_
    rintro e w3 ⟨hb1, ⟨h0, _⟩ | ⟨_, r, bs, rfl, hR⟩⟩
    case inl => exact absurd fact22.1 h0
    have B3 := hid ((B2.out.alloc s2 (.cells #[.int .i64 2, .int .i64 2] 3)).trans (hb1.mono (by simp; omega)))
    obtain ⟨A, c, rfl, _, _⟩ := own_sl hR.own
    rw [fact22.2]
    clear hb1 hR
    have hbad := HBAD.out
    go_wp2_with fail
    all_goals first | (exfalso; omega) | skip
    all_goals go_ret
    all_goals exact ⟨by first | rfl | (simp; omega), B3.out⟩
  · obtain ⟨na, rfl⟩ : ∃ n : Nat, a = n := ⟨a.toNat, by omega⟩
    obtain ⟨nb, rfl⟩ : ∃ n : Nat, b = n := ⟨b.toNat, by omega⟩
    have C2 : Hid (pairsC [(na : Int), (nb : Int)] = 0) := by show _ = _; rw [pairsC_two, if_neg hbad]
    have C3 : Hid (pairsC [(na : Int), (nb : Int), 1] = 0) := by show _ = _; rw [pairsC_three, if_neg hbad]
    obtain ⟨L2, L3⟩ := two_ok na nb (by omega) (by omega) (by omega) (by omega)
    obtain ⟨p, hp⟩ : ∃ p, p = na * nb := ⟨_, rfl⟩
    have PL : p ≤ 25 := by
      have := Nat.mul_le_mul (show na ≤ 5 by omega) (show nb ≤ 5 by omega)
      omega
    rw [← hp] at L2 L3
    have em : IntKind.i64.wrap ((na : Int) * (nb : Int)) = (p : Int) := by
      rw [← Int.natCast_mul, ← hp, IntKind.wrap_i64]; omega
    have HL2 := hid L2
    have HL3 := hid L3
    clear hbad hp L2 L3
    go_enter Try.func5, Try.ntmps5
    go_wp2_with fail
    refine (prows_any [(na : Int), (nb : Int)] _ _ _ (fun k hk => by simpa using hk) (lit2 na nb W wa.out wb.out)).mono ?_
    rintro e w1 ⟨hb1, ⟨h0, _⟩ | ⟨_, r, bs, rfl, hR⟩⟩
    case inl => exact absurd C2.out h0
    have B1 := hid ((HBN.out W (.cells #[.int .i64 (na : Int), .int .i64 (nb : Int)] 3)).trans (hb1.mono (by simp)))
    have s1 := B1.out.size
    obtain ⟨A1, c1, rfl, _, _⟩ := own_sl hR.own
    rw [HL2.out]
    clear hb1 hR
    go_wp2_with fail
    refine (prows_any [(na : Int), (nb : Int), 1] _ _ _ (fun k hk => by simpa using hk) (lit3 na nb 1 w1 wa.out wb.out (by decide))).mono ?_
    rintro e w2 ⟨hb1, ⟨h0, _⟩ | ⟨_, r, bs2, rfl, hR⟩⟩
    case inl => exact absurd C3.out h0
    have B2 := hid ((B1.out.alloc s1 (.cells #[.int .i64 (na : Int), .int .i64 (nb : Int), .int .i64 1] 3)).trans (hb1.mono (by simp; omega)))
    have s2 := B2.out.size
    obtain ⟨A2, c2, rfl, _, _⟩ := own_sl hR.own
    rw [HL3.out]
    clear hb1 hR
    go_wp2_with fail
    refine (prows_any [2, 2] _ _ _ (fun k hk => by simpa using hk) (lit2 2 2 w2 (by decide) (by decide))).mono ?_
    rintro e w3 ⟨hb1, ⟨h0, _⟩ | ⟨_, r, bs3, rfl, hR⟩⟩
    case inl => exact absurd fact22.1 h0
    have B3 := hid ((B2.out.alloc s2 (.cells #[.int .i64 2, .int .i64 2] 3)).trans (hb1.mono (by simp; omega)))
    obtain ⟨A, c, rfl, _, _⟩ := own_sl hR.own
    rw [fact22.2]
    clear hb1 hR
    go_wp2_with fail
    go_ret
    exact ⟨rfl, B3.out⟩
end Go.Proofs.Ytkiljnggphlomaa
