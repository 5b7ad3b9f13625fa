/- What the reference's Shorter returns of two lists. No conditions. -/
import Derived.Test.YtfalbffpdgfepaaDoorBtm
import Derived.Test.YtfalbffpdgfepaaDoorInts
namespace Go.Proofs.YtfalbffpdgfepaaDoor
open Go.RowKit
open Classical in
noncomputable def sltB (u v : List Int) : Bool := decide (slt u v)
theorem lex_at : ∀ {a b : List Int} {j : Nat}, a.length = b.length → j < a.length → (∀ k, k < j → at0 a k = at0 b k) → at0 a j ≠ at0 b j → (lexLt a b ↔ at0 a j < at0 b j)
  | x :: a, y :: b, 0, _, _, _, hne => by
    have e1 : at0 (x :: a) 0 = x := rfl
    have e2 : at0 (y :: b) 0 = y := rfl
    rw [e1, e2] at hne ⊢
    simp only [lexLt]
    constructor
    · rintro (h | ⟨h, _⟩)
      · exact h
      · exact absurd h hne
    · exact .inl
  | x :: a, y :: b, j + 1, hl, hj, hold, hne => by
    have h0 : x = y := hold 0 (by omega)
    subst h0
    have ih := lex_at (a := a) (b := b) (j := j) (by simpa using hl) (by simpa using hj) (fun k hk => hold (k + 1) (by omega)) hne
    have e1 : at0 (x :: a) (j + 1) = at0 a j := rfl
    have e2 : at0 (x :: b) (j + 1) = at0 b j := rfl
    rw [e1, e2, ← ih]
    simp only [lexLt]
    constructor
    · rintro (h | ⟨_, h⟩)
      · omega
      · exact h
    · exact fun h => Or.inr (by simpa using h)
theorem sltB_len {a b : List Int} (h : a.length ≠ b.length) : sltB a b = decide (a.length < b.length) := by
  unfold sltB; rw [decide_eq_decide]
  constructor
  · rintro (h1 | ⟨h1, _⟩)
    · exact h1
    · exact absurd h1 h
  · exact .inl
theorem sltB_at {a b : List Int} {j : Nat} (hl : a.length = b.length) (hj : j < a.length) (hold : ∀ k, k < j → at0 a k = at0 b k) (hne : at0 a j ≠ at0 b j) : sltB a b = decide (at0 a j < at0 b j) := by
  unfold sltB; rw [decide_eq_decide, ← lex_at hl hj hold hne]
  constructor
  · rintro (h1 | ⟨_, h1⟩)
    · omega
    · exact h1
  · exact fun h => .inr ⟨hl, h⟩
theorem sltB_same (a : List Int) : sltB a a = false := by unfold sltB; rw [decide_eq_false_iff_not]; exact slt_irrefl a
set_option maxHeartbeats 400000 in
theorem shorter_any (a b : List Int) (F : Nat → Prop) (u v : Value) (w : World) (hu : IntsIn .i64 F w u a) (hv : IntsIn .i64 F w v b) :
    Calls Tryd.prog 22 #[u, v] w (Quiet w (.bool (sltB a b))) := by
  obtain ⟨A, ca, rfl, ha1, _, ha⟩ := hu
  obtain ⟨B, cb, rfl, hb1, _, hb⟩ := hv
  have HA := hid ha
  have HB := hid hb
  clear ha hb
  unfold maxLen at ha1 hb1
  by_cases hl : a.length = b.length
  · have HL := hid hl
    rw [← hl]
    have e1 : ((a.length : Int) != (a.length : Int)) = false := by simp
    clear hl
    go_enter Tryd.func22, Tryd.ntmps22
    go_wp2_with fail
    go_loopw [5] (fun i wr => ∃ j q : Nat, j ≤ a.length ∧ i = .int .i64 j ∧ wr = w.drewN q ∧ Hid (∀ k, k < j → at0 a k = at0 b k)) (fun i _ => a.length - (intOf i).toNat)
    case atStart => exact ⟨0, 0, Nat.zero_le _, rfl, rfl, fun k hk => by omega⟩
    case round =>
      obtain ⟨j, q, hj, rfl, rfl, hold⟩ := hrel
      by_cases hlt : j < a.length
      · obtain ⟨b1, o1, rfl, _, hc1⟩ := HA.out (by omega)
        obtain ⟨b2, o2, rfl, _, hc2⟩ := HB.out (by have := HL.out; omega)
        have c1 : w.cell? ⟨b1, o1 + j, none⟩ = some (.int .i64 (at0 a j)) := hc1 j hlt
        have c2 : w.cell? ⟨b2, o2 + j, none⟩ = some (.int .i64 (at0 b j)) := hc2 j (by rw [← HL.out]; exact hlt)
        clear hc1 hc2
        have i1 : (j : Int) < (a.length : Int) := by omega
        obtain ⟨x, hx⟩ : ∃ x, x = at0 a j := ⟨_, rfl⟩
        obtain ⟨y, hy⟩ : ∃ y, y = at0 b j := ⟨_, rfl⟩
        rw [← hx] at c1
        rw [← hy] at c2
        have HX := hid hx
        have HY := hid hy
        clear hx hy
        by_cases hxy : x = y
        · have HE := hid hxy
          clear hxy
          have z1 : (x != y) = false := by have := HE.out; simp [this]
          go_upto_region 6 with fail
          go_quiet (fail)
          go_wp2_with fail
          go_roundw
          case rel => exact ⟨j + 1, _, by omega, by go_num, rfl, fun k hk => by
            by_cases hkj : k = j
            · subst hkj; rw [← HX.out, ← HY.out]; exact HE.out
            · exact hold.out k (by omega)⟩
          case measure => simp [intOf]; omega
        · have z1 : (x != y) = true := by simp [hxy]
          have D : Hid (sltB a b = decide (x < y)) := by
            show _ = _
            rw [HX.out, HY.out]
            exact sltB_at HL.out hlt hold.out (by rw [← HX.out, ← HY.out]; exact hxy)
          clear hxy
          go_upto_region 6 with fail
          go_quiet (fail)
          go_wp2_with fail
          go_quiet (fail)
          go_wp2_with fail
          go_ret
          exact ⟨by rw [D.out]; rfl, _, by simp only [World.drewN_drewN]; rfl⟩
      · have D : Hid (sltB a b = false) := by
          show _ = _
          rw [list_ext_at HL.out fun i hi => hold.out i (by omega)]
          exact sltB_same b
        go_wp2_with fail
        go_ret
        exact ⟨by rw [D.out]; rfl, _, rfl⟩
  · have D : Hid (sltB a b = decide (a.length < b.length)) := sltB_len hl
    have e1 : ((a.length : Int) != (b.length : Int)) = true := by simp; omega
    clear hl
    go_enter Tryd.func22, Tryd.ntmps22
    go_wp2_with fail
    go_ret
    exact ⟨by rw [D.out]; simp, 0, rfl⟩
end Go.Proofs.YtfalbffpdgfepaaDoor
