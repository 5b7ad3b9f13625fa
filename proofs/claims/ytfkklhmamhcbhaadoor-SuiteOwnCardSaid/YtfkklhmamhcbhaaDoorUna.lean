/- Lists of natural numbers behind a slice of uint32; whether a set lies within another, as the programs ask it. No conditions. -/
import Derived.Test.YtfkklhmamhcbhaaDoorUhi
namespace Go.Proofs.YtfkklhmamhcbhaaDoor
open Go.RowKit Go.Deep
theorem nat_of_ints {F : Nat → Prop} {w : World} {v : Value} {zs : List Int} (h : IntsIn .u32 F w v zs) : ∃ l, zs = ofN l := by
  obtain ⟨_, _, _, _, hw, _⟩ := h
  refine ⟨zs.map Int.toNat, ?_⟩
  unfold ofN
  rw [List.map_map]
  conv => lhs; rw [← List.map_id zs]
  apply List.map_congr_left
  intro z hz
  have := hw z hz
  simp [Lit.wf, IntKind.min, IntKind.max, IntKind.signed, IntKind.bits] at this
  show z = ((z.toNat : Nat) : Int)
  omega
/-- x lies within y -/
def subB (x y : Nat) : Bool := decide (x &&& (4294967295 - y) = 0)
theorem subB_iff {x y : Nat} (hx : x < 4294967296) (hy : y < 4294967296) : subB x y = true ↔ sub x y := by
  unfold subB
  rw [decide_eq_true_iff, sub_iff]
  have hb : ∀ i, (x &&& (4294967295 - y)).testBit i = (x.testBit i && !y.testBit i) := by
    intro i
    rw [Nat.testBit_and, show 4294967295 - y = 2 ^ 32 - (y + 1) by omega, Nat.testBit_two_pow_sub_succ (by omega)]
    by_cases hi : i < 32
    · simp [hi]
    · have : x.testBit i = false := Nat.testBit_lt_two_pow (Nat.lt_of_lt_of_le hx (show 2 ^ 32 ≤ 2 ^ i from Nat.pow_le_pow_right (by omega) (by omega)))
      simp [this]
  constructor
  · intro h i hi
    have := hb i
    rw [h, Nat.zero_testBit, hi] at this
    simpa using this.symm
  · intro h
    apply Nat.eq_of_testBit_eq
    intro i
    rw [hb, Nat.zero_testBit]
    cases hx : x.testBit i
    · rfl
    · rw [h i hx]; rfl
theorem any_snoc (p : Nat → Bool) {l : List Nat} {k : Nat} (hk : k < l.length) : (l.take (k + 1)).any p = ((l.take k).any p || p (l.getD k 0)) := by
  rw [take_snocN hk, List.any_append]; simp
theorem nat_cell {F : Nat → Prop} {w : World} {A : Option Addr} {n c : Nat} {l : List Nat} {k : Nat} (h : IntsIn .u32 F w (.slice A n c) (ofN l)) (hk : k < l.length) : ∃ b o, A = some ⟨b, o, none⟩ ∧ F b ∧ w.cell? ⟨b, o + k, none⟩ = some (.int .u32 ((l.getD k 0 : Nat) : Int)) := by
  obtain ⟨A', c', e, _, _, h3⟩ := h
  injection e with e1 e2 e3
  subst e1
  obtain ⟨b, o, rfl, hF, hc⟩ := h3 (by rw [ofN_len]; omega)
  exact ⟨b, o, rfl, hF, by rw [hc k (by rw [ofN_len]; exact hk), ← ofN_at]; rfl⟩
end Go.Proofs.YtfkklhmamhcbhaaDoor
