/- A step of a range over a text at a byte beyond ASCII: the rune is no ASCII one, and all its bytes lie beyond ASCII. No program in sight. No conditions. -/
import Derived.Test.YtpljcpeofnobbaaDoorVix
import Derived.Laws.RangeAny
import Derived.Lib.DecodeN
import Derived.Lib.QuoteLoop
namespace Go.Proofs.YtpljcpeofnobbaaDoor
open Go.RowKit
theorem decN_cont (n b0 b1 b2 b3 : Nat) (h : 128 ≤ b0) (hn : 1 ≤ n) : 128 ≤ (Lib.decodeN n b0 b1 b2 b3).1 ∧ 1 ≤ (Lib.decodeN n b0 b1 b2 b3).2 ∧ (Lib.decodeN n b0 b1 b2 b3).2 ≤ n ∧ (Lib.decodeN n b0 b1 b2 b3).2 ≤ 4 ∧ (2 ≤ (Lib.decodeN n b0 b1 b2 b3).2 → 128 ≤ b1) ∧ (3 ≤ (Lib.decodeN n b0 b1 b2 b3).2 → 128 ≤ b2) ∧ (4 ≤ (Lib.decodeN n b0 b1 b2 b3).2 → 128 ≤ b3) := by
  unfold Lib.decodeN
  repeat' split
  all_goals (simp only; omega)
theorem rune_valid_at (s : ByteArray) (i : Nat) : Lib.validRune ((Utf8.decode s i).1 : Int) = true := by
  have h := Lib.decodeN_valid (s.size - i) (s.get! i).toNat (s.get! (i + 1)).toNat (s.get! (i + 2)).toNat (s.get! (i + 3)).toNat (UInt8.toNat_lt _)
  rw [← Lib.decode_at] at h
  simp only [Lib.validRune, decide_eq_true_eq]
  omega
theorem step_high (s : ByteArray) (i : Nat) (hi : i < s.size) (h : 128 ≤ (s[i]'hi).toNat) :
    128 ≤ (Utf8.decode s i).1 ∧ 1 ≤ (Utf8.decode s i).2 ∧ i + (Utf8.decode s i).2 ≤ s.size ∧ ∀ j, i ≤ j → j < i + (Utf8.decode s i).2 → ∃ hj : j < s.size, 128 ≤ (s[j]'hj).toNat := by
  have g0 : s.get! i = s[i]'hi := get_at s i hi
  have hd := decN_cont (s.size - i) (s.get! i).toNat (s.get! (i + 1)).toNat (s.get! (i + 2)).toNat (s.get! (i + 3)).toNat (by rw [g0]; exact h) (by omega)
  rw [← Lib.decode_at] at hd
  obtain ⟨h1, h2, h3, h4, h5, h6, h7⟩ := hd
  refine ⟨h1, h2, by omega, fun j h8 h9 => ⟨by omega, ?_⟩⟩
  have hj : j < s.size := by omega
  have gj : s.get! j = s[j]'hj := get_at s j hj
  rw [← gj]
  have : j = i ∨ j = i + 1 ∨ j = i + 2 ∨ j = i + 3 := by omega
  rcases this with rfl | rfl | rfl | rfl
  · rw [g0]; exact h
  · exact h5 (by omega)
  · exact h6 (by omega)
  · exact h7 (by omega)
theorem noany_step {s : ByteArray} {i : Nat} (hno : Lib.NoAny s.data.toList [32, 41] i) (hi : i < s.size) (h : 128 ≤ (s[i]'hi).toNat) : Lib.NoAny s.data.toList [32, 41] (i + (Utf8.decode s i).2) := fun j b hj hb => by
  by_cases hji : j < i
  · exact hno j b hji hb
  · obtain ⟨hjs, h2⟩ := (step_high s i hi h).2.2.2 j (by omega) hj
    rw [Lib.data_getElem? s j hjs] at hb
    injection hb with hb
    subst hb
    have n1 : s[j] ≠ 32 := fun e => by rw [e] at h2; revert h2; decide
    have n2 : s[j] ≠ 41 := fun e => by rw [e] at h2; revert h2; decide
    simp [n1, n2]
end Go.Proofs.YtpljcpeofnobbaaDoor
