/- The text of a tape as mathematics: how long it is. No conditions. -/
import Derived.Lib.Join
import Derived.Lib.ItoaLen
namespace Go.Proofs.YtpljcpeofnobbaaDoor
open Go
theorem dec_pos (u : Nat) : 1 ≤ (Lib.decDigits u).length := by
  unfold Lib.decDigits
  split <;> simp
theorem itoa_pos (n : Int) : 1 ≤ (Lib.itoa n).length := by
  unfold Lib.itoa
  split
  · simp
  · exact dec_pos _
def textL (l : List Int) : List UInt8 := Lib.join (l.map Lib.itoa) [46]
def numL (l : List Int) : Nat := Lib.lens (l.map Lib.itoa)
theorem numL_nil : numL [] = 0 := rfl
theorem numL_cons (x : Int) (l : List Int) : numL (x :: l) = (Lib.itoa x).length + numL l := by
  unfold numL Lib.lens; simp
theorem numL_app (a b : List Int) : numL (a ++ b) = numL a + numL b := by
  induction a with
  | nil => simp [numL_nil]
  | cons x a ih => rw [List.cons_append, numL_cons, numL_cons, ih]; omega
theorem numL_ge (l : List Int) : l.length ≤ numL l := by
  induction l with
  | nil => simp [numL_nil]
  | cons x l ih => rw [numL_cons]; have := itoa_pos x; simp only [List.length_cons]; omega
theorem numL_le (l : List Int) (h : ∀ x ∈ l, -9223372036854775808 ≤ x ∧ x ≤ 9223372036854775807) : numL l ≤ 21 * l.length := by
  induction l with
  | nil => simp [numL_nil]
  | cons x l ih =>
    rw [numL_cons]
    have h1 := Lib.itoa_length_le x (h x (by simp)).1 (h x (by simp)).2
    have h2 := ih fun y hy => h y (by simp [hy])
    simp only [List.length_cons]; omega
theorem text_len (l : List Int) : (textL l).length = numL l + (l.length - 1) := by
  cases l with
  | nil => rfl
  | cons x l =>
    unfold textL
    rw [List.map_cons, Lib.join_length]
    show _ = Lib.lens _ + _
    simp; omega
theorem text_app (a b : List Int) : (textL a).length + b.length ≤ (textL (a ++ b)).length := by
  rw [text_len, text_len, numL_app]
  have h := numL_ge b
  simp only [List.length_append]
  cases b with
  | nil => simp [numL_nil]
  | cons y b => simp only [List.length_cons] at *; omega
end Go.Proofs.YtpljcpeofnobbaaDoor
