/- The text of a value as mathematics: how long it is; how many parts a value has. No program in sight. No conditions. -/
import Derived.Test.YtpljcpeofnobbaaDoorVam
import Derived.Test.YtpljcpeofnobbaaDoorTlp
namespace Go.Proofs.YtpljcpeofnobbaaDoor
open Go.RowKit
mutual
def Va.text : Va → List UInt8
  | .mk l n s => if l then [40] ++ Lib.join (Vas.texts s) [32] ++ [41] else Lib.itoa n
def Vas.texts : List Va → List (List UInt8)
  | [] => []
  | y :: r => y.text :: Vas.texts r
end
mutual
def Va.size : Va → Nat
  | .mk _ _ s => 1 + Vas.size s
def Vas.size : List Va → Nat
  | [] => 0
  | y :: r => y.size + Vas.size r
end
mutual
/-- all numbers are 64 bits wide -/
def Va.wf : Va → Prop
  | .mk _ n s => (-9223372036854775808 ≤ n ∧ n ≤ 9223372036854775807) ∧ Vas.wf s
def Vas.wf : List Va → Prop
  | [] => True
  | y :: r => y.wf ∧ Vas.wf r
end
theorem texts_len : ∀ s : List Va, (Vas.texts s).length = s.length
  | [] => by simp [Vas.texts]
  | y :: r => by simp [Vas.texts, texts_len r]
theorem texts_app : ∀ (s : List Va) (y : Va), Vas.texts (s ++ [y]) = Vas.texts s ++ [y.text]
  | [], y => by simp [Vas.texts]
  | x :: r, y => by simp [Vas.texts, texts_app r y]
theorem texts_get : ∀ (s : List Va) (i : Nat) (h : i < s.length), (Vas.texts s)[i]'(by rw [texts_len]; exact h) = s[i].text
  | [], _, h => by simp at h
  | y :: r, 0, _ => by simp [Vas.texts]
  | y :: r, i + 1, h => by simpa [Vas.texts] using texts_get r i (by simpa using h)
theorem vsize_pos : ∀ v : Va, 1 ≤ v.size
  | .mk _ _ s => by rw [Va.size]; omega
theorem vsize_mem : ∀ {s : List Va} {y : Va}, y ∈ s → y.size ≤ Vas.size s
  | x :: r, y, h => by
    rw [Vas.size]
    rcases List.mem_cons.1 h with rfl | h
    · omega
    · have := vsize_mem h; omega
theorem vsize_len : ∀ s : List Va, s.length ≤ Vas.size s
  | [] => by simp [Vas.size]
  | y :: r => by rw [Vas.size, List.length_cons]; have := vsize_pos y; have := vsize_len r; omega
theorem vwf_mem : ∀ {s : List Va}, Vas.wf s → ∀ y ∈ s, y.wf
  | x :: r, hx, y, h => by
    rw [Vas.wf] at hx
    rcases List.mem_cons.1 h with rfl | h
    · exact hx.1
    · exact vwf_mem hx.2 y h
theorem lens_cons (x : List UInt8) (l : List (List UInt8)) : Lib.lens (x :: l) = x.length + Lib.lens l := by unfold Lib.lens; simp
theorem join_le (l : List (List UInt8)) (sep : List UInt8) : (Lib.join l sep).length ≤ Lib.lens l + l.length * sep.length := by
  cases l with
  | nil => simp [Lib.join]
  | cons x l =>
    rw [Lib.join_length]
    rw [List.length_cons, Nat.add_mul, Nat.mul_comm sep.length]
    omega
theorem text_le : ∀ v : Va, v.wf → v.text.length + 1 ≤ 24 * v.size := by
  refine Va.ind fun l n s ih hw => ?_
  rw [Va.wf] at hw
  have hs : ∀ r : List Va, (∀ y ∈ r, y.text.length + 1 ≤ 24 * y.size) → Lib.lens (Vas.texts r) + r.length ≤ 24 * Vas.size r := by
    intro r
    induction r with
    | nil => intro _; simp [Vas.texts, Lib.lens]
    | cons y r ihr =>
      intro h
      rw [Vas.texts, lens_cons, Vas.size, List.length_cons]
      have h1 := h y (by simp)
      have h2 := ihr fun z hz => h z (by simp [hz])
      omega
  rw [Va.text, Va.size]
  cases l with
  | false =>
    have := Lib.itoa_length_le n hw.1.1 hw.1.2
    simp only [Bool.false_eq_true, if_false]; omega
  | true =>
    simp only [if_true, List.length_append, List.length_cons, List.length_nil]
    have h1 := hs s fun y hy => ih y hy (vwf_mem hw.2 y hy)
    have h2 := join_le (Vas.texts s) [32]
    rw [texts_len] at h2
    simp only [List.length_cons, List.length_nil] at h2
    omega
theorem join_in (s : List Va) (h : ∀ y ∈ s, y.wf) : (Lib.join (Vas.texts s) [32]).length ≤ 24 * Vas.size s := by
  have hs : ∀ r : List Va, (∀ y ∈ r, y.wf) → Lib.lens (Vas.texts r) + r.length ≤ 24 * Vas.size r := by
    intro r
    induction r with
    | nil => intro _; simp [Vas.texts, Lib.lens]
    | cons y r ihr =>
      intro h
      rw [Vas.texts, lens_cons, Vas.size, List.length_cons]
      have h1 := text_le y (h y (by simp))
      have h2 := ihr fun z hz => h z (by simp [hz])
      omega
  have h1 := hs s h
  have h2 := join_le (Vas.texts s) [32]
  rw [texts_len] at h2
  simp only [List.length_cons, List.length_nil] at h2
  omega
end Go.Proofs.YtpljcpeofnobbaaDoor
