/- Values as plain trees: what is wrong with one, its numbers, their sum, the greatest of them. No program in sight. No conditions. -/
import Derived.Test.YtpljcpeofnobbaaDoorLib
namespace Go.Proofs.YtpljcpeofnobbaaDoor
open Go.RowKit
inductive Va where
  | mk (l : Bool) (n : Int) (s : List Va)
instance : Inhabited Va := ⟨.mk false 0 []⟩
def Va.l : Va → Bool | .mk l _ _ => l
def Va.n : Va → Int | .mk _ n _ => n
def Va.s : Va → List Va | .mk _ _ s => s
theorem Va.ind {P : Va → Prop} (h : ∀ l n s, (∀ y ∈ s, P y) → P (.mk l n s)) : ∀ x, P x := fun x =>
  Va.rec (motive_1 := P) (motive_2 := fun l => ∀ y ∈ l, P y) (fun k n s ih => h k n s ih) (fun y hy => by cases hy) (fun a r ha hr y hy => by
    rcases List.mem_cons.1 hy with rfl | hy
    · exact ha
    · exact hr y hy) x
def badV (l : Bool) (n : Int) (m : Nat) : Bool := (l && decide (n ≠ 0)) || (!l && decide (0 < m))
mutual
def Va.err : Va → Nat → Int
  | .mk l n s, d => if badV l n s.length then 3 else if 6 ≤ d then 4 else Vas.err s (d + 1)
def Vas.err : List Va → Nat → Int
  | [], _ => 0
  | y :: r, d => if y.err d ≠ 0 then y.err d else Vas.err r d
end
def chkV (v : Va) : Int := v.err 0
mutual
/-- the numbers, from the left -/
def Va.nums : Va → List Int
  | .mk l n s => (if l then [] else [n]) ++ Vas.nums s
def Vas.nums : List Va → List Int
  | [] => []
  | y :: r => y.nums ++ Vas.nums r
end
theorem Vas.nums_eq : ∀ s : List Va, Vas.nums s = s.flatMap Va.nums
  | [] => by simp [Vas.nums]
  | y :: r => by rw [Vas.nums, Vas.nums_eq r]; simp
theorem vdrop_at {s : List Va} {i : Nat} (h : i < s.length) : s.drop i = s[i] :: s.drop (i + 1) := List.drop_eq_getElem_cons h
end Go.Proofs.YtpljcpeofnobbaaDoor
