/- The first word that tells two machines, or two states, apart, and the faults number, as mathematics. No conditions. -/
import Derived.Test.YtkcggmhllijgcaaDoorBtm
import Derived.Test.YtkcggmhllijgcaaDoorRun
namespace Go.Proofs.YtkcggmhllijgcaaDoor
open Go.RowKit
open Classical in
noncomputable def apartL (a b : MachD) (i k : Nat) : List Int := if h : ∃ f, First a b i k f then h.choose else []
open Classical in
noncomputable def apartN (a b : MachD) (i k : Nat) : Int := if ∃ f, First a b i k f then 0 else 2
theorem apart_yes {a b : MachD} {i k : Nat} {f : List Int} (h : First a b i k f) : apartL a b i k = f ∧ apartN a b i k = 0 := by
  have hx : ∃ f, First a b i k f := ⟨f, h⟩
  refine ⟨?_, by unfold apartN; rw [if_pos hx]⟩
  unfold apartL
  rw [dif_pos hx]
  exact First.uniq hx.choose_spec h
theorem apart_no {a b : MachD} {i k : Nat} (h : XEqv a i b k) : apartL a b i k = [] ∧ apartN a b i k = 2 := by
  have hx : ¬ ∃ f, First a b i k f := fun ⟨f, h1, h2, _⟩ => h2 (h f h1)
  exact ⟨by unfold apartL; rw [dif_neg hx], by unfold apartN; rw [if_neg hx]⟩
noncomputable def apC (a b : MachD) : Int := if chk a ≠ 0 then chk a else if chk b ≠ 0 then chk b else if ins a ≠ ins b then 3 else apartN a b 0 0
noncomputable def apL (a b : MachD) : List Int := if chk a = 0 ∧ chk b = 0 ∧ ins a = ins b then apartL a b 0 0 else []
noncomputable def wapC (m : MachD) (i k : Int) : Int := if chk m ≠ 0 then chk m else if i < 0 ∨ (m.out.length : Int) ≤ i ∨ k < 0 ∨ (m.out.length : Int) ≤ k then 1 else apartN m m i.toNat k.toNat
noncomputable def wapL (m : MachD) (i k : Int) : List Int := if chk m = 0 ∧ ¬ (i < 0 ∨ (m.out.length : Int) ≤ i ∨ k < 0 ∨ (m.out.length : Int) ≤ k) then apartL m m i.toNat k.toNat else []
end Go.Proofs.YtkcggmhllijgcaaDoor
