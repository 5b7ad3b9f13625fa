/- Expressions as plain trees: how many parts, what is wrong, what one part may be instead. No program in sight. No conditions. -/
import Derived.Test.YtanpmmpdolaiiaaDoorLib
namespace Go.Proofs.YtanpmmpdolaiiaaDoor
open Go.RowKit
inductive Ex where
  | mk (k n : Int) (s : List Ex)
instance : Inhabited Ex := ⟨.mk 0 0 []⟩
def Ex.k : Ex → Int | .mk k _ _ => k
def Ex.n : Ex → Int | .mk _ n _ => n
def Ex.s : Ex → List Ex | .mk _ _ s => s
theorem Ex.ind {P : Ex → Prop} (h : ∀ k n s, (∀ y ∈ s, P y) → P (.mk k n s)) : ∀ x, P x := fun x =>
  Ex.rec (motive_1 := P) (motive_2 := fun l => ∀ y ∈ l, P y) (fun k n s ih => h k n s ih) (fun y hy => by cases hy) (fun a r ha hr y hy => by
    rcases List.mem_cons.1 hy with rfl | hy
    · exact ha
    · exact hr y hy) x
mutual
def Ex.parts : Ex → Nat → Int
  | .mk _ _ s, d => if 6 ≤ d then 31 else Exs.parts s d 1
def Exs.parts : List Ex → Nat → Int → Int
  | [], _, n => n
  | y :: r, d, n => if 30 < n + y.parts (d + 1) then n + y.parts (d + 1) else Exs.parts r d (n + y.parts (d + 1))
end
theorem Exs.parts_le {d : Nat} (hd : d < 6) (b : Int) : ∀ (s : List Ex) (n : Int), 1 ≤ n → n ≤ 30 → (∀ y ∈ s, 1 ≤ y.parts (d + 1) ∧ y.parts (d + 1) ≤ b) → n ≤ Exs.parts s d n ∧ (Exs.parts s d n ≤ 30 ∨ Exs.parts s d n ≤ 30 + b)
  | [], n, _, h, _ => by simp [Exs.parts]; omega
  | y :: r, n, h1, h2, h3 => by
    have hy := h3 y (by simp)
    rw [Exs.parts]
    by_cases h : 30 < n + y.parts (d + 1)
    · rw [if_pos h]; omega
    · rw [if_neg h]
      have := Exs.parts_le hd b r (n + y.parts (d + 1)) (by omega) (by omega) fun z hz => h3 z (by simp [hz])
      omega
theorem Ex.parts_le : ∀ (x : Ex) (d : Nat), d ≤ 6 → 1 ≤ x.parts d ∧ x.parts d ≤ 31 + 30 * (6 - d : Nat) := by
  refine Ex.ind fun k n s ih d hd => ?_
  rw [Ex.parts]
  by_cases h : 6 ≤ d
  · rw [if_pos h]; omega
  · rw [if_neg h]
    have := Exs.parts_le (by omega : d < 6) (31 + 30 * (6 - (d + 1) : Nat)) s 1 (by omega) (by omega) fun y hy => ih y hy (d + 1) (by omega)
    omega
def takesL : List Int := [-1, 0, 0, 0, 0, 2, 2, 2, 2, 1, 2, 2]
def headBad (k : Int) (m : Nat) : Bool := decide (k < 1) || decide (11 < k) || decide (takesL.getD k.toNat 0 ≠ (m : Int))
mutual
def Ex.err : Ex → Int
  | .mk k _ s => if headBad k s.length then 3 else Exs.err s
def Exs.err : List Ex → Int
  | [] => 0
  | y :: r => if y.err ≠ 0 then y.err else Exs.err r
end
def chkE (x : Ex) : Int := if 30 < x.parts 0 then 4 else x.err
def asksL : List Int := [2, 3, 4]
def opsL : List Int := [5, 6, 7, 8, 10, 11]
def kindsOf (k : Int) : List Int := if k ∈ asksL then asksL else opsL
def chg : Ex → List Ex
  | .mk k n s => if k = 1 then [.mk 1 (wrap64 (n + 1)) [], .mk 1 (wrap64 (n - 1)) []] else if k = 9 then [s.headD default] else ((kindsOf k).filter fun j => decide (j ≠ k)).map fun j => .mk j n s
mutual
def Ex.muts : Ex → List Ex
  | .mk k n s => chg (.mk k n s) ++ (List.range s.length).flatMap fun i => ((Exs.muts s).getD i []).map fun t => .mk k n (s.set i t)
def Exs.muts : List Ex → List (List Ex)
  | [] => []
  | y :: r => y.muts :: Exs.muts r
end
theorem Exs.muts_eq : ∀ s : List Ex, Exs.muts s = s.map Ex.muts
  | [] => by simp [Exs.muts]
  | y :: r => by simp [Exs.muts, Exs.muts_eq r]
mutual
def Ex.size : Ex → Nat
  | .mk _ _ s => 1 + Exs.size s
def Exs.size : List Ex → Nat
  | [] => 0
  | y :: r => y.size + Exs.size r
end
theorem Exs.size_mem : ∀ {s : List Ex} {y : Ex}, y ∈ s → y.size ≤ Exs.size s
  | [], _, h => by cases h
  | z :: r, y, h => by
    rw [Exs.size]
    rcases List.mem_cons.1 h with rfl | h
    · omega
    · have := Exs.size_mem h; omega
theorem Ex.size_pos : ∀ x : Ex, 1 ≤ x.size
  | .mk _ _ _ => by rw [Ex.size]; omega
/-- where no more than 30 parts are told, all are -/
theorem Exs.parts_eq {d : Nat} : ∀ (s : List Ex) (n : Int), Exs.parts s d n ≤ 30 → (∀ y ∈ s, y.parts (d + 1) ≤ 30 → y.parts (d + 1) = y.size) → (∀ y ∈ s, 1 ≤ y.parts (d + 1)) → 0 ≤ n → Exs.parts s d n = n + Exs.size s ∧ ∀ y ∈ s, y.parts (d + 1) ≤ 30
  | [], n, _, _, _, _ => by simp [Exs.parts, Exs.size]
  | y :: r, n, h, h2, h3, hn => by
    rw [Exs.parts] at h ⊢
    by_cases hc : 30 < n + y.parts (d + 1)
    · rw [if_pos hc] at h; omega
    · rw [if_neg hc] at h ⊢
      have hy := h2 y (by simp) (by omega)
      have h4 := h3 y (by simp)
      have := Exs.parts_eq r (n + y.parts (d + 1)) h (fun z hz => h2 z (by simp [hz])) (fun z hz => h3 z (by simp [hz])) (by omega)
      refine ⟨by rw [this.1, hy, Exs.size]; omega, fun z hz => ?_⟩
      rcases List.mem_cons.1 hz with rfl | hz
      · omega
      · exact this.2 z hz
theorem Ex.parts_eq : ∀ (x : Ex) (d : Nat), d ≤ 6 → x.parts d ≤ 30 → x.parts d = x.size := by
  refine Ex.ind fun k n s ih d hd h => ?_
  rw [Ex.parts] at h ⊢
  by_cases hc : 6 ≤ d
  · rw [if_pos hc] at h; omega
  · rw [if_neg hc] at h ⊢
    rw [(Exs.parts_eq s 1 h (fun y hy => ih y hy (d + 1) (by omega)) (fun y hy => (Ex.parts_le y (d + 1) (by omega)).1) (by omega)).1, Ex.size]
    omega
theorem size_le {x : Ex} (h : chkE x = 0) : x.size ≤ 30 := by
  unfold chkE at h
  by_cases hp : 30 < x.parts 0
  · rw [if_pos hp] at h; cases h
  · have := Ex.parts_eq x 0 (by omega) (by omega); omega
theorem err_zero {x : Ex} (h : chkE x = 0) : x.err = 0 := by
  unfold chkE at h
  by_cases hp : 30 < x.parts 0
  · rw [if_pos hp] at h; cases h
  · rwa [if_neg hp] at h
theorem Exs.err_mem : ∀ {s : List Ex}, Exs.err s = 0 → ∀ y ∈ s, y.err = 0
  | [], _, _, h => by cases h
  | z :: r, h, y, hy => by
    rw [Exs.err] at h
    by_cases hz : z.err ≠ 0
    · rw [if_pos hz] at h; exact absurd h hz
    · rw [if_neg hz] at h
      rcases List.mem_cons.1 hy with rfl | hy
      · simpa using hz
      · exact Exs.err_mem h y hy
theorem Ex.err_parts {k n : Int} {s : List Ex} (h : (Ex.mk k n s).err = 0) : headBad k s.length = false ∧ ∀ y ∈ s, y.err = 0 := by
  rw [Ex.err] at h
  by_cases hb : headBad k s.length = true
  · rw [if_pos hb] at h; cases h
  · rw [if_neg hb] at h
    exact ⟨by simpa using hb, Exs.err_mem h⟩
theorem chg_len (x : Ex) : (chg x).length ≤ 6 := by
  obtain ⟨k, n, s⟩ := x
  simp only [chg]
  split
  · simp
  · split
    · simp
    · rw [List.length_map]
      unfold kindsOf
      split
      · have := List.length_filter_le (fun j => decide (j ≠ k)) asksL; simp [asksL] at this ⊢; omega
      · have := List.length_filter_le (fun j => decide (j ≠ k)) opsL; simp [opsL] at this ⊢; omega
def subN (s : List Ex) (i : Nat) : Nat := ((Exs.muts s).getD i []).length
theorem flat_len {α : Type} (f : Nat → List α) : ∀ n, ((List.range n).flatMap f).length = ((List.range n).map fun i => (f i).length).sum
  | 0 => rfl
  | n + 1 => by rw [List.range_succ, List.flatMap_append, List.map_append, List.sum_append, List.length_append, flat_len f n]; simp
theorem muts_getD {s : List Ex} {i : Nat} (h : i < s.length) : (Exs.muts s).getD i [] = (s[i]).muts := by
  rw [Exs.muts_eq, List.getD_eq_getElem?_getD, List.getElem?_map, List.getElem?_eq_getElem h]; rfl
theorem Exs.sum_le : ∀ (s : List Ex), (∀ y ∈ s, y.muts.length ≤ 6 * y.size) → ((Exs.muts s).map List.length).sum ≤ 6 * Exs.size s
  | [], _ => by simp [Exs.muts, Exs.size]
  | y :: r, h => by
    have h1 := h y (by simp)
    have h2 := Exs.sum_le r fun z hz => h z (by simp [hz])
    simp only [Exs.muts, Exs.size, List.map_cons, List.sum_cons]
    omega
theorem range_sum {α : Type} : ∀ (l : List (List α)), ((List.range l.length).map fun i => (l.getD i []).length).sum = (l.map List.length).sum := by
  intro l
  congr 1
  refine List.ext_getElem (by simp) fun i h1 h2 => ?_
  simp at h1
  simp [List.getD_eq_getElem?_getD, h1]
theorem muts_len (k n : Int) (s : List Ex) : (Ex.mk k n s).muts.length = (chg (.mk k n s)).length + ((Exs.muts s).map List.length).sum := by
  rw [Ex.muts, List.length_append, flat_len, ← range_sum]
  simp only [List.length_map]
  rw [show (Exs.muts s).length = s.length by rw [Exs.muts_eq, List.length_map]]
theorem muts_le : ∀ x : Ex, x.muts.length ≤ 6 * x.size := by
  refine Ex.ind fun k n s ih => ?_
  rw [muts_len, Ex.size]
  have h1 := chg_len (.mk k n s)
  have h2 := Exs.sum_le s ih
  omega
theorem muts_not (x : Ex) : (Ex.mk 9 0 [x]).muts.length = x.muts.length + 1 := by
  rw [muts_len]; simp [chg, Exs.muts]; omega
theorem muts_less (x y : Ex) : (Ex.mk 7 0 [x, y]).muts.length = x.muts.length + y.muts.length + 5 := by
  rw [muts_len]; simp [chg, Exs.muts, kindsOf, asksL, opsL]; omega
theorem muts_lit (n : Int) : (Ex.mk 1 n []).muts.length = 2 := by rw [muts_len]; simp [chg, Exs.muts]
end Go.Proofs.YtanpmmpdolaiiaaDoor
