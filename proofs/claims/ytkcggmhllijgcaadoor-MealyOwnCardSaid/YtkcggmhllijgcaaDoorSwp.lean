/- The machine with two states' numbers changed for each other, and that with a state more: plain mathematics. No conditions. -/
import Derived.Test.YtkcggmhllijgcaaDoorLok
namespace Go.Proofs.YtkcggmhllijgcaaDoor
def sw (i k : Nat) (s : Nat) : Nat := if s = i then k else if s = k then i else s
def swZ (i k : Nat) (s : Int) : Int := if s = i then k else if s = k then i else s
theorem swZ_nat (i k s : Nat) : swZ i k (s : Int) = (sw i k s : Nat) := by
  unfold swZ sw
  by_cases h : s = i
  · rw [if_pos h, if_pos (by omega)]
  · rw [if_neg h, if_neg (by omega)]
    by_cases h2 : s = k
    · rw [if_pos h2, if_pos (by omega)]
    · rw [if_neg h2, if_neg (by omega)]
theorem sw_sw (i k s : Nat) : sw i k (sw i k s) = s := by unfold sw; split <;> (try split) <;> (try split) <;> omega
theorem sw_lt {i k s n : Nat} (hi : i < n) (hk : k < n) (hs : s < n) : sw i k s < n := by unfold sw; split <;> (try split) <;> omega
theorem sw_zero {i k : Nat} (hi : 1 ≤ i) (hk : 1 ≤ k) : sw i k 0 = 0 := by unfold sw; split <;> (try split) <;> omega
/-- the first j rows of the machine with the numbers changed -/
def swTo (m : MachD) (i k j : Nat) : MachD := ⟨(List.range j).map fun s => rowAt m.out (sw i k s), (List.range j).map fun s => (rowAt m.next (sw i k s)).map (swZ i k)⟩
def more (o : MachD) (r : List Int) : MachD := ⟨o.out ++ [r], o.next ++ [rowAt o.next 0]⟩
theorem rowAt_range (f : Nat → List Int) (n s : Nat) (h : s < n) : rowAt ((List.range n).map f) s = f s := by
  unfold rowAt; rw [List.getD_eq_getElem?_getD]; simp [h]
theorem at0_map (f : Int → Int) (l : List Int) (j : Nat) (h : j < l.length) : at0 (l.map f) j = f (at0 l j) := by
  unfold at0; rw [List.getD_eq_getElem?_getD, List.getD_eq_getElem?_getD, List.getElem?_map, List.getElem?_eq_getElem h]; rfl
theorem sw_out {m : MachD} {i k s : Nat} (hs : s < m.out.length) : rowAt (swTo m i k m.out.length).out s = rowAt m.out (sw i k s) := rowAt_range _ _ _ hs
theorem sw_next {m : MachD} {i k s : Nat} (hs : s < m.out.length) : rowAt (swTo m i k m.out.length).next s = (rowAt m.next (sw i k s)).map (swZ i k) := rowAt_range _ _ _ hs
section
variable {m : MachD} {i k : Nat} (g : Good m) (hi : 1 ≤ i) (hi' : i < m.out.length) (hk : 1 ≤ k) (hk' : k < m.out.length)
include g hi hi' hk hk'
omit g hi' in
theorem sw_ins : ins (swTo m i k m.out.length) = ins m := by
  unfold ins; rw [sw_out (by omega), sw_zero hi hk]
theorem sw_good : Good (swTo m i k m.out.length) := by
  have e := sw_ins hi hk hk'
  have l : (swTo m i k m.out.length).out.length = m.out.length := by simp [swTo]
  have l2 : (swTo m i k m.out.length).next.length = m.out.length := by simp [swTo]
  refine ⟨by rw [l]; exact g.pos, by rw [l]; exact g.le, by rw [l, l2], by rw [e]; exact g.ins1, by rw [e]; exact g.ins3, fun s hs => ?_, fun s hs => ?_, fun s hs x hx => ?_⟩
  · rw [l] at hs; rw [sw_out hs, e]; exact g.rowO _ (sw_lt hi' hk' hs)
  · rw [l] at hs; rw [sw_next hs, e, List.length_map]; exact g.rowN _ (sw_lt hi' hk' hs)
  · rw [l] at hs ⊢; rw [e] at hx
    have hs' := sw_lt hi' hk' hs
    rw [sw_next hs, at0_map _ _ _ (by rw [g.rowN _ hs']; exact hx)]
    have := g.goes _ hs' x hx
    obtain ⟨y, hy⟩ : ∃ y : Nat, at0 (rowAt m.next (sw i k s)) x = (y : Int) := ⟨_, (Int.toNat_of_nonneg this.1).symm⟩
    rw [hy] at this ⊢
    rw [swZ_nat]
    have := sw_lt hi' hk' (show y < m.out.length by omega)
    omega
omit hi hk in
theorem sw_tells : ∀ (w : List Int) (s : Nat), s < m.out.length → word m w → tells (swTo m i k m.out.length) (sw i k s) w = tells m s w
  | [], _, _, _ => rfl
  | x :: w, s, hs, hw => by
    have hx := hw x (by simp)
    have hs' := sw_lt hi' hk' hs
    have e1 : outAt (swTo m i k m.out.length) (sw i k s) x = outAt m s x := by unfold outAt; rw [sw_out hs', sw_sw]
    have e2 : nextAt (swTo m i k m.out.length) (sw i k s) x = sw i k (nextAt m s x) := by
      have lx : x.toNat < ins m := by have := hx.1; have := hx.2; omega
      conv => lhs; unfold nextAt
      rw [sw_next hs', sw_sw, at0_map _ _ _ (by rw [g.rowN _ hs]; exact lx), nextAt_eq g hs hx, swZ_nat, Int.toNat_natCast]
    simp only [tells, e1, e2]
    rw [sw_tells w _ (nextAt_lt g hs hx) fun y hy => hw y (by simp [hy])]
theorem sw_xeqv : XEqv (swTo m i k m.out.length) 0 m 0 := by
  intro w hw
  have := sw_tells g hi' hk' w 0 (by omega) (fun x hx => by have := hw x hx; unfold letter at this; rw [sw_ins hi hk hk'] at this; exact this)
  rw [sw_zero hi hk] at this
  exact this
end
section
variable {o : MachD} {r : List Int} (g : Good o) (hr : r = rowAt o.out 0) (h6 : o.out.length < 6)
theorem more_out {s : Nat} (hs : s < o.out.length) : rowAt (more o r).out s = rowAt o.out s := by
  show rowAt (o.out ++ [r]) s = _
  rw [rowAt_append, if_pos hs]
theorem more_out' : rowAt (more o r).out o.out.length = r := by
  show rowAt (o.out ++ [r]) _ = _
  rw [rowAt_append, if_neg (by omega), Nat.sub_self]; rfl
theorem more_next {s : Nat} (hs : s < o.next.length) : rowAt (more o r).next s = rowAt o.next s := by
  show rowAt (o.next ++ [rowAt o.next 0]) s = _
  rw [rowAt_append, if_pos hs]
theorem more_next' : rowAt (more o r).next o.next.length = rowAt o.next 0 := by
  show rowAt (o.next ++ [rowAt o.next 0]) _ = _
  rw [rowAt_append, if_neg (by omega), Nat.sub_self]; rfl
include g
theorem more_ins : ins (more o r) = ins o := by unfold ins; rw [more_out g.pos]
include hr h6
theorem more_good : Good (more o r) := by
  have e := more_ins (r := r) g
  have l : (more o r).out.length = o.out.length + 1 := by simp [more]
  have l2 : (more o r).next.length = o.next.length + 1 := by simp [more]
  have gn := g.next
  have rowO : ∀ s, s < o.out.length + 1 → (rowAt (more o r).out s).length = ins o := fun s hs => by
    by_cases h : s < o.out.length
    · rw [more_out h]; exact g.rowO s h
    · obtain rfl : s = o.out.length := by omega
      rw [more_out', hr]; rfl
  have rowN : ∀ s, s < o.out.length + 1 → ∃ t, t < o.out.length ∧ rowAt (more o r).next s = rowAt o.next t := fun s hs => by
    by_cases h : s < o.out.length
    · exact ⟨s, h, more_next (by omega)⟩
    · obtain rfl : s = o.next.length := by omega
      exact ⟨0, g.pos, more_next'⟩
  refine ⟨by rw [l]; omega, by rw [l]; omega, by rw [l, l2, gn], by rw [e]; exact g.ins1, by rw [e]; exact g.ins3, fun s hs => by rw [e]; exact rowO s (by omega), fun s hs => ?_, fun s hs x hx => ?_⟩
  · obtain ⟨t, ht, e2⟩ := rowN s (by omega)
    rw [e2, e]; exact g.rowN t ht
  · obtain ⟨t, ht, e2⟩ := rowN s (by omega)
    rw [e2, l]
    have := g.goes t ht x (by rw [← e]; exact hx)
    omega
omit hr h6
theorem more_tells : ∀ (w : List Int) (s : Nat), s < o.out.length → word o w → tells (more o r) s w = tells o s w
  | [], _, _, _ => rfl
  | x :: w, s, hs, hw => by
    have hx := hw x (by simp)
    have gn := g.next
    have e1 : outAt (more o r) s x = outAt o s x := by unfold outAt; rw [more_out hs]
    have e2 : nextAt (more o r) s x = nextAt o s x := by unfold nextAt; rw [more_next (by omega)]
    simp only [tells, e1, e2]
    rw [more_tells w _ (nextAt_lt g hs hx) fun y hy => hw y (by simp [hy])]
theorem more_xeqv : XEqv (more o r) 0 o 0 := by
  intro w hw
  exact more_tells g w 0 g.pos fun x hx => by have := hw x hx; unfold letter at this; rw [more_ins g] at this; exact this
end
end Go.Proofs.YtkcggmhllijgcaaDoor
