/- Expressions as plain trees: what is otherwise in one part is right, another one, and there is a way back, but for what lost a Not. No program in sight. No conditions. -/
import Derived.Test.YtanpmmpdolaiiaaDoorExm
namespace Go.Proofs.YtanpmmpdolaiiaaDoor
open Go.RowKit
mutual
def Ex.eqB : Ex → Ex → Bool
  | .mk k n s, .mk k' n' s' => decide (k = k') && decide (n = n') && Exs.eqB s s'
def Exs.eqB : List Ex → List Ex → Bool
  | [], [] => true
  | x :: r, y :: r' => x.eqB y && Exs.eqB r r'
  | [], _ :: _ => false
  | _ :: _, [] => false
end
mutual
theorem Ex.eqB_iff : ∀ x y : Ex, x.eqB y = true ↔ x = y
  | .mk k n s, .mk k' n' s' => by
    rw [Ex.eqB, Bool.and_eq_true, Bool.and_eq_true, decide_eq_true_eq, decide_eq_true_eq, Exs.eqB_iff s s']
    constructor
    · rintro ⟨⟨rfl, rfl⟩, rfl⟩; rfl
    · intro h; injection h with h1 h2 h3; exact ⟨⟨h1, h2⟩, h3⟩
theorem Exs.eqB_iff : ∀ x y : List Ex, Exs.eqB x y = true ↔ x = y
  | [], [] => by simp [Exs.eqB]
  | x :: r, y :: r' => by rw [Exs.eqB, Bool.and_eq_true, Ex.eqB_iff x y, Exs.eqB_iff r r']; simp
  | [], _ :: _ => by simp [Exs.eqB]
  | _ :: _, [] => by simp [Exs.eqB]
end
theorem Exs.eqB_at : ∀ {x y : List Ex}, x.length = y.length → (Exs.eqB x y = true ↔ ∀ i, (h : i < x.length) → (h' : i < y.length) → (x[i]).eqB y[i] = true) := by
  intro x y hl
  rw [Exs.eqB_iff]
  constructor
  · rintro rfl i h h'; exact (Ex.eqB_iff _ _).2 rfl
  · intro h
    exact List.ext_getElem hl fun i h1 h2 => (Ex.eqB_iff _ _).1 (h i h1 h2)
mutual
/-- nowhere deeper than may be -/
def Ex.fits : Ex → Nat → Prop
  | .mk _ _ s, d => d < 6 ∧ Exs.fits s (d + 1)
def Exs.fits : List Ex → Nat → Prop
  | [], _ => True
  | y :: r, d => y.fits d ∧ Exs.fits r d
end
theorem Exs.fits_iff : ∀ {s : List Ex} {d : Nat}, Exs.fits s d ↔ ∀ y ∈ s, y.fits d
  | [], d => by simp [Exs.fits]
  | y :: r, d => by rw [Exs.fits, Exs.fits_iff (s := r)]; simp
theorem Ex.fits_less : ∀ (x : Ex) (d : Nat), x.fits (d + 1) → x.fits d := by
  refine Ex.ind fun k n s ih d h => ?_
  rw [Ex.fits] at h ⊢
  exact ⟨by omega, Exs.fits_iff.2 fun y hy => ih y hy (d + 1) (Exs.fits_iff.1 h.2 y hy)⟩
theorem Exs.parts_sum {d : Nat} : ∀ (s : List Ex) (n : Int), (∀ y ∈ s, y.parts (d + 1) = y.size) → n + Exs.size s ≤ 30 → Exs.parts s d n = n + Exs.size s
  | [], n, _, _ => by simp [Exs.parts, Exs.size]
  | y :: r, n, h, hl => by
    have hy := h y (by simp)
    rw [Exs.size] at hl ⊢
    rw [Exs.parts, hy, if_neg (by omega), Exs.parts_sum r (n + y.size) (fun z hz => h z (by simp [hz])) (by omega)]
    omega
theorem Ex.parts_fits : ∀ (x : Ex) (d : Nat), d ≤ 6 → (x.parts d ≤ 30 ↔ x.fits d ∧ x.size ≤ 30) := by
  refine Ex.ind fun k n s ih d hd => ?_
  constructor
  · intro h
    have e := Ex.parts_eq _ d hd h
    refine ⟨?_, by omega⟩
    rw [Ex.parts] at h
    by_cases hc : 6 ≤ d
    · rw [if_pos hc] at h; omega
    · rw [if_neg hc] at h
      rw [Ex.fits]
      refine ⟨by omega, Exs.fits_iff.2 fun y hy => ?_⟩
      have := (Exs.parts_eq s 1 h (fun y hy => Ex.parts_eq y (d + 1) (by omega)) (fun y hy => (Ex.parts_le y (d + 1) (by omega)).1) (by omega)).2 y hy
      exact ((ih y hy (d + 1) (by omega)).1 this).1
  · rintro ⟨h1, h2⟩
    rw [Ex.fits] at h1
    have h3 : ∀ y ∈ s, y.parts (d + 1) = y.size := fun y hy => by
      have hs := Exs.size_mem hy
      rw [Ex.size] at h2
      exact Ex.parts_eq y (d + 1) (by omega) ((ih y hy (d + 1) (by omega)).2 ⟨Exs.fits_iff.1 h1.2 y hy, by omega⟩)
    rw [Ex.parts, if_neg (by omega)]
    rw [Ex.size] at h2
    rw [Exs.parts_sum s 1 h3 (by omega)]
    omega
mutual
/-- all numbers are of the range -/
def Ex.wf : Ex → Prop
  | .mk _ n s => (Lit.int .i64 n).wf = true ∧ Exs.wf s
def Exs.wf : List Ex → Prop
  | [] => True
  | y :: r => y.wf ∧ Exs.wf r
end
theorem Exs.wf_iff : ∀ {s : List Ex}, Exs.wf s ↔ ∀ y ∈ s, y.wf
  | [] => by simp [Exs.wf]
  | y :: r => by rw [Exs.wf, Exs.wf_iff (s := r)]; simp
theorem Exs.size_set : ∀ {s : List Ex} {i : Nat} {t : Ex} (h : i < s.length), Exs.size (s.set i t) + (s[i]).size = Exs.size s + t.size
  | y :: r, 0, t, _ => by simp [Exs.size]; omega
  | y :: r, i + 1, t, h => by
    have := Exs.size_set (s := r) (i := i) (t := t) (by simpa using h)
    simp [Exs.size]; omega
/-- what t, that is x otherwise in one part, is -/
structure OneOf (x t : Ex) : Prop where
  ne : t ≠ x
  err : t.err = 0
  fits : ∀ d, x.fits d → t.fits d
  size : t.size ≤ x.size
  back : x ∈ t.muts ∨ t.size < x.size
theorem mem_muts {k n : Int} {s : List Ex} {t : Ex} : t ∈ (Ex.mk k n s).muts ↔ t ∈ chg (.mk k n s) ∨ ∃ i, ∃ h : i < s.length, ∃ u ∈ (s[i]).muts, t = .mk k n (s.set i u) := by
  rw [Ex.muts, List.mem_append, List.mem_flatMap]
  constructor
  · rintro (h | ⟨i, hi, h⟩)
    · exact .inl h
    · have hi' : i < s.length := by simpa using hi
      rw [muts_getD hi', List.mem_map] at h
      obtain ⟨u, hu, rfl⟩ := h
      exact .inr ⟨i, hi', u, hu, rfl⟩
  · rintro (h | ⟨i, hi, u, hu, rfl⟩)
    · exact .inl h
    · exact .inr ⟨i, by simpa using hi, by rw [muts_getD hi]; exact List.mem_map.2 ⟨u, hu, rfl⟩⟩
theorem kinds_same {k j : Int} (h : headBad k 0 = false ∨ headBad k 2 = false) (h1 : k ≠ 1) (hj : j ∈ kindsOf k) : k ∈ kindsOf j ∧ j ≠ 1 ∧ j ≠ 9 ∧ ∀ m, headBad k m = false → headBad j m = false := by
  have hk : k ∈ asksL ∨ k ∈ opsL := by
    have : 1 ≤ k ∧ k ≤ 11 := by rcases h with h | h <;> (unfold headBad at h; simp at h; omega)
    obtain ⟨a, b⟩ := this
    have hc : k = 2 ∨ k = 3 ∨ k = 4 ∨ k = 5 ∨ k = 6 ∨ k = 7 ∨ k = 8 ∨ k = 9 ∨ k = 10 ∨ k = 11 := by omega
    rcases hc with rfl | rfl | rfl | rfl | rfl | rfl | rfl | rfl | rfl | rfl <;> first | (simp [asksL, opsL]; done) | (rcases h with h | h <;> exact absurd h (by decide))
  rcases hk with hk | hk
  · simp only [asksL, List.mem_cons, List.not_mem_nil, or_false] at hk
    have e : kindsOf k = asksL := by unfold kindsOf; rw [if_pos (by simpa [asksL] using hk)]
    rw [e] at hj
    simp only [asksL, List.mem_cons, List.not_mem_nil, or_false] at hj
    rcases hk with rfl | rfl | rfl <;> rcases hj with rfl | rfl | rfl <;> exact ⟨by decide, by decide, by decide, fun m hm => hm⟩
  · simp only [opsL, List.mem_cons, List.not_mem_nil, or_false] at hk
    have e : kindsOf k = opsL := by unfold kindsOf; rw [if_neg (by simp [asksL]; omega)]
    rw [e] at hj
    simp only [opsL, List.mem_cons, List.not_mem_nil, or_false] at hj
    rcases hk with rfl | rfl | rfl | rfl | rfl | rfl <;> rcases hj with rfl | rfl | rfl | rfl | rfl | rfl <;> exact ⟨by decide, by decide, by decide, fun m hm => hm⟩
theorem err_mk {k n : Int} {s : List Ex} (h : headBad k s.length = false) (hs : ∀ y ∈ s, y.err = 0) : (Ex.mk k n s).err = 0 := by
  rw [Ex.err, if_neg (by simp [h])]
  have : ∀ l : List Ex, (∀ y ∈ l, y.err = 0) → Exs.err l = 0 := fun l => by
    induction l with
    | nil => intro _; rw [Exs.err]
    | cons y r ih => intro hl; rw [Exs.err, if_neg (by simp [hl y (by simp)]), ih fun z hz => hl z (by simp [hz])]
  exact this s hs
theorem wrap_ne {n : Int} (h : (Lit.int .i64 n).wf = true) : wrap64 (n + 1) ≠ n ∧ wrap64 (n - 1) ≠ n ∧ wrap64 (wrap64 (n + 1) - 1) = n ∧ wrap64 (wrap64 (n - 1) + 1) = n := by
  have h2 : -9223372036854775808 ≤ n ∧ n ≤ 9223372036854775807 := by
    simp [Lit.wf, IntKind.min, IntKind.max, IntKind.signed, IntKind.bits] at h
    omega
  unfold wrap64
  omega
theorem chg_one {k n : Int} {s : List Ex} (he : (Ex.mk k n s).err = 0) (hw : (Ex.mk k n s).wf) {t : Ex} (ht : t ∈ chg (.mk k n s)) : OneOf (.mk k n s) t := by
  obtain ⟨hb, hs⟩ := Ex.err_parts he
  rw [Ex.wf] at hw
  by_cases h1 : k = 1
  · subst h1
    have hl : s.length = 0 := by unfold headBad takesL at hb; simp at hb; omega
    obtain rfl : s = [] := List.eq_nil_of_length_eq_zero hl
    obtain ⟨w1, w2, w3, w4⟩ := wrap_ne hw.1
    simp [chg] at ht
    rcases ht with rfl | rfl
    · refine ⟨fun e => w1 (by injection e), err_mk (by decide) (by simp), fun d h => h, by simp [Ex.size], .inl (mem_muts.2 (.inl ?_))⟩
      simp [chg, w3]
    · refine ⟨fun e => w2 (by injection e), err_mk (by decide) (by simp), fun d h => h, by simp [Ex.size], .inl (mem_muts.2 (.inl ?_))⟩
      simp [chg, w4]
  · by_cases h9 : k = 9
    · subst h9
      have hl : s.length = 1 := by unfold headBad takesL at hb; simp at hb; omega
      match s, hl with
      | [y], _ =>
        simp [chg] at ht
        subst ht
        have sz : t.size < (Ex.mk 9 n [t]).size := by simp [Ex.size, Exs.size]
        refine ⟨fun e => ?_, hs t (by simp), fun d h => ?_, by omega, .inr sz⟩
        · have := congrArg Ex.size e; omega
        · rw [Ex.fits, Exs.fits] at h
          exact Ex.fits_less t d h.2.1
    · simp only [chg, h1, h9, if_false, List.mem_map, List.mem_filter, decide_eq_true_eq] at ht
      obtain ⟨j, ⟨hj, hjk⟩, rfl⟩ := ht
      have hor : headBad k 0 = false ∨ headBad k 2 = false := by
        have : 1 ≤ k ∧ k ≤ 11 := by unfold headBad at hb; simp at hb; omega
        have hc : k = 2 ∨ k = 3 ∨ k = 4 ∨ k = 5 ∨ k = 6 ∨ k = 7 ∨ k = 8 ∨ k = 10 ∨ k = 11 := by omega
        rcases hc with rfl | rfl | rfl | rfl | rfl | rfl | rfl | rfl | rfl <;> decide
      obtain ⟨a1, a2, a3, a4⟩ := kinds_same hor h1 hj
      refine ⟨fun e => hjk (by injection e), err_mk (a4 _ hb) hs, fun d h => by rw [Ex.fits] at h ⊢; exact h, by simp [Ex.size], .inl (mem_muts.2 (.inl ?_))⟩
      simp only [chg, a2, a3, if_false, List.mem_map, List.mem_filter, decide_eq_true_eq]
      exact ⟨k, ⟨a1, fun e => hjk e.symm⟩, rfl⟩
theorem muts_one : ∀ x : Ex, x.err = 0 → x.wf → ∀ t ∈ x.muts, OneOf x t := by
  refine Ex.ind fun k n s ih he hw t ht => ?_
  rcases mem_muts.1 ht with h | ⟨i, hi, u, hu, rfl⟩
  · exact chg_one he hw h
  · obtain ⟨hb, hs⟩ := Ex.err_parts he
    have hw' := hw
    rw [Ex.wf] at hw'
    have hm : s[i] ∈ s := List.getElem_mem hi
    have O := ih s[i] hm (hs _ hm) (Exs.wf_iff.1 hw'.2 _ hm) u hu
    have hz := Exs.size_set (t := u) hi
    refine ⟨fun e => ?_, err_mk (by rw [List.length_set]; exact hb) fun y hy => ?_, fun d h => ?_, ?_, ?_⟩
    · injection e with _ _ e
      have := congrArg (·[i]?) e
      simp [hi] at this
      exact O.ne this
    · rcases List.mem_or_eq_of_mem_set hy with h | rfl
      · exact hs y h
      · exact O.err
    · rw [Ex.fits] at h ⊢
      refine ⟨h.1, Exs.fits_iff.2 fun y hy => ?_⟩
      rcases List.mem_or_eq_of_mem_set hy with h' | rfl
      · exact Exs.fits_iff.1 h.2 y h'
      · exact O.fits _ (Exs.fits_iff.1 h.2 _ hm)
    · rw [Ex.size, Ex.size]; have := O.size; omega
    · rcases O.back with h | h
      · refine .inl (mem_muts.2 (.inr ⟨i, by rw [List.length_set]; exact hi, s[i], by simpa using h, ?_⟩))
        rw [List.set_set, List.set_getElem_self]
      · refine .inr ?_
        rw [Ex.size, Ex.size]; omega
theorem chk_iff (x : Ex) : chkE x = 0 ↔ (x.fits 0 ∧ x.size ≤ 30) ∧ x.err = 0 := by
  rw [← Ex.parts_fits x 0 (by omega)]
  unfold chkE
  by_cases h : 30 < x.parts 0
  · rw [if_pos h]; constructor
    · intro h'; cases h'
    · intro h'; omega
  · rw [if_neg h]; constructor
    · intro h'; exact ⟨by omega, h'⟩
    · exact fun h' => h'.2
theorem chk_muts {x t : Ex} (h : chkE x = 0) (hw : x.wf) (ht : t ∈ x.muts) : chkE t = 0 ∧ OneOf x t := by
  have h' := (chk_iff x).1 h
  have O := muts_one x h'.2 hw t ht
  exact ⟨(chk_iff t).2 ⟨⟨O.fits 0 h'.1.1, by have := O.size; omega⟩, O.err⟩, O⟩
end Go.Proofs.YtanpmmpdolaiiaaDoor
