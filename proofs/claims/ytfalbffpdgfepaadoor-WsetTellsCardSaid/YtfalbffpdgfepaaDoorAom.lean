/- How the reference's ApartOf finds the first word: letter by letter. Plain mathematics. No conditions. -/
import Derived.Test.YtfalbffpdgfepaaDoorDfm
import Derived.Test.YtfalbffpdgfepaaDoorMex
namespace Go.Proofs.YtfalbffpdgfepaaDoor
theorem df_mono {a b : MachD} {n n' i k : Nat} (h : n ≤ n') (hd : df a b n i k = true) : df a b n' i k = true := by
  obtain ⟨w, h1, h2, h3⟩ := (df_iff _ _ _).1 hd
  exact (df_iff _ _ _).2 ⟨w, h1, by omega, h3⟩
/-- none of at most 40 letters: none -/
theorem df_none {a b : MachD} {i k : Nat} (ga : Good a) (gb : Good b) (hab : ins a = ins b) (hi : i < a.out.length) (hk : k < b.out.length) (h : df a b 40 i k = false) : XEqv a i b k := by
  rcases first_or a b i k with ⟨f, hf⟩ | hx
  · have l := first_len ga gb hab hi hk hf
    have la := ga.le
    have lb := gb.le
    have : df a b 40 i k = true := (df_iff _ _ _).2 ⟨f, hf.1, by omega, hf.2.1⟩
    rw [h] at this; cases this
  · exact hx
/-- the first number of letters gives the first word's length -/
theorem df_first {a b : MachD} {n i k : Nat} (h : df a b n i k = true) (hold : ∀ t, t < n → df a b t i k = false) : ∃ f, First a b i k f ∧ f.length = n := by
  obtain ⟨w, h1, h2, h3⟩ := (df_iff _ _ _).1 h
  rcases first_or a b i k with ⟨f, hf⟩ | hx
  · refine ⟨f, hf, ?_⟩
    have l := sle_len (hf.2.2 w h1 h3)
    by_cases hl : f.length = n
    · exact hl
    · have := (df_iff f.length i k).2 ⟨f, hf.1, Nat.le_refl _, hf.2.1⟩
      rw [hold f.length (by omega)] at this; cases this
  · exact absurd (hx w h1) h3
theorem sle_cons {x y : Int} {u v : List Int} (h : sle (x :: u) (y :: v)) (hl : u.length = v.length) : x ≤ y := by
  rcases h with h | h | ⟨_, h⟩
  · injection h with h _; omega
  · simp at h; omega
  · rcases h with h | ⟨h, _⟩ <;> omega
theorem first_step {a b : MachD} {i k n : Nat} {g : List Int} (h : First a b i k g) (hl : g.length = n + 1) : ∃ (x : Nat) (r : List Int), x < ins a ∧ g = (x : Int) :: r ∧
    (∀ y, y < x → outAt a i y = outAt b k y ∧ df a b n (nextAt a i y) (nextAt b k y) = false) ∧
    ((outAt a i x ≠ outAt b k x ∧ r = []) ∨ (outAt a i x = outAt b k x ∧ First a b (nextAt a i x) (nextAt b k x) r ∧ r.length = n ∧ df a b n (nextAt a i x) (nextAt b k x) = true)) := by
  match g, hl with
  | z :: r, hl =>
    have hz := h.1 z (by simp)
    obtain ⟨x, rfl⟩ : ∃ x : Nat, z = (x : Int) := ⟨z.toNat, by have := hz.1; omega⟩
    have hr : r.length = n := by simpa using hl
    have wr : word a r := fun y hy => h.1 y (by simp [hy])
    refine ⟨x, r, by have := hz.2; omega, rfl, fun y hy => ?_, ?_⟩
    · have ly : letter a (y : Int) := ⟨by omega, by have := hz.2; omega⟩
      by_cases ho : outAt a i y = outAt b k y
      · refine ⟨ho, ?_⟩
        cases hd : df a b n (nextAt a i y) (nextAt b k y) with
        | false => rfl
        | true =>
          exfalso
          obtain ⟨w, h1, h2, h3⟩ := (df_iff _ _ _).1 hd
          have wy : word a ((y : Int) :: w) := fun z hz => by
            rcases List.mem_cons.1 hz with rfl | hz
            · exact ly
            · exact h1 z hz
          have t : Tears a b i k ((y : Int) :: w) := fun e => h3 (by simp only [tells] at e; injection e)
          have s := h.2.2 _ wy t
          have sl := sle_len s
          simp at sl
          have := sle_cons s (by omega)
          omega
      · exfalso
        have wy : word a [(y : Int)] := fun z hz => by simp at hz; subst hz; exact ly
        have s := h.2.2 _ wy fun e => ho (by simpa [tells] using e)
        have sl := sle_len s
        simp at sl
        have := sle_cons s (by simp; omega)
        omega
    · by_cases ho : outAt a i x = outAt b k x
      · have t : Tears a b (nextAt a i x) (nextAt b k x) r := fun e => h.2.1 (by simp only [tells]; rw [ho, e])
        refine .inr ⟨ho, ⟨wr, t, fun v hv hv2 => ?_⟩, hr, (df_iff _ _ _).2 ⟨r, wr, by omega, t⟩⟩
        have wv : word a ((x : Int) :: v) := fun z hz' => by
          rcases List.mem_cons.1 hz' with rfl | hz'
          · exact hz
          · exact hv z hz'
        have s := h.2.2 _ wv fun e => hv2 (by simp only [tells] at e; injection e)
        rcases s with s | s | ⟨s1, s2⟩
        · injection s with _ s; exact .inl s
        · exact .inr (.inl (by simpa using s))
        · rcases s2 with s2 | ⟨_, s2⟩
          · omega
          · exact .inr (.inr ⟨by simpa using s1, s2⟩)
      · refine .inl ⟨ho, ?_⟩
        have wy : word a [(x : Int)] := fun z hz' => by simp at hz'; subst hz'; exact hz
        have s := sle_len (h.2.2 _ wy fun e => ho (by simpa [tells] using e))
        simp at s
        exact s
end Go.Proofs.YtfalbffpdgfepaaDoor
