/- Expressions that lie in memory and read as plain trees: three cells each, the parts behind a slice. No conditions. -/
import Derived.Test.YtanpmmpdolaiiaaDoorExm
import Derived.Test.YtanpmmpdolaiiaaDoorApp
namespace Go.Proofs.YtanpmmpdolaiiaaDoor
open Go.RowKit Go.ChangeShapes
mutual
def ExIn (F : Nat → Prop) (w : World) : Ex → Value → Value → Value → Prop
  | .mk k n s, a, b, c => a = .int .i64 k ∧ b = .int .i64 n ∧ (Lit.int .i64 k).wf = true ∧ (Lit.int .i64 n).wf = true ∧ ∃ A cp, c = .slice A s.length cp ∧ (s.length ≤ cp ∧ cp ≤ maxLen) ∧
      (0 < s.length → ∃ bl off, A = some ⟨bl, off, none⟩ ∧ F bl ∧ ExsIn F w s bl off)
def ExsIn (F : Nat → Prop) (w : World) : List Ex → Nat → Nat → Prop
  | [], _, _ => True
  | x :: r, bl, o => (∃ a b c, w.cell? ⟨bl, o, none⟩ = some a ∧ w.cell? ⟨bl, o + 1, none⟩ = some b ∧ w.cell? ⟨bl, o + 2, none⟩ = some c ∧ ExIn F w x a b c) ∧ ExsIn F w r bl (o + 3)
end
section
variable {F F' : Nat → Prop} {w w' : World}
mutual
theorem ExIn.keep (hs : Same F w w') : ∀ (x : Ex) {a b c : Value}, ExIn F w x a b c → ExIn F w' x a b c
  | .mk k n s, a, b, c, h => by
    rw [ExIn] at h ⊢
    obtain ⟨h1, h2, h3, h4, A, cp, h5, h6, h7⟩ := h
    refine ⟨h1, h2, h3, h4, A, cp, h5, h6, fun hn => ?_⟩
    obtain ⟨bl, off, e, hF, hx⟩ := h7 hn
    exact ⟨bl, off, e, hF, ExsIn.keep hs s hF hx⟩
theorem ExsIn.keep (hs : Same F w w') : ∀ (s : List Ex) {bl o : Nat}, F bl → ExsIn F w s bl o → ExsIn F w' s bl o
  | [], _, _, _, _ => by rw [ExsIn]; trivial
  | x :: r, bl, o, hF, h => by
    rw [ExsIn] at h ⊢
    obtain ⟨⟨a, b, c, h1, h2, h3, h4⟩, h5⟩ := h
    exact ⟨⟨a, b, c, (hs.cell (p := ⟨bl, o, none⟩) hF).trans h1, (hs.cell (p := ⟨bl, o + 1, none⟩) hF).trans h2, (hs.cell (p := ⟨bl, o + 2, none⟩) hF).trans h3, ExIn.keep hs x h4⟩, ExsIn.keep hs r hF h5⟩
end
mutual
theorem ExIn.more (hF : ∀ b, F b → F' b) : ∀ (x : Ex) {a b c : Value}, ExIn F w x a b c → ExIn F' w x a b c
  | .mk k n s, a, b, c, h => by
    rw [ExIn] at h ⊢
    obtain ⟨h1, h2, h3, h4, A, cp, h5, h6, h7⟩ := h
    refine ⟨h1, h2, h3, h4, A, cp, h5, h6, fun hn => ?_⟩
    obtain ⟨bl, off, e, hFb, hx⟩ := h7 hn
    exact ⟨bl, off, e, hF _ hFb, ExsIn.more hF s hx⟩
theorem ExsIn.more (hF : ∀ b, F b → F' b) : ∀ (s : List Ex) {bl o : Nat}, ExsIn F w s bl o → ExsIn F' w s bl o
  | [], _, _, _ => by rw [ExsIn]; trivial
  | x :: r, bl, o, h => by
    rw [ExsIn] at h ⊢
    obtain ⟨⟨a, b, c, h1, h2, h3, h4⟩, h5⟩ := h
    exact ⟨⟨a, b, c, h1, h2, h3, ExIn.more hF x h4⟩, ExsIn.more hF r h5⟩
end
theorem ExsIn.at_ : ∀ {s : List Ex} {bl o i : Nat}, ExsIn F w s bl o → (h : i < s.length) → ∃ a b c, w.cell? ⟨bl, o + i * 3, none⟩ = some a ∧ w.cell? ⟨bl, o + i * 3 + 1, none⟩ = some b ∧ w.cell? ⟨bl, o + i * 3 + 2, none⟩ = some c ∧ ExIn F w s[i] a b c
  | [], _, _, _, _, h => by simp at h
  | x :: r, bl, o, 0, hx, _ => by rw [ExsIn] at hx; simpa using hx.1
  | x :: r, bl, o, i + 1, hx, h => by
    rw [ExsIn] at hx
    have := ExsIn.at_ (i := i) hx.2 (by simpa using h)
    simpa [Nat.add_mul, Nat.add_assoc, Nat.add_comm, Nat.add_left_comm] using this
theorem ExsIn.mk_ : ∀ {s : List Ex} {bl o : Nat}, (∀ i, (h : i < s.length) → ∃ a b c, w.cell? ⟨bl, o + i * 3, none⟩ = some a ∧ w.cell? ⟨bl, o + i * 3 + 1, none⟩ = some b ∧ w.cell? ⟨bl, o + i * 3 + 2, none⟩ = some c ∧ ExIn F w s[i] a b c) → ExsIn F w s bl o
  | [], _, _, _ => by rw [ExsIn]; trivial
  | x :: r, bl, o, h => by
    rw [ExsIn]
    refine ⟨by obtain ⟨a, b, c, h1, h2, h3, h4⟩ := h 0 (by simp); exact ⟨a, b, c, by simpa using h1, by simpa using h2, by simpa using h3, h4⟩, ExsIn.mk_ fun i hi => ?_⟩
    have := h (i + 1) (by simpa using hi)
    simpa [Nat.add_mul, Nat.add_assoc, Nat.add_comm, Nat.add_left_comm] using this
/-- a list's cells, three each -/
def ExCells (F : Nat → Prop) (w : World) (cs : List Value) (l : List Ex) : Prop :=
  cs.length = l.length * 3 ∧ ∀ i, (h : i < l.length) → ∃ a b c, cs[i * 3]? = some a ∧ cs[i * 3 + 1]? = some b ∧ cs[i * 3 + 2]? = some c ∧ ExIn F w l[i] a b c
theorem ExCells.nil_ : ExCells F w [] [] := ⟨rfl, fun i h => by simp at h⟩
theorem ExCells.keep {cs : List Value} {l : List Ex} (h : ExCells F w cs l) (hs : Same F w w') : ExCells F w' cs l :=
  ⟨h.1, fun i hi => by obtain ⟨a, b, c, h1, h2, h3, h4⟩ := h.2 i hi; exact ⟨a, b, c, h1, h2, h3, ExIn.keep hs _ h4⟩⟩
theorem ExCells.more {cs : List Value} {l : List Ex} (h : ExCells F w cs l) (hF : ∀ b, F b → F' b) : ExCells F' w cs l :=
  ⟨h.1, fun i hi => by obtain ⟨a, b, c, h1, h2, h3, h4⟩ := h.2 i hi; exact ⟨a, b, c, h1, h2, h3, ExIn.more hF _ h4⟩⟩
theorem ExCells.snoc {cs : List Value} {l : List Ex} {x : Ex} {a b c : Value} (h : ExCells F w cs l) (hx : ExIn F w x a b c) : ExCells F w (cs ++ [a, b, c]) (l ++ [x]) := by
  refine ⟨by simp [h.1, Nat.add_mul], fun i hi => ?_⟩
  by_cases hl : i < l.length
  · obtain ⟨a', b', c', h1, h2, h3, h4⟩ := h.2 i hl
    have l1 := h.1
    refine ⟨a', b', c', ?_, ?_, ?_, by rw [List.getElem_append_left hl]; exact h4⟩
    · rw [List.getElem?_append_left (by omega)]; exact h1
    · rw [List.getElem?_append_left (by omega)]; exact h2
    · rw [List.getElem?_append_left (by omega)]; exact h3
  · simp at hi
    obtain rfl : i = l.length := by omega
    have l1 := h.1
    refine ⟨a, b, c, ?_, ?_, ?_, by simpa using hx⟩
    · rw [List.getElem?_append_right (by omega), show l.length * 3 - cs.length = 0 by omega]; rfl
    · rw [List.getElem?_append_right (by omega), show l.length * 3 + 1 - cs.length = 1 by omega]; rfl
    · rw [List.getElem?_append_right (by omega), show l.length * 3 + 2 - cs.length = 2 by omega]; rfl
theorem ExCells.exs {base g cap : Nat} {e : TypeId} {cs : List Value} {l : List Ex} (h : ExCells F w cs l) (ho : w.ownsRow base e 3 (.slice (some ⟨g, 0, none⟩) l.length cap) l.length cs) : ExsIn F w l g 0 := by
  refine ExsIn.mk_ fun i hi => ?_
  obtain ⟨a, b, c, h1, h2, h3, h4⟩ := h.2 i hi
  have l1 := h.1
  have key : ∀ j, j < l.length * 3 → w.cell? ⟨g, 0 + j, none⟩ = cs[j]? := fun j hj => by rw [Nat.zero_add]; exact ho.cellAt j hj
  refine ⟨a, b, c, (key _ (by omega)).trans h1, ?_, ?_, h4⟩
  · rw [Nat.add_assoc]; exact (key _ (by omega)).trans h2
  · rw [Nat.add_assoc]; exact (key _ (by omega)).trans h3
end
end Go.Proofs.YtanpmmpdolaiiaaDoor
