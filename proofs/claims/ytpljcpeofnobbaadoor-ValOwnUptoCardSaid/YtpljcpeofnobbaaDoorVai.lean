/- Values that lie in memory and read as plain trees: three cells each, the parts behind a slice. No conditions. -/
import Derived.Test.YtpljcpeofnobbaaDoorVam
import Derived.Test.YtpljcpeofnobbaaDoorApp
namespace Go.Proofs.YtpljcpeofnobbaaDoor
open Go.RowKit Go.ChangeShapes
mutual
def VaIn (F : Nat → Prop) (w : World) : Va → Value → Value → Value → Prop
  | .mk k n s, a, b, c => a = .bool k ∧ b = .int .i64 n ∧ (Lit.int .i64 n).wf = true ∧ ∃ A cp, c = .slice A s.length cp ∧ (s.length ≤ cp ∧ cp ≤ maxLen) ∧
      (0 < s.length → ∃ bl off, A = some ⟨bl, off, none⟩ ∧ F bl ∧ VasIn F w s bl off)
def VasIn (F : Nat → Prop) (w : World) : List Va → Nat → Nat → Prop
  | [], _, _ => True
  | x :: r, bl, o => (∃ a b c, w.cell? ⟨bl, o, none⟩ = some a ∧ w.cell? ⟨bl, o + 1, none⟩ = some b ∧ w.cell? ⟨bl, o + 2, none⟩ = some c ∧ VaIn F w x a b c) ∧ VasIn F w r bl (o + 3)
end
section
variable {F F' : Nat → Prop} {w w' : World}
mutual
theorem VaIn.keep (hs : Same F w w') : ∀ (x : Va) {a b c : Value}, VaIn F w x a b c → VaIn F w' x a b c
  | .mk k n s, a, b, c, h => by
    rw [VaIn] at h ⊢
    obtain ⟨h1, h2, h3, A, cp, h5, h6, h7⟩ := h
    refine ⟨h1, h2, h3, A, cp, h5, h6, fun hn => ?_⟩
    obtain ⟨bl, off, e, hF, hx⟩ := h7 hn
    exact ⟨bl, off, e, hF, VasIn.keep hs s hF hx⟩
theorem VasIn.keep (hs : Same F w w') : ∀ (s : List Va) {bl o : Nat}, F bl → VasIn F w s bl o → VasIn F w' s bl o
  | [], _, _, _, _ => by rw [VasIn]; trivial
  | x :: r, bl, o, hF, h => by
    rw [VasIn] at h ⊢
    obtain ⟨⟨a, b, c, h1, h2, h3, h4⟩, h5⟩ := h
    exact ⟨⟨a, b, c, (hs.cell (p := ⟨bl, o, none⟩) hF).trans h1, (hs.cell (p := ⟨bl, o + 1, none⟩) hF).trans h2, (hs.cell (p := ⟨bl, o + 2, none⟩) hF).trans h3, VaIn.keep hs x h4⟩, VasIn.keep hs r hF h5⟩
end
mutual
theorem VaIn.more (hF : ∀ b, F b → F' b) : ∀ (x : Va) {a b c : Value}, VaIn F w x a b c → VaIn F' w x a b c
  | .mk k n s, a, b, c, h => by
    rw [VaIn] at h ⊢
    obtain ⟨h1, h2, h3, A, cp, h5, h6, h7⟩ := h
    refine ⟨h1, h2, h3, A, cp, h5, h6, fun hn => ?_⟩
    obtain ⟨bl, off, e, hFb, hx⟩ := h7 hn
    exact ⟨bl, off, e, hF _ hFb, VasIn.more hF s hx⟩
theorem VasIn.more (hF : ∀ b, F b → F' b) : ∀ (s : List Va) {bl o : Nat}, VasIn F w s bl o → VasIn F' w s bl o
  | [], _, _, _ => by rw [VasIn]; trivial
  | x :: r, bl, o, h => by
    rw [VasIn] at h ⊢
    obtain ⟨⟨a, b, c, h1, h2, h3, h4⟩, h5⟩ := h
    exact ⟨⟨a, b, c, h1, h2, h3, VaIn.more hF x h4⟩, VasIn.more hF r h5⟩
end
theorem VasIn.at_ : ∀ {s : List Va} {bl o i : Nat}, VasIn F w s bl o → (h : i < s.length) → ∃ a b c, w.cell? ⟨bl, o + i * 3, none⟩ = some a ∧ w.cell? ⟨bl, o + i * 3 + 1, none⟩ = some b ∧ w.cell? ⟨bl, o + i * 3 + 2, none⟩ = some c ∧ VaIn F w s[i] a b c
  | [], _, _, _, _, h => by simp at h
  | x :: r, bl, o, 0, hx, _ => by rw [VasIn] at hx; simpa using hx.1
  | x :: r, bl, o, i + 1, hx, h => by
    rw [VasIn] at hx
    have := VasIn.at_ (i := i) hx.2 (by simpa using h)
    simpa [Nat.add_mul, Nat.add_assoc, Nat.add_comm, Nat.add_left_comm] using this
theorem VasIn.mk_ : ∀ {s : List Va} {bl o : Nat}, (∀ i, (h : i < s.length) → ∃ a b c, w.cell? ⟨bl, o + i * 3, none⟩ = some a ∧ w.cell? ⟨bl, o + i * 3 + 1, none⟩ = some b ∧ w.cell? ⟨bl, o + i * 3 + 2, none⟩ = some c ∧ VaIn F w s[i] a b c) → VasIn F w s bl o
  | [], _, _, _ => by rw [VasIn]; trivial
  | x :: r, bl, o, h => by
    rw [VasIn]
    refine ⟨by obtain ⟨a, b, c, h1, h2, h3, h4⟩ := h 0 (by simp); exact ⟨a, b, c, by simpa using h1, by simpa using h2, by simpa using h3, h4⟩, VasIn.mk_ fun i hi => ?_⟩
    have := h (i + 1) (by simpa using hi)
    simpa [Nat.add_mul, Nat.add_assoc, Nat.add_comm, Nat.add_left_comm] using this
/-- a list's cells, three each -/
def VaCells (F : Nat → Prop) (w : World) (cs : List Value) (l : List Va) : Prop :=
  cs.length = l.length * 3 ∧ ∀ i, (h : i < l.length) → ∃ a b c, cs[i * 3]? = some a ∧ cs[i * 3 + 1]? = some b ∧ cs[i * 3 + 2]? = some c ∧ VaIn F w l[i] a b c
theorem VaCells.nil_ : VaCells F w [] [] := ⟨rfl, fun i h => by simp at h⟩
theorem VaCells.keep {cs : List Value} {l : List Va} (h : VaCells F w cs l) (hs : Same F w w') : VaCells F w' cs l :=
  ⟨h.1, fun i hi => by obtain ⟨a, b, c, h1, h2, h3, h4⟩ := h.2 i hi; exact ⟨a, b, c, h1, h2, h3, VaIn.keep hs _ h4⟩⟩
theorem VaCells.more {cs : List Value} {l : List Va} (h : VaCells F w cs l) (hF : ∀ b, F b → F' b) : VaCells F' w cs l :=
  ⟨h.1, fun i hi => by obtain ⟨a, b, c, h1, h2, h3, h4⟩ := h.2 i hi; exact ⟨a, b, c, h1, h2, h3, VaIn.more hF _ h4⟩⟩
theorem VaCells.snoc {cs : List Value} {l : List Va} {x : Va} {a b c : Value} (h : VaCells F w cs l) (hx : VaIn F w x a b c) : VaCells F w (cs ++ [a, b, c]) (l ++ [x]) := by
  refine ⟨by simp [h.1, Nat.add_mul], fun i hi => ?_⟩
  by_cases hl : i < l.length
  · obtain ⟨a', b', c', h1, h2, h3, h4⟩ := h.2 i hl
    have l1 := h.1
    refine ⟨a', b', c', ?_, ?_, ?_, by rw [List.getElem_append_left hl]; exact h4⟩
    · rw [List.getElem?_append_left (by omega)]; exact h1
    · rw [List.getElem?_append_left (by omega)]; exact h2
    · rw [List.getElem?_append_left (by omega)]; exact h3
  · simp at hi
    obtain rfl : i = l.length := by omega
    have l1 := h.1
    refine ⟨a, b, c, ?_, ?_, ?_, by simpa using hx⟩
    · rw [List.getElem?_append_right (by omega), show l.length * 3 - cs.length = 0 by omega]; rfl
    · rw [List.getElem?_append_right (by omega), show l.length * 3 + 1 - cs.length = 1 by omega]; rfl
    · rw [List.getElem?_append_right (by omega), show l.length * 3 + 2 - cs.length = 2 by omega]; rfl
theorem VaCells.vas {base g cap : Nat} {e : TypeId} {cs : List Value} {l : List Va} (h : VaCells F w cs l) (ho : w.ownsRow base e 3 (.slice (some ⟨g, 0, none⟩) l.length cap) l.length cs) : VasIn F w l g 0 := by
  refine VasIn.mk_ fun i hi => ?_
  obtain ⟨a, b, c, h1, h2, h3, h4⟩ := h.2 i hi
  have l1 := h.1
  have key : ∀ j, j < l.length * 3 → w.cell? ⟨g, 0 + j, none⟩ = cs[j]? := fun j hj => by rw [Nat.zero_add]; exact ho.cellAt j hj
  refine ⟨a, b, c, (key _ (by omega)).trans h1, ?_, ?_, h4⟩
  · rw [Nat.add_assoc]; exact (key _ (by omega)).trans h2
  · rw [Nat.add_assoc]; exact (key _ (by omega)).trans h3
end
end Go.Proofs.YtpljcpeofnobbaaDoor
