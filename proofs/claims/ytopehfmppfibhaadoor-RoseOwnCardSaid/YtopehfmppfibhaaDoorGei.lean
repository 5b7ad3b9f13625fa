/- Generators that lie in memory and read as plain trees: four cells each, the parts behind a slice. No conditions. -/
import Derived.Test.YtopehfmppfibhaaDoorGem
import Derived.Test.YtopehfmppfibhaaDoorApp
namespace Go.Proofs.YtopehfmppfibhaaDoor
open Go.RowKit Go.ChangeShapes
mutual
def GeIn (F : Nat → Prop) (w : World) : Ge → Value → Value → Value → Value → Prop
  | .mk k a b s, u, v, x, c => u = .int .i64 k ∧ v = .int .i64 a ∧ x = .int .i64 b ∧ (Lit.int .i64 k).wf = true ∧ (Lit.int .i64 a).wf = true ∧ (Lit.int .i64 b).wf = true ∧ ∃ A cp, c = .slice A s.length cp ∧ (s.length ≤ cp ∧ cp ≤ maxLen) ∧
      (0 < s.length → ∃ bl off, A = some ⟨bl, off, none⟩ ∧ F bl ∧ GesIn F w s bl off)
def GesIn (F : Nat → Prop) (w : World) : List Ge → Nat → Nat → Prop
  | [], _, _ => True
  | g :: r, bl, o => (∃ u v x c, w.cell? ⟨bl, o, none⟩ = some u ∧ w.cell? ⟨bl, o + 1, none⟩ = some v ∧ w.cell? ⟨bl, o + 2, none⟩ = some x ∧ w.cell? ⟨bl, o + 3, none⟩ = some c ∧ GeIn F w g u v x c) ∧ GesIn F w r bl (o + 4)
end
section
variable {F F' : Nat → Prop} {w w' : World}
mutual
theorem GeIn.keep (hs : Same F w w') : ∀ (g : Ge) {u v x c : Value}, GeIn F w g u v x c → GeIn F w' g u v x c
  | .mk k a b s, u, v, x, c, h => by
    rw [GeIn] at h ⊢
    obtain ⟨h1, h2, h3, h4, h5, h6, A, cp, h7, h8, h9⟩ := h
    refine ⟨h1, h2, h3, h4, h5, h6, A, cp, h7, h8, fun hn => ?_⟩
    obtain ⟨bl, off, e, hF, hx⟩ := h9 hn
    exact ⟨bl, off, e, hF, GesIn.keep hs s hF hx⟩
theorem GesIn.keep (hs : Same F w w') : ∀ (s : List Ge) {bl o : Nat}, F bl → GesIn F w s bl o → GesIn F w' s bl o
  | [], _, _, _, _ => by rw [GesIn]; trivial
  | g :: r, bl, o, hF, h => by
    rw [GesIn] at h ⊢
    obtain ⟨⟨u, v, x, c, h1, h2, h3, h4, h5⟩, h6⟩ := h
    exact ⟨⟨u, v, x, c, (hs.cell (p := ⟨bl, o, none⟩) hF).trans h1, (hs.cell (p := ⟨bl, o + 1, none⟩) hF).trans h2, (hs.cell (p := ⟨bl, o + 2, none⟩) hF).trans h3, (hs.cell (p := ⟨bl, o + 3, none⟩) hF).trans h4, GeIn.keep hs g h5⟩, GesIn.keep hs r hF h6⟩
end
mutual
theorem GeIn.more (hF : ∀ b, F b → F' b) : ∀ (g : Ge) {u v x c : Value}, GeIn F w g u v x c → GeIn F' w g u v x c
  | .mk k a b s, u, v, x, c, h => by
    rw [GeIn] at h ⊢
    obtain ⟨h1, h2, h3, h4, h5, h6, A, cp, h7, h8, h9⟩ := h
    refine ⟨h1, h2, h3, h4, h5, h6, A, cp, h7, h8, fun hn => ?_⟩
    obtain ⟨bl, off, e, hFb, hx⟩ := h9 hn
    exact ⟨bl, off, e, hF _ hFb, GesIn.more hF s hx⟩
theorem GesIn.more (hF : ∀ b, F b → F' b) : ∀ (s : List Ge) {bl o : Nat}, GesIn F w s bl o → GesIn F' w s bl o
  | [], _, _, _ => by rw [GesIn]; trivial
  | g :: r, bl, o, h => by
    rw [GesIn] at h ⊢
    obtain ⟨⟨u, v, x, c, h1, h2, h3, h4, h5⟩, h6⟩ := h
    exact ⟨⟨u, v, x, c, h1, h2, h3, h4, GeIn.more hF g h5⟩, GesIn.more hF r h6⟩
end
theorem GesIn.at_ : ∀ {s : List Ge} {bl o i : Nat}, GesIn F w s bl o → (h : i < s.length) → ∃ u v x c, w.cell? ⟨bl, o + i * 4, none⟩ = some u ∧ w.cell? ⟨bl, o + i * 4 + 1, none⟩ = some v ∧ w.cell? ⟨bl, o + i * 4 + 2, none⟩ = some x ∧ w.cell? ⟨bl, o + i * 4 + 3, none⟩ = some c ∧ GeIn F w s[i] u v x c
  | [], _, _, _, _, h => by simp at h
  | g :: r, bl, o, 0, hx, _ => by rw [GesIn] at hx; simpa using hx.1
  | g :: r, bl, o, i + 1, hx, h => by
    rw [GesIn] at hx
    have := GesIn.at_ (i := i) hx.2 (by simpa using h)
    simpa [Nat.add_mul, Nat.add_assoc, Nat.add_comm, Nat.add_left_comm] using this
theorem GesIn.mk_ : ∀ {s : List Ge} {bl o : Nat}, (∀ i, (h : i < s.length) → ∃ u v x c, w.cell? ⟨bl, o + i * 4, none⟩ = some u ∧ w.cell? ⟨bl, o + i * 4 + 1, none⟩ = some v ∧ w.cell? ⟨bl, o + i * 4 + 2, none⟩ = some x ∧ w.cell? ⟨bl, o + i * 4 + 3, none⟩ = some c ∧ GeIn F w s[i] u v x c) → GesIn F w s bl o
  | [], _, _, _ => by rw [GesIn]; trivial
  | g :: r, bl, o, h => by
    rw [GesIn]
    refine ⟨by obtain ⟨u, v, x, c, h1, h2, h3, h4, h5⟩ := h 0 (by simp); exact ⟨u, v, x, c, by simpa using h1, by simpa using h2, by simpa using h3, by simpa using h4, h5⟩, GesIn.mk_ fun i hi => ?_⟩
    have := h (i + 1) (by simpa using hi)
    simpa [Nat.add_mul, Nat.add_assoc, Nat.add_comm, Nat.add_left_comm] using this
theorem GeIn.box {k a b : Int} {s : List Ge} {u v x c : Value} (h : GeIn F w (.mk k a b s) u v x c) : ∃ A cp, u = .int .i64 k ∧ v = .int .i64 a ∧ x = .int .i64 b ∧ c = .slice A s.length cp ∧ s.length ≤ cp ∧ cp ≤ 9223372036854775807 ∧ (0 < s.length → ∃ bl off, A = some ⟨bl, off, none⟩ ∧ F bl ∧ GesIn F w s bl off) := by
  rw [GeIn] at h
  obtain ⟨h1, h2, h3, _, _, _, A, cp, h7, h8, h9⟩ := h
  exact ⟨A, cp, h1, h2, h3, h7, h8.1, by have := h8.2; unfold maxLen at this; omega, h9⟩
theorem GeIn.wf {k a b : Int} {s : List Ge} {u v x c : Value} (h : GeIn F w (.mk k a b s) u v x c) : (Lit.int .i64 k).wf = true ∧ (Lit.int .i64 a).wf = true ∧ (Lit.int .i64 b).wf = true := by
  rw [GeIn] at h; exact ⟨h.2.2.2.1, h.2.2.2.2.1, h.2.2.2.2.2.1⟩
end
theorem ge_leaf {F : Nat → Prop} {w : World} {k a b : Int} (hk : (Lit.int .i64 k).wf = true) (ha : (Lit.int .i64 a).wf = true) (hb : (Lit.int .i64 b).wf = true) : GeIn F w (.mk k a b []) (.int .i64 k) (.int .i64 a) (.int .i64 b) (.slice none 0 0) := by
  rw [GeIn]; exact ⟨rfl, rfl, rfl, hk, ha, hb, none, 0, rfl, by simp, by simp⟩
end Go.Proofs.YtopehfmppfibhaaDoor
