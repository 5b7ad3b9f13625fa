/- Values in a row of the call's own, away from given blocks. No conditions. -/
import Derived.Test.YtpljcpeofnobbaaDoorVai
import Derived.Test.YtpljcpeofnobbaaDoorGen
import Derived.Deep.OwnRows
namespace Go.Proofs.YtpljcpeofnobbaaDoor
open Go.RowKit Go.Deep
theorem cells_three (w : World) (a b c : Value) (g : Nat) (F : Nat → Prop) (h0 : w.cell? ⟨g, 0, none⟩ = some a) (h1 : w.cell? ⟨g, 1, none⟩ = some b) (h2 : w.cell? ⟨g, 2, none⟩ = some c) (hF : F g) : CellsIn F w 3 (.slice (some ⟨g, 0, none⟩) 1 1) 1 [a, b, c] :=
  ⟨_, 1, rfl, rfl, fun _ => ⟨g, 0, rfl, hF, fun j u hj => by
    match j, hj with
    | 0, hj => simp at hj; subst hj; exact h0
    | 1, hj => simp at hj; subst hj; exact h1
    | 2, hj => simp at hj; subst hj; exact h2⟩⟩
theorem own_slice3 {w : World} {base : Nat} {e : TypeId} {size n : Nat} {v : Value} {xs : List Value} (h : w.ownsRow base e size v n xs) : ∃ A c, v = .slice A n c := by
  rcases h.2 with ⟨rfl, rfl⟩ | ⟨g, cap, cur, rfl, _⟩
  · exact ⟨none, 0, rfl⟩
  · exact ⟨_, cap, rfl⟩
/-- values in a row of the call's own, away from the blocks of D -/
structure VRow (B : Nat) (D : Nat → Prop) (l : List Va) (v : Value) (w : World) : Prop where
  row : ∃ cs, w.ownsRow B 24 3 v l.length cs ∧ VaCells (fun b => B ≤ b ∧ b < w.heap.size ∧ ¬ D b ∧ v.ownBlock ≠ some b) w cs l
  free : ∀ b, v.ownBlock = some b → ¬ D b
section
variable {B B' : Nat} {D D' : Nat → Prop} {l : List Va} {v : Value} {w w' : World}
theorem VRow.nil_ : VRow B D [] (.slice none 0 0) w := ⟨⟨[], World.ownsRow_nil _ _ _ _, VaCells.nil_⟩, fun b h => by cases h⟩
theorem VRow.keep (h : VRow B D l v w) (hs : ∀ b, B ≤ b → b < w.heap.size → ¬ D b → w'.heap[b]? = w.heap[b]?) (hz : w.heap.size ≤ w'.heap.size) (hD : ∀ b, D' b → D b ∨ w.heap.size ≤ b) : VRow B D' l v w' := by
  obtain ⟨⟨cs, h1, h2⟩, h3⟩ := h
  refine ⟨⟨cs, own_keep h1 fun k hk => hs k (own_ge h1 k hk) (own_lt h1 k hk) (h3 k hk), (h2.keep fun b hb => hs b hb.1 hb.2.1 hb.2.2.1).more fun b hb => ⟨hb.1, by have := hb.2.1; omega, fun hd => ?_, hb.2.2.2⟩⟩, fun b hb hd => ?_⟩
  · rcases hD b hd with h | h
    · exact hb.2.2.1 h
    · have := hb.2.1; omega
  · rcases hD b hd with h | h
    · exact h3 b hb h
    · have := own_lt h1 b hb; omega
theorem own_baseV {base base' : Nat} {e : TypeId} {size n : Nat} {xs : List Value} (h : w.ownsRow base e size v n xs) (hb : base' ≤ base) : w.ownsRow base' e size v n xs := by
  refine ⟨h.1, ?_⟩
  rcases h.2 with h | ⟨g, cap, cur, rfl, h1, h2⟩
  · exact .inl h
  · exact .inr ⟨g, cap, cur, rfl, by omega, h2⟩
theorem own_sliceV {base : Nat} {e : TypeId} {size n : Nat} {xs : List Value} (h : w.ownsRow base e size v n xs) : ∃ A c, v = .slice A n c ∧ n ≤ c ∧ c ≤ maxLen := by
  rcases h.2 with ⟨rfl, rfl⟩ | ⟨g, cap, cur, rfl, hb, hh, hc1, hc2, _⟩
  · exact ⟨none, 0, rfl, Nat.le_refl _, by unfold maxLen; omega⟩
  · exact ⟨_, cap, rfl, hc1, hc2⟩
theorem VRow.base (h : VRow B D l v w) (hb : B' ≤ B) : VRow B' D l v w := by
  obtain ⟨⟨cs, h1, h2⟩, h3⟩ := h
  exact ⟨⟨cs, own_baseV h1 hb, h2.more fun b k => ⟨by have := k.1; omega, k.2⟩⟩, h3⟩
theorem VRow.slice (h : VRow B D l v w) : ∃ A c, v = .slice A l.length c := by
  obtain ⟨⟨cs, h1, _⟩, _⟩ := h
  exact own_slice3 h1
/-- such a row is what lies behind a value -/
theorem VRow.va (h : VRow B D l v w) {k : Bool} {n : Int} (hn : (Lit.int .i64 n).wf = true) : VaIn (fun b => B ≤ b ∧ b < w.heap.size ∧ ¬ D b) w (.mk k n l) (.bool k) (.int .i64 n) v := by
  obtain ⟨⟨cs, h1, h2⟩, h3⟩ := h
  rw [VaIn]
  obtain ⟨A, c, rfl, l1, l2⟩ := own_sliceV h1
  refine ⟨rfl, rfl, hn, A, c, rfl, ⟨l1, l2⟩, fun hp => ?_⟩
  obtain ⟨g, cap, e, hg, hl, _, _, _⟩ := own_open h1 hp
  injection e with e1 _ e2
  subst e1 e2
  exact ⟨g, 0, rfl, ⟨hg, hl, h3 g rfl⟩, (h2.more fun b k => ⟨k.1, k.2.1, k.2.2.1⟩).vas h1⟩
end
end Go.Proofs.YtpljcpeofnobbaaDoor
