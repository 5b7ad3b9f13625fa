/- A row of expressions of the call's own, each in blocks of its own, its parts in a row that may be written. No conditions. -/
import Derived.Test.YtanpmmpdolaiiaaDoorExa
namespace Go.Proofs.YtanpmmpdolaiiaaDoor
open Go.RowKit Go.Deep
def Elt (D : Nat → Prop) (w : World) (x : Ex) (a b c : Value) : Prop := ExIn D w x a b c ∧ (∀ g, c.ownBlock = some g → D g) ∧ ∃ cs, w.ownsRow 0 24 3 c x.s.length cs
def ExFam (D : Nat → Nat → Prop) (w : World) (cs : List Value) (l : List Ex) : Prop :=
  cs.length = l.length * 3 ∧ ∀ i, (h : i < l.length) → ∃ a b c, cs[i * 3]? = some a ∧ cs[i * 3 + 1]? = some b ∧ cs[i * 3 + 2]? = some c ∧ Elt (D i) w l[i] a b c
section
variable {w w' : World} {B : Nat} {P P' : Nat → Prop} {v : Value} {l : List Ex} {cs : List Value}
theorem Elt.keep {D : Nat → Prop} {x : Ex} {a b c : Value} (h : Elt D w x a b c) (hs : Same D w w') : Elt D w' x a b c := by
  obtain ⟨h1, h2, cs, h3⟩ := h
  exact ⟨ExIn.keep hs _ h1, h2, cs, own_keep h3 fun k hk => hs k (h2 k hk)⟩
theorem Elt.more {D D' : Nat → Prop} {x : Ex} {a b c : Value} (h : Elt D w x a b c) (hD : ∀ b, D b → D' b) : Elt D' w x a b c :=
  ⟨ExIn.more hD _ h.1, fun g hg => hD g (h.2.1 g hg), h.2.2⟩
theorem Elt.leaf {D : Nat → Prop} {k n : Int} (hk : (Lit.int .i64 k).wf = true) (hn : (Lit.int .i64 n).wf = true) : Elt D w (.mk k n []) (.int .i64 k) (.int .i64 n) (.slice none 0 0) := by
  refine ⟨?_, fun g hg => by simp [Value.ownBlock] at hg, [], World.ownsRow_nil _ _ _ _⟩
  rw [ExIn]; exact ⟨rfl, rfl, hk, hn, none, 0, rfl, by simp, by simp⟩
theorem EInv.elt {B : Nat} (h : EInv B v l w) {k n : Int} (hk : (Lit.int .i64 k).wf = true) (hn : (Lit.int .i64 n).wf = true) : Elt (fun b => B ≤ b ∧ b < w.heap.size) w (.mk k n l) (.int .i64 k) (.int .i64 n) v := by
  refine ⟨h.ex hk hn, ?_, ?_⟩
  · obtain ⟨cs, h1, _⟩ := h.row
    exact fun g hg => ⟨own_ge h1 g hg, own_lt h1 g hg⟩
  · obtain ⟨cs, h1, _⟩ := h.row
    exact ⟨cs, own_base h1 (Nat.zero_le _)⟩
/-- the row, its cells, and whose blocks are whose; P: whatever block is one of them -/
def EFamC (P : Nat → Prop) (B : Nat) (v : Value) (l : List Ex) (cs : List Value) (w : World) : Prop :=
  w.ownsRow B 24 3 v l.length cs ∧ ∃ D : Nat → Nat → Prop, ExFam D w cs l ∧ (∀ i, i < l.length → ∀ b, D i b → P b ∧ B ≤ b ∧ b < w.heap.size ∧ v.ownBlock ≠ some b) ∧ ∀ i j b, i < l.length → j < l.length → D i b → D j b → i = j
def EFam (P : Nat → Prop) (B : Nat) (v : Value) (l : List Ex) (w : World) : Prop := ∃ cs, EFamC P B v l cs w
theorem EFamC.below (h : EFamC P B v l cs w) (hb : Below w.heap.size w w') : EFamC P B v l cs w' := by
  obtain ⟨h1, D, ⟨l1, h2⟩, h3, h4⟩ := h
  have hs := hb.size
  refine ⟨own_below h1 hb, D, ⟨l1, fun i hi => ?_⟩, fun i hi b hD => ⟨(h3 i hi b hD).1, (h3 i hi b hD).2.1, by have := (h3 i hi b hD).2.2.1; omega, (h3 i hi b hD).2.2.2⟩, h4⟩
  obtain ⟨a, b, c, k1, k2, k3, k4⟩ := h2 i hi
  exact ⟨a, b, c, k1, k2, k3, k4.keep (Same.of_below hb fun b k => (h3 i hi b k).2.2.1)⟩
theorem EFam.below (h : EFam P B v l w) (hb : Below w.heap.size w w') : EFam P B v l w' := h.imp fun _ h => h.below hb
theorem EFamC.bound (h : EFamC P B v l cs w) (hP : ∀ b, P b → B ≤ b → b < w.heap.size → P' b) : EFamC P' B v l cs w := by
  obtain ⟨h1, D, h2, h3, h4⟩ := h
  exact ⟨h1, D, h2, fun i hi b hD => ⟨hP b (h3 i hi b hD).1 (h3 i hi b hD).2.1 (h3 i hi b hD).2.2.1, (h3 i hi b hD).2⟩, h4⟩
theorem EFam.bound (h : EFam P B v l w) (hP : ∀ b, P b → B ≤ b → b < w.heap.size → P' b) : EFam P' B v l w := h.imp fun _ h => h.bound hP
theorem EFam.base {B' : Nat} (h : EFam P B v l w) (hb : B' ≤ B) : EFam P B' v l w := by
  obtain ⟨cs, h1, D, h2, h3, h4⟩ := h
  exact ⟨cs, own_base h1 hb, D, h2, fun i hi b hD => ⟨(h3 i hi b hD).1, by have := (h3 i hi b hD).2.1; omega, (h3 i hi b hD).2.2⟩, h4⟩
theorem EFam.nil_ (P : Nat → Prop) (B : Nat) (w : World) : EFam P B (.slice none 0 0) [] w :=
  ⟨[], World.ownsRow_nil _ _ _ _, fun _ _ => False, ⟨rfl, fun i h => by simp at h⟩, fun i h => by simp at h, fun i j b h => by simp at h⟩
theorem EFam.slice (h : EFam P B v l w) : ∃ A c, v = .slice A l.length c := by
  obtain ⟨cs, h1, _⟩ := h
  obtain ⟨A, c, e, _⟩ := own_slice h1
  exact ⟨A, c, e⟩
theorem EFam.ownlt (h : EFam P B v l w) : ∀ g, v.ownBlock = some g → B ≤ g ∧ g < w.heap.size := by
  obtain ⟨cs, h1, _⟩ := h
  exact fun g hg => ⟨own_ge h1 g hg, own_lt h1 g hg⟩
/-- such a row is one as Exc has them -/
theorem EFam.einv (h : EFam P B v l w) : EInv B v l w := by
  obtain ⟨cs, h1, D, ⟨l1, h2⟩, h3, h4⟩ := h
  refine ⟨cs, h1, l1, fun i hi => ?_⟩
  obtain ⟨a, b, c, k1, k2, k3, k4⟩ := h2 i hi
  exact ⟨a, b, c, k1, k2, k3, ExIn.more (fun b hb => (h3 i hi b hb).2) _ k4.1⟩
theorem efam_snoc {v5 : Value} {x : Ex} {a b c : Value} {w5 : World} {N : Nat → Prop} (hB : B ≤ w.heap.size) (h : EFamC P B v l cs w) (hx : Elt N w x a b c)
    (hN : ∀ b, N b → P' b ∧ B ≤ b ∧ b < w.heap.size ∧ v.ownBlock ≠ some b) (hPN : ∀ b, P b → ¬ N b) (hPP : ∀ b, P b → P' b)
    (hown5 : w5.ownsRow B 24 3 v5 (l.length + 1) (cs ++ [a, b, c])) (hgrow5 : w.grownBy w5 v.ownBlock) (hat5 : v5.ownBlock = v.ownBlock ∨ v5.ownBlock = some w.heap.size) :
    EFam P' B v5 (l ++ [x]) w5 ∧ Below B w w5 := by
  have s5 := hgrow5.size
  obtain ⟨h1, D, ⟨l1, h2⟩, h3, h4⟩ := h
  have SM : ∀ D' : Nat → Prop, (∀ b, D' b → b < w.heap.size ∧ v.ownBlock ≠ some b) → Same D' w w5 := fun D' hD b hb => hgrow5.block b (hD b hb).1 (fun e => (hD b hb).2 e.symm)
  have NE : ∀ b, b < w.heap.size → v.ownBlock ≠ some b → v5.ownBlock ≠ some b := fun b hb hn e => by
    rcases hat5 with h | h
    · rw [h] at e; exact hn e
    · rw [h] at e; injection e with e; omega
  refine ⟨⟨cs ++ [a, b, c], by rw [List.length_append]; exact hown5, fun i => if i < l.length then D i else N, ⟨by simp [l1, Nat.add_mul], fun i hi => ?_⟩, fun i hi g hg => ?_, fun i j g hi hj h5 h6 => ?_⟩, (Below.refl _ _).grown hgrow5 hB fun k hk => own_ge h1 k hk⟩
  · by_cases hl : i < l.length
    · obtain ⟨a', b', c', k1, k2, k3, k4⟩ := h2 i hl
      refine ⟨a', b', c', ?_, ?_, ?_, ?_⟩
      · rw [List.getElem?_append_left (by omega)]; exact k1
      · rw [List.getElem?_append_left (by omega)]; exact k2
      · rw [List.getElem?_append_left (by omega)]; exact k3
      · rw [List.getElem_append_left hl]
        show Elt (if i < l.length then D i else N) _ _ _ _ _
        rw [if_pos hl]
        exact k4.keep (SM _ fun b hb => (h3 i hl b hb).2.2)
    · simp at hi
      obtain rfl : i = l.length := by omega
      refine ⟨a, b, c, ?_, ?_, ?_, ?_⟩
      · rw [List.getElem?_append_right (by omega), show l.length * 3 - cs.length = 0 by omega]; rfl
      · rw [List.getElem?_append_right (by omega), show l.length * 3 + 1 - cs.length = 1 by omega]; rfl
      · rw [List.getElem?_append_right (by omega), show l.length * 3 + 2 - cs.length = 2 by omega]; rfl
      · show Elt (if l.length < l.length then D l.length else N) _ _ _ _ _
        rw [if_neg hl]
        simpa using hx.keep (SM _ fun b hb => (hN b hb).2.2)
  · by_cases hl : i < l.length
    · simp only [if_pos hl] at hg
      have k := h3 i hl g hg
      exact ⟨hPP g k.1, k.2.1, by have := k.2.2.1; omega, NE g k.2.2.1 k.2.2.2⟩
    · simp only [if_neg hl] at hg
      have k := hN g hg
      exact ⟨k.1, k.2.1, by have := k.2.2.1; omega, NE g k.2.2.1 k.2.2.2⟩
  · simp at hi hj
    by_cases hl : i < l.length
    · by_cases hl2 : j < l.length
      · simp only [if_pos hl, if_pos hl2] at h5 h6
        exact h4 i j g hl hl2 h5 h6
      · simp only [if_pos hl, if_neg hl2] at h5 h6
        exact absurd h6 (hPN g (h3 i hl g h5).1)
    · by_cases hl2 : j < l.length
      · simp only [if_neg hl, if_pos hl2] at h5 h6
        exact absurd h5 (hPN g (h3 j hl2 g h6).1)
      · omega
end
theorem efam_lit {w : World} {l : List Ex} {cs : Array Value} {D : Nat → Nat → Prop} (hl : l.length ≤ 1000) (hc : cs.size = l.length * 3) (B : Nat) (hB : B ≤ w.heap.size) (hF : ExFam D w cs.toList l)
    (hD : ∀ i, i < l.length → ∀ b, D i b → B ≤ b ∧ b < w.heap.size) (hA : ∀ i j b, i < l.length → j < l.length → D i b → D j b → i = j) :
    EFam (fun _ => True) B (.slice (some ⟨w.heap.size, 0, none⟩) l.length l.length) l (w.alloc (.cells cs 24)) := by
  refine ⟨cs.toList, ?_, D, ⟨hF.1, fun i hi => ?_⟩, fun i hi b hb => ⟨trivial, (hD i hi b hb).1, by have := (hD i hi b hb).2; simp; omega, fun e => ?_⟩, hA⟩
  · exact World.ownsRow_lit (e := 24) (size := 3) (base := B) w cs l.length hB (by unfold maxLen; omega) (by simpa using hc)
  · obtain ⟨a, b, c, k1, k2, k3, k4⟩ := hF.2 i hi
    exact ⟨a, b, c, k1, k2, k3, k4.keep fun b hb => Below.heap_alloc _ _ _ (hD i hi b hb).2⟩
  · simp [Value.ownBlock] at e
    have := (hD i hi b hb).2; omega
theorem elt_set {G : Nat → Prop} {B g cap i o0 o1 o2 : Nat} {l : List Ex} {t : Ex} {a b c : Value} {k n : Int} {w : World} (e0 : o0 = i * 3) (e1 : o1 = i * 3 + 1) (e2 : o2 = i * 3 + 2) (hG : ∀ x, B ≤ x → x < w.heap.size → G x) (h : EInv B (.slice (some ⟨g, 0, none⟩) l.length cap) l w) (hi : i < l.length)
    (ht : ExIn (fun x => G x ∧ x ≠ g) w t a b c) (hk : (Lit.int .i64 k).wf = true) (hn : (Lit.int .i64 n).wf = true) :
    Elt G (((w.setCell ⟨g, o0, none⟩ a).setCell ⟨g, o1, none⟩ b).setCell ⟨g, o2, none⟩ c) (.mk k n (l.set i t)) (.int .i64 k) (.int .i64 n) (.slice (some ⟨g, 0, none⟩) l.length cap) := by
  refine ⟨ex_set e0 e1 e2 hG h hi ht hk hn, ?_, ?_⟩
  · obtain ⟨cs, h1, _⟩ := h.row
    exact fun g' hg' => hG g' (own_ge h1 g' hg') (own_lt h1 g' hg')
  · obtain ⟨cs, h1, _⟩ := h.row
    have O := (((h1.stored o0 a).1.stored o1 b).1.stored o2 c).1
    have e : (l.set i t).length = l.length := List.length_set
    refine ⟨_, own_base (xs := ((cs.set o0 a).set o1 b).set o2 c) ?_ (Nat.zero_le B)⟩
    show World.ownsRow _ _ _ _ _ (l.set i t).length _
    rw [e]; exact O
end Go.Proofs.YtanpmmpdolaiiaaDoor
