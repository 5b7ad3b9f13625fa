/- What tour.Round returns: whether there is a tour, and how long it is. No conditions. -/
import Derived.Test.YtkiljnggphlomaaDoorTof
import Derived.Test.YtkiljnggphlomaaDoorTcf
import Derived.Test.YtkiljnggphlomaaDoorFam
import Derived.Deep.RegionLaw
namespace Go.Proofs.YtkiljnggphlomaaDoor
open Go.RowKit Go.Deep
theorem infoRowT : (Tryd.prog.info? 23).map (fun i => (i.zero, i.size, i.bytes)) = some (some (.slice none 0 0), 1, 24) := by kernel_rfl
def lenV : Value → Nat | .slice _ n _ => n | _ => 0
def RoundPost (W : World) (n : Int) (l : EdgeL) (e : Ending) (w' : World) : Prop :=
  Below W.heap.size W w' ∧ ((flowC n l ≠ 0 ∧ e = .returned (.tuple #[.slice none 0 0, errV (flowC n l)])) ∨
    (flowC n l = 0 ∧ (∃ i, i < n.toNat ∧ offAt l i ≠ 0) ∧ e = .returned (.tuple #[.slice none 0 0, errV 2])) ∨
    (flowC n l = 0 ∧ (∀ i, i < n.toNat → offAt l i = 0) ∧ ¬ conn l ∧ e = .returned (.tuple #[.slice none 0 0, errV 2])) ∨
    (flowC n l = 0 ∧ (∀ i, i < n.toNat → offAt l i = 0) ∧ conn l ∧ ∃ A c, e = .returned (.tuple #[.slice A (l.length + 1) c, .nilIface])))
def tgts (l : EdgeL) (N : Nat) : List (List Int) := (List.range N).map fun i => tgt l i
theorem tgts_len (l : EdgeL) (N : Nat) : (tgts l N).length = N := by simp [tgts]
theorem tgts_at {l : EdgeL} {N i : Nat} (hi : i < N) : (tgts l N).getD i [] = tgt l i := by
  unfold tgts; rw [List.getD_eq_getElem?_getD]; simp [hi]
theorem tgts_take {l : EdgeL} {N j a : Nat} {y : Int} (hj : j < l.length) (h : eAt l j = ((a : Int), y)) : tgts (l.take (j + 1)) N = (tgts (l.take j) N).set a (tgt (l.take j) a ++ [y]) := by
  apply List.ext_getElem?
  intro i
  rw [List.getElem?_set]
  unfold tgts
  by_cases hi : i < N
  · by_cases e : a = i
    · subst e
      rw [if_pos rfl]
      simp [hi, tgt, take_eAt hj, List.filter_append, h]
    · rw [if_neg e]
      have : ¬ (a : Int) = (i : Int) := by omega
      simp [hi, tgt, take_eAt hj, List.filter_append, h, this]
  · by_cases e : a = i
    · subst e; simp [hi]
    · simp [hi, e]
/-- the three memories of the search, apart -/
structure TMem (B : Nat) (w : World) (G : Nat) (us : List Value) (rows : List (List Int)) (sv : Value) (st : List Int) (ov : Value) (out : List Int) : Prop where
  fam : Fam B w G us rows
  stk : w.ownsRow B 3 1 sv st.length (st.map (Value.int .i64))
  tol : w.ownsRow B 3 1 ov out.length (out.map (Value.int .i64))
  s1 : ∀ b, sv.ownBlock = some b → b ≠ G ∧ ov.ownBlock ≠ some b ∧ ∀ u ∈ us, u.ownBlock ≠ some b
  s2 : ∀ b, ov.ownBlock = some b → b ≠ G ∧ ∀ u ∈ us, u.ownBlock ≠ some b
section
variable {B G : Nat} {w w1 w2 : World} {us : List Value} {rows : List (List Int)} {sv sv' ov ov' : Value} {st out : List Int}
theorem TMem.pushS {x : Int} {o : Obj} (h : TMem B w G us rows sv st ov out) (hown : w2.ownsRow B 3 1 sv' (st.length + 1) (st.map (Value.int .i64) ++ [.int .i64 x])) (hg : (w.alloc o).grownBy w2 sv.ownBlock) (hat : sv'.ownBlock = sv.ownBlock ∨ sv'.ownBlock = some (w.alloc o).heap.size) :
    TMem B w2 G us rows sv' (st ++ [x]) ov out := by
  have hf := (h.fam.alloc o).other hg fun b hb => ⟨(h.s1 b hb).1, (h.s1 b hb).2.2⟩
  have ol := own_lt h.tol
  refine ⟨hf, by simpa using hown, own_keep h.tol fun k hk => (hg.block k (by have := ol k hk; simp; omega) (fun e => (h.s1 k e.symm).2.1 hk)).trans (Below.heap_alloc w o k (ol k hk)), fun b hb => ?_, h.s2⟩
  rcases hat with e | e
  · exact h.s1 b (by rw [← e]; exact hb)
  · rw [e, World.size_alloc] at hb
    injection hb with hb
    have h1 := h.fam.lt
    refine ⟨by omega, fun e2 => by have := ol b e2; omega, fun u hu e2 => by have := h.fam.ult hu e2; omega⟩
theorem TMem.pushO {x : Int} {o : Obj} (h : TMem B w G us rows sv st ov out) (hown : w2.ownsRow B 3 1 ov' (out.length + 1) (out.map (Value.int .i64) ++ [.int .i64 x])) (hg : (w.alloc o).grownBy w2 ov.ownBlock) (hat : ov'.ownBlock = ov.ownBlock ∨ ov'.ownBlock = some (w.alloc o).heap.size) :
    TMem B w2 G us rows sv st ov' (out ++ [x]) := by
  have hf := (h.fam.alloc o).other hg fun b hb => h.s2 b hb
  have sl := own_lt h.stk
  refine ⟨hf, own_keep h.stk fun k hk => (hg.block k (by have := sl k hk; simp; omega) (fun e => (h.s1 k hk).2.1 e.symm)).trans (Below.heap_alloc w o k (sl k hk)), by simpa using hown, fun b hb => ?_, fun b hb => ?_⟩
  · refine ⟨(h.s1 b hb).1, fun e2 => ?_, (h.s1 b hb).2.2⟩
    rcases hat with e | e
    · exact (h.s1 b hb).2.1 (by rw [← e]; exact e2)
    · rw [e, World.size_alloc] at e2
      injection e2 with e2
      have := sl b hb; omega
  · rcases hat with e | e
    · exact h.s2 b (by rw [← e]; exact hb)
    · rw [e, World.size_alloc] at hb
      injection hb with hb
      have h1 := h.fam.lt
      exact ⟨by omega, fun u hu e2 => by have := h.fam.ult hu e2; omega⟩
theorem TMem.popS {A : Option Addr} {k c : Nat} {x : Int} (h : TMem B w G us rows (.slice A (k + 1) c) (st ++ [x]) ov out) (hk : st.length = k) : TMem B w G us rows (.slice A k c) st ov out := by
  refine ⟨h.fam, ?_, h.tol, fun b hb => h.s1 b (by cases A with | none => simp [Value.ownBlock] at hb | some a => simpa [Value.ownBlock] using hb), h.s2⟩
  have h1 := h.stk
  rw [List.length_append, hk] at h1
  have h2 := own_take h1 (m := k) (by simp)
  rw [hk]
  have e : ((st ++ [x]).map (Value.int .i64)).take k = st.map (Value.int .i64) := by
    rw [List.map_append, List.take_append_of_le_length (by simp; omega), List.take_of_length_le (by simp; omega)]
  rwa [e] at h2
/-- a row of the family loses its last -/
theorem TMem.cut {i k c : Nat} {A : Option Addr} {r : List Int} {y : Int} (h : TMem B w G us rows sv st ov out) (hi : i < rows.length) (hu : us[i]? = some (.slice A (k + 1) c)) (hr : rowAt rows i = r ++ [y]) (hk : r.length = k) :
    TMem B (w.setCell ⟨G, i, none⟩ (.slice A k c)) G (us.set i (.slice A k c)) (rows.set i r) sv st ov out := by
  have eb : (Value.slice A k c).ownBlock = (Value.slice A (k + 1) c).ownBlock := by cases A <;> rfl
  have er : rows[i]? = some (r ++ [y]) := by
    rw [← hr]; unfold rowAt; rw [List.getD_eq_getElem?_getD, List.getElem?_eq_getElem hi]; rfl
  have h1 := h.fam.own i _ _ hu er
  rw [List.length_append, hk] at h1
  have h2 := own_take h1 (m := k) (by simp)
  have e : ((r ++ [y]).map (Value.int .i64)).take k = r.map (Value.int .i64) := by
    rw [List.map_append, List.take_append_of_le_length (by simp; omega), List.take_of_length_le (by simp; omega)]
  rw [e] at h2
  have hf := h.fam.put (w1 := w) (r := none) (x' := r) hi hu (World.grownBy.refl w none) (fun b hb => by cases hb) (by rw [hk]; exact h2) (.inl eb)
  have mem : ∀ u ∈ us.set i (Value.slice A k c), u ∈ us ∨ u.ownBlock = (Value.slice A (k + 1) c).ownBlock := fun u hu' => by
    rcases List.mem_or_eq_of_mem_set hu' with h1 | rfl
    · exact .inl h1
    · exact .inr eb
  have um := List.mem_of_getElem? hu
  refine ⟨hf, own_keep h.stk fun b hb => Below.heap_setCell w ⟨G, i, none⟩ _ b (fun e => (h.s1 b hb).1 e), own_keep h.tol fun b hb => Below.heap_setCell w ⟨G, i, none⟩ _ b (fun e => (h.s2 b hb).1 e), fun b hb => ⟨(h.s1 b hb).1, (h.s1 b hb).2.1, fun u hu' => ?_⟩, fun b hb => ⟨(h.s2 b hb).1, fun u hu' => ?_⟩⟩
  · rcases mem u hu' with h1 | h1
    · exact (h.s1 b hb).2.2 u h1
    · rw [h1]; exact (h.s1 b hb).2.2 _ um
  · rcases mem u hu' with h1 | h1
    · exact (h.s2 b hb).2 u h1
    · rw [h1]; exact (h.s2 b hb).2 _ um
end
end Go.Proofs.YtkiljnggphlomaaDoor
