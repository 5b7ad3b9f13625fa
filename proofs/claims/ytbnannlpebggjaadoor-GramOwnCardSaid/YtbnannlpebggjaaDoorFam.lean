/- A family of rows of numbers under one outer row, all of the call's own and apart; one of them grown, cut, put back. No conditions. -/
import Derived.Test.YtbnannlpebggjaaDoorOwh
import Derived.Test.YtbnannlpebggjaaDoorApp
import Derived.Test.YtbnannlpebggjaaDoorMach
import Derived.Maps.AppendAt
namespace Go.Proofs.YtbnannlpebggjaaDoor
open Go.RowKit Go.Deep
structure Fam (B : Nat) (w : World) (G : Nat) (us : List Value) (ll : List (List Int)) : Prop where
  row : w.heap[G]? = some (.cells us.toArray 29 (0, 0))
  len : us.length = ll.length
  own : ∀ (i : Nat) u x, us[i]? = some u → ll[i]? = some x → w.ownsRow B 3 1 u x.length (x.map (Value.int .i64))
  ne : ∀ u ∈ us, u.ownBlock ≠ some G
  ap : ∀ (i j : Nat) u v, i ≠ j → us[i]? = some u → us[j]? = some v → ∀ b, u.ownBlock = some b → v.ownBlock ≠ some b
section
variable {B G : Nat} {w w1 w2 : World} {us : List Value} {ll : List (List Int)}
theorem Fam.lt (h : Fam B w G us ll) : G < w.heap.size := Has.lt h.row
theorem Fam.keep (h : Fam B w G us ll) (hG : w1.heap[G]? = w.heap[G]?) (hs : ∀ u ∈ us, ∀ b, u.ownBlock = some b → w1.heap[b]? = w.heap[b]?) : Fam B w1 G us ll :=
  ⟨hG.trans h.row, h.len, fun i u x hu hx => own_keep (h.own i u x hu hx) fun k hk => hs u (List.mem_of_getElem? hu) k hk, h.ne, h.ap⟩
theorem Fam.ult (h : Fam B w G us ll) {u : Value} (hu : u ∈ us) {b : Nat} (hb : u.ownBlock = some b) : b < w.heap.size := by
  obtain ⟨i, hi, rfl⟩ := List.getElem_of_mem hu
  have hl : i < ll.length := by rw [← h.len]; exact hi
  exact own_lt (h.own i us[i] ll[i] (List.getElem?_eq_getElem hi) (List.getElem?_eq_getElem hl)) b hb
theorem Fam.below (h : Fam B w G us ll) (hb : Below w.heap.size w w1) : Fam B w1 G us ll :=
  h.keep (hb.block G h.lt) fun _ hu b e => hb.block b (h.ult hu e)
theorem Fam.alloc (h : Fam B w G us ll) (o : Obj) : Fam B (w.alloc o) G us ll :=
  h.keep (Below.heap_alloc w o G h.lt) fun _ hu b e => Below.heap_alloc w o b (h.ult hu e)
/-- another row is grown -/
theorem Fam.other {r : Option Nat} (h : Fam B w G us ll) (hg : w.grownBy w1 r) (hn : ∀ b, r = some b → b ≠ G ∧ ∀ u ∈ us, u.ownBlock ≠ some b) : Fam B w1 G us ll :=
  h.keep (hg.block G h.lt (fun e => (hn G e.symm).1 rfl)) fun u hu b e => hg.block b (h.ult hu e) (fun e2 => (hn b e2.symm).2 u hu e)
theorem Fam.at_ (h : Fam B w G us ll) {i : Nat} (hi : i < ll.length) : ∃ u, us[i]? = some u ∧ w.cell? ⟨G, i, none⟩ = some u ∧ w.ownsRow B 3 1 u (rowAt ll i).length ((rowAt ll i).map (Value.int .i64)) := by
  have hu : i < us.length := by rw [h.len]; exact hi
  refine ⟨us[i], List.getElem?_eq_getElem hu, ?_, ?_⟩
  · rw [Has.cell h.row i]; simp [hu]
  · have := h.own i us[i] ll[i] (List.getElem?_eq_getElem hu) (List.getElem?_eq_getElem hi)
    have e : rowAt ll i = ll[i] := by unfold rowAt; rw [List.getD_eq_getElem?_getD, List.getElem?_eq_getElem hi]; rfl
    rw [e]; exact this
theorem Fam.froz (h : Fam B w G us ll) (i : Nat) : w.frozen? ⟨G, i, none⟩ = false := Has.froz h.row i
/-- one row is put back, grown or cut -/
theorem Fam.put {i : Nat} {u u' : Value} {x' : List Int} {r : Option Nat} (h : Fam B w G us ll) (hi : i < ll.length) (hu : us[i]? = some u) (hg : w.grownBy w1 r) (hr : ∀ b, r = some b → u.ownBlock = some b)
    (hown : w1.ownsRow B 3 1 u' x'.length (x'.map (Value.int .i64))) (hat : u'.ownBlock = u.ownBlock ∨ ∃ b, u'.ownBlock = some b ∧ w.heap.size ≤ b) : Fam B (w1.setCell ⟨G, i, none⟩ u') G (us.set i u') (ll.set i x') := by
  have um := List.mem_of_getElem? hu
  have rG : some G ≠ r := fun e => h.ne u um (hr G e.symm)
  have nG : u'.ownBlock ≠ some G := by
    rcases hat with e | ⟨b, e, hb⟩
    · rw [e]; exact h.ne u um
    · rw [e]; intro e2; injection e2 with e2; have := h.lt; omega
  have far : ∀ (j : Nat) v, j ≠ i → us[j]? = some v → ∀ b, v.ownBlock = some b → u'.ownBlock ≠ some b := fun j v hj hv b hb e => by
    rcases hat with e1 | ⟨c, e1, hc⟩
    · rw [e1] at e; exact h.ap j i v u hj hv hu b hb e
    · rw [e1] at e; injection e with e; have := h.ult (List.mem_of_getElem? hv) hb; omega
  have kb : ∀ (j : Nat) v, j ≠ i → us[j]? = some v → ∀ b, v.ownBlock = some b → (w1.setCell ⟨G, i, none⟩ u').heap[b]? = w.heap[b]? := fun j v hj hv b hb => by
    have vm := List.mem_of_getElem? hv
    refine (Below.heap_setCell w1 ⟨G, i, none⟩ u' b (fun e => h.ne v vm (by rw [hb, e]))).trans (hg.block b (h.ult vm hb) (fun e => ?_))
    exact h.ap j i v u hj hv hu b hb (hr b e.symm)
  refine ⟨?_, by simp [h.len], fun j v x hv hx => ?_, fun v hv => ?_, fun j k v v2 hjk hv hv2 b hb => ?_⟩
  · have h1 : w1.heap[G]? = some (.cells us.toArray 29 (0, 0)) := (hg.block G h.lt rG).trans h.row
    rw [Has.set h1 i u']
    simp
  · rw [List.getElem?_set] at hv hx
    by_cases e : i = j
    · subst e
      rw [if_pos rfl, if_pos (by rw [h.len]; exact hi)] at hv
      rw [if_pos rfl, if_pos hi] at hx
      injection hv with hv
      injection hx with hx
      subst hv hx
      exact own_keep hown fun k hk => Below.heap_setCell w1 ⟨G, i, none⟩ u' k (fun e => nG (by rw [hk, e]))
    · rw [if_neg e] at hv hx
      exact own_keep (h.own j v x hv hx) fun k hk => kb j v (fun e2 => e e2.symm) hv k hk
  · rcases List.mem_or_eq_of_mem_set hv with h1 | rfl
    · exact h.ne v h1
    · exact nG
  · rw [List.getElem?_set] at hv hv2
    by_cases e : i = j
    · subst e
      rw [if_pos rfl, if_pos (by rw [h.len]; exact hi)] at hv
      injection hv with hv
      subst hv
      rw [if_neg hjk] at hv2
      intro e2
      exact far k v2 (fun e3 => hjk e3.symm) hv2 b e2 hb
    · rw [if_neg e] at hv
      by_cases e2 : i = k
      · subst e2
        rw [if_pos rfl, if_pos (by rw [h.len]; exact hi)] at hv2
        injection hv2 with hv2
        subst hv2
        exact far j v (fun e3 => e e3.symm) hv b hb
      · rw [if_neg e2] at hv2
        exact h.ap j k v v2 hjk hv hv2 b hb
end
theorem own_take {w : World} {base : Nat} {e : TypeId} {A : Option Addr} {n m c : Nat} {xs : List Value} (h : w.ownsRow base e 1 (.slice A n c) n xs) (hm : m ≤ n) : w.ownsRow base e 1 (.slice A m c) m (xs.take m) := by
  have hl := h.1
  refine ⟨by rw [List.length_take]; omega, ?_⟩
  rcases h.2 with ⟨h1, h2⟩ | ⟨g, cap, cur, h1, hb, hh, hc1, hc2, hc3, hc4⟩
  · injection h1 with e1 e2 e3
    subst e1 e2 e3
    have : m = 0 := by omega
    subst this
    exact .inl ⟨rfl, rfl⟩
  · injection h1 with e1 e2 e3
    subst e1 e3
    refine .inr ⟨g, c, cur, rfl, hb, hh, by omega, hc2, hc3, ?_⟩
    rw [Nat.mul_one] at hc4 ⊢
    rw [← hc4, List.take_take, Nat.min_eq_left hm]
/-- rows as they are made: none has anything -/
theorem fam_new (w : World) (n : Nat) {B : Nat} : Fam B (w.alloc (.cells (List.replicate n (Value.slice none 0 0)).toArray 29)) w.heap.size (List.replicate n (.slice none 0 0)) (List.replicate n []) :=
  by
  refine ⟨Has.new w _, by simp, fun i u x hu hx => ?_, fun u hu => ?_, fun i j u v _ hu _ b hb => ?_⟩
  · rw [List.getElem?_replicate] at hu hx
    by_cases h : i < n
    · rw [if_pos h] at hu hx
      injection hu with hu
      injection hx with hx
      subst hu hx
      exact World.ownsRow_nil _ _ _ _
    · rw [if_neg h] at hu; cases hu
  · rw [List.eq_of_mem_replicate hu]; simp [Value.ownBlock]
  · rw [List.eq_of_mem_replicate (List.mem_of_getElem? hu)] at hb
    simp [Value.ownBlock] at hb
end Go.Proofs.YtbnannlpebggjaaDoor
