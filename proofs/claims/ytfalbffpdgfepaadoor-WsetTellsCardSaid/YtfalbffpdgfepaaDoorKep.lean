/- What a law keeps from call to call: the boxes that it made, the lists and machines that it holds, all below the heap's end. No conditions. -/
import Derived.Test.YtfalbffpdgfepaaDoorInts
import Derived.Test.YtfalbffpdgfepaaDoorAs
namespace Go.Proofs.YtfalbffpdgfepaaDoor
open Go.RowKit
structure Kept (W : World) (os : List (Nat × Array Value × TypeId)) (ds : List (Value × List Int)) (ms : List (Value × MachD)) (w : World) : Prop where
  bel : Below W.heap.size W w
  box : ∀ p ∈ os, w.heap[p.1]? = some (.cells p.2.1 p.2.2 (0, 0))
  ints : ∀ p ∈ ds, IntsIn .i64 (fun b => b < w.heap.size) w p.1 p.2
  mach : ∀ p ∈ ms, MachIn (fun b => b < w.heap.size) w p.1 p.2
section
variable {W w w' : World} {os : List (Nat × Array Value × TypeId)} {ds : List (Value × List Int)} {ms : List (Value × MachD)}
theorem Kept.start (W : World) : Kept W [] [] [] W := ⟨Below.refl _ _, by simp, by simp, by simp⟩
theorem Kept.step (K : Kept W os ds ms w) (hb : Below w.heap.size w w') : Kept W os ds ms w' := by
  have hs := hb.size
  exact ⟨K.bel.trans (hb.mono K.bel.size), fun p hp => Has.below (K.box p hp) hb (Has.lt (K.box p hp)), fun p hp => ((K.ints p hp).keep (Same.of_below hb fun b h => h)).more fun b h => by omega, fun p hp => ((K.mach p hp).keep (Same.of_below hb fun b h => h)).more fun b h => by omega⟩
theorem Kept.drewN (K : Kept W os ds ms w) (q : Nat) : Kept W os ds ms (w.drewN q) := K.step (below_drewN (Below.refl _ _) q)
theorem Kept.alloc (K : Kept W os ds ms w) (o : Obj) : Kept W os ds ms (w.alloc o) := K.step ((Below.refl _ _).alloc (Nat.le_refl _) _)
theorem Kept.allocs (K : Kept W os ds ms w) (cs : Array Value) (t : TypeId) {g : Nat} (hg : g = w.heap.size) : Kept W ((g, cs, t) :: os) ds ms (w.alloc (.cells cs t)) := by
  subst hg
  refine ⟨(K.alloc _).bel, fun p hp => ?_, (K.alloc _).ints, (K.alloc _).mach⟩
  rcases List.mem_cons.1 hp with rfl | hp
  · exact Has.new w _
  · exact (K.alloc _).box p hp
theorem Kept.addInts (K : Kept W os ds ms w) {F : Nat → Prop} {v : Value} {zs : List Int} (h : IntsIn .i64 F w v zs) (hF : ∀ b, F b → b < w.heap.size) : Kept W os ((v, zs) :: ds) ms w :=
  ⟨K.bel, K.box, fun p hp => by
    rcases List.mem_cons.1 hp with rfl | hp
    · exact h.more hF
    · exact K.ints p hp, K.mach⟩
theorem Kept.addMach (K : Kept W os ds ms w) {F : Nat → Prop} {v : Value} {m : MachD} (h : MachIn F w v m) (hF : ∀ b, F b → b < w.heap.size) : Kept W os ds ((v, m) :: ms) w :=
  ⟨K.bel, K.box, K.ints, fun p hp => by
    rcases List.mem_cons.1 hp with rfl | hp
    · exact h.more hF
    · exact K.mach p hp⟩
theorem Kept.cell (K : Kept W os ds ms w) {g : Nat} {cs : Array Value} {t : TypeId} (h : (g, cs, t) ∈ os) (i : Nat) : w.cell? ⟨g, i, none⟩ = cs[i]? := Has.cell (K.box _ h) i
theorem Kept.int (K : Kept W os ds ms w) {v : Value} {zs : List Int} (h : (v, zs) ∈ ds) : IntsIn .i64 (fun b => b < w.heap.size) w v zs := K.ints _ h
theorem Kept.mac (K : Kept W os ds ms w) {v : Value} {m : MachD} (h : (v, m) ∈ ms) : MachIn (fun b => b < w.heap.size) w v m := K.mach _ h
theorem Kept.cellN (K : Kept W os ds ms w) (n : Nat) {g : Nat} {cs : Array Value} {t : TypeId} (h : os[n]? = some (g, cs, t)) (i : Nat) : w.cell? ⟨g, i, none⟩ = cs[i]? := K.cell (List.mem_of_getElem? h) i
theorem Kept.intN (K : Kept W os ds ms w) (n : Nat) {v : Value} {zs : List Int} (h : ds[n]? = some (v, zs)) : IntsIn .i64 (fun b => b < w.heap.size) w v zs := K.int (List.mem_of_getElem? h)
theorem Kept.macN (K : Kept W os ds ms w) (n : Nat) {v : Value} {m : MachD} (h : ms[n]? = some (v, m)) : MachIn (fun b => b < w.heap.size) w v m := K.mac (List.mem_of_getElem? h)
theorem Kept.ltN (K : Kept W os ds ms w) (n : Nat) {g : Nat} {cs : Array Value} {t : TypeId} (h : os[n]? = some (g, cs, t)) : g < w.heap.size := Has.lt (K.box _ (List.mem_of_getElem? h))
theorem Kept.laid (K : Kept W os ds ms w) (h : Laid W) : Laid w := h.below K.bel
end
def LawPost (W : World) (e : Ending) (w' : World) : Prop := e = .returned (.bool true) ∧ Below W.heap.size W w'
end Go.Proofs.YtfalbffpdgfepaaDoor
