/- What a law keeps from call to call, lists of rows as well. No conditions. -/
import Derived.Test.YtfalbffpdgfepaaDoorKep
import Derived.Test.YtfalbffpdgfepaaDoorMrow
namespace Go.Proofs.YtfalbffpdgfepaaDoor
open Go.RowKit
structure KeptR (W : World) (os : List (Nat × Array Value × TypeId)) (ds : List (Value × List Int)) (ms : List (Value × MachD)) (rs : List (Value × List (List Int))) (w : World) : Prop where
  k : Kept W os ds ms w
  rows : ∀ p ∈ rs, RowsIn (fun b => b < w.heap.size) w p.1 p.2
section
variable {W w w' : World} {os : List (Nat × Array Value × TypeId)} {ds : List (Value × List Int)} {ms : List (Value × MachD)} {rs : List (Value × List (List Int))}
theorem KeptR.start (W : World) : KeptR W [] [] [] [] W := ⟨Kept.start W, by simp⟩
theorem KeptR.bel (K : KeptR W os ds ms rs w) : Below W.heap.size W w := K.k.bel
theorem KeptR.step (K : KeptR W os ds ms rs w) (hb : Below w.heap.size w w') : KeptR W os ds ms rs w' := by
  have hs := hb.size
  exact ⟨K.k.step hb, fun p hp => ((K.rows p hp).keep (Same.of_below hb fun b h => h)).more fun b h => by omega⟩
theorem KeptR.drewN (K : KeptR W os ds ms rs w) (q : Nat) : KeptR W os ds ms rs (w.drewN q) := K.step (below_drewN (Below.refl _ _) q)
theorem KeptR.alloc (K : KeptR W os ds ms rs w) (o : Obj) : KeptR W os ds ms rs (w.alloc o) := K.step ((Below.refl _ _).alloc (Nat.le_refl _) _)
theorem KeptR.allocs (K : KeptR W os ds ms rs w) (cs : Array Value) (t : TypeId) {g : Nat} (hg : g = w.heap.size) : KeptR W ((g, cs, t) :: os) ds ms rs (w.alloc (.cells cs t)) := ⟨K.k.allocs cs t hg, (K.alloc _).rows⟩
theorem KeptR.addInts (K : KeptR W os ds ms rs w) {F : Nat → Prop} {v : Value} {zs : List Int} (h : IntsIn .i64 F w v zs) (hF : ∀ b, F b → b < w.heap.size) : KeptR W os ((v, zs) :: ds) ms rs w := ⟨K.k.addInts h hF, K.rows⟩
theorem KeptR.addMach (K : KeptR W os ds ms rs w) {F : Nat → Prop} {v : Value} {m : MachD} (h : MachIn F w v m) (hF : ∀ b, F b → b < w.heap.size) : KeptR W os ds ((v, m) :: ms) rs w := ⟨K.k.addMach h hF, K.rows⟩
theorem KeptR.addRows (K : KeptR W os ds ms rs w) {F : Nat → Prop} {v : Value} {ll : List (List Int)} (h : RowsIn F w v ll) (hF : ∀ b, F b → b < w.heap.size) : KeptR W os ds ms ((v, ll) :: rs) w :=
  ⟨K.k, fun p hp => by
    rcases List.mem_cons.1 hp with rfl | hp
    · exact h.more hF
    · exact K.rows p hp⟩
theorem KeptR.cellN (K : KeptR W os ds ms rs w) (n : Nat) {g : Nat} {cs : Array Value} {t : TypeId} (h : os[n]? = some (g, cs, t)) (i : Nat) : w.cell? ⟨g, i, none⟩ = cs[i]? := K.k.cellN n h i
theorem KeptR.intN (K : KeptR W os ds ms rs w) (n : Nat) {v : Value} {zs : List Int} (h : ds[n]? = some (v, zs)) : IntsIn .i64 (fun b => b < w.heap.size) w v zs := K.k.intN n h
theorem KeptR.macN (K : KeptR W os ds ms rs w) (n : Nat) {v : Value} {m : MachD} (h : ms[n]? = some (v, m)) : MachIn (fun b => b < w.heap.size) w v m := K.k.macN n h
theorem KeptR.rowN (K : KeptR W os ds ms rs w) (n : Nat) {v : Value} {ll : List (List Int)} (h : rs[n]? = some (v, ll)) : RowsIn (fun b => b < w.heap.size) w v ll := K.rows _ (List.mem_of_getElem? h)
theorem KeptR.ltN (K : KeptR W os ds ms rs w) (n : Nat) {g : Nat} {cs : Array Value} {t : TypeId} (h : os[n]? = some (g, cs, t)) : g < w.heap.size := K.k.ltN n h
theorem KeptR.laid (K : KeptR W os ds ms rs w) (h : Laid W) : Laid w := h.below K.bel
end
end Go.Proofs.YtfalbffpdgfepaaDoor
