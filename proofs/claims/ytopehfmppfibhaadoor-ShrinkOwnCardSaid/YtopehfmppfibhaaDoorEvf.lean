/- The contract of Eval$1, the closure that Eval defers, in a frame that panics with ErrZero. No conditions. -/
import Derived.Test.YtopehfmppfibhaaDoorEvo
import Derived.Defers
import Derived.Recover
namespace Go.Proofs.YtopehfmppfibhaaDoor
open Go.RowKit
set_option maxRecDepth 100000 in
set_option maxHeartbeats 4000000 in
theorem catch_panicking (p q : Addr) (x : Int) (older : List PanicEntry) (w : World) (hc : w.cell? p = some (.int .i64 x)) (hz : w.frozen? p = false) (hq : w.cell? q = some .nilIface) (hz2 : w.frozen? q = false) (hne : p.block ≠ q.block) :
    CallsD Tryd.prog 47 #[.pointer (some p), .pointer (some q)] (.panicking ({ v := .iface 60 (.int .i64 6), recovered := false } :: older)) w fun e u' w' =>
      e = .returned (.tuple #[]) ∧ u' = .panicking ({ v := .iface 60 (.int .i64 6), recovered := true } :: older) ∧ w' = (w.setCell p (.int .i64 0)).setCell q (.iface 60 (.int .i64 6)) := by
  refine callsD_of_wpS Tryd.func47 rfl fun c₀ cs hu => ?_
  apply wpS_seq
  apply wpS_region
  simp [wpOpsS, go_sem, recoverD, hu, Tryd.ntmps47, Exit.thenS]
  refine wpS_of_wp ?_
  simp only [Array.replicate_succ,
     Array.replicate_zero, List.push_toArray, List.append_toArray, List.nil_append, List.cons_append, List.setIfInBounds_toArray, List.set_cons_zero, List.set_cons_succ]
  have assertE : ∀ (W : World) (xT : TypeId) (v : Value), (Instr.typeAssert (.iface 60 v) xT 60 true).run Tryd.prog W = .ok (.tuple #[v, .bool true]) W := fun W xT v => by kernel_rfl
  have hq3 : (w.setCell p (.int .i64 0)).cell? q = some .nilIface := (World.cell?_of_block (w := w) (Below.heap_setCell _ _ _ _ hne.symm)).trans hq
  have hz3 : (w.setCell p (.int .i64 0)).frozen? q = false := (World.frozen?_of_block (w := w) (Below.heap_setCell _ _ _ _ hne.symm)).trans hz2
  go_wp2_with fail
  clear hc hz hq hz2 hne assertE hq3 hz3
  cases c₀
  simp_all [bodyPostS, results, Tryd.results47]
end Go.Proofs.YtopehfmppfibhaaDoor
