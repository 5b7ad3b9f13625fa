/- The fact of this chapter's laws: just. What they post. No conditions. -/
import Derived.Test.YtopehfmppfibhaaDoorGme
import Derived.Deep.QuietTactic
import Derived.BigQuiet
namespace Go.Proofs.YtopehfmppfibhaaDoor
open Go.RowKit Go.Deep
def LawPost (W : World) (e : Ending) (w' : World) : Prop := e = .returned (.bool true) ∧ Below W.heap.size W w'
set_option maxHeartbeats 400000 in
theorem count_just (n : Int) (w : World) : Calls Tryd.prog 35 #[.agg #[.int .i64 1, .int .i64 n, .int .i64 0, .slice none 0 0]] w fun e w' => e = .returned (.int .i64 1) ∧ Below w.heap.size w w' := by
  go_enter Tryd.func35, Tryd.ntmps35
  go_wp2_with fail
  go_ret
  exact ⟨rfl, (Below.refl _ _).alloc (Nat.le_refl _) _⟩
theorem just_chk : chkG (.mk 1 0 0 []) = 0 := by decide
set_option maxHeartbeats 400000 in
theorem Count_just (w : World) : Calls Tryd.prog 18 #[.agg #[.int .i64 1, .int .i64 0, .int .i64 0, .slice none 0 0]] w fun e w' => e = .returned (.tuple #[.int .i64 1, .nilIface]) ∧ Below w.heap.size w w' := by
  have B0 : Hid (Below w.heap.size w (w.alloc (.cells #[.int .i64 1, .int .i64 0, .int .i64 0, .slice none 0 0] 24))) := (Below.refl _ _).alloc (Nat.le_refl _) _
  have X0 := hid (Has.new w (.cells #[.int .i64 1, .int .i64 0, .int .i64 0, .slice none 0 0] 24))
  go_enter Tryd.func18, Tryd.ntmps18
  go_wp2_with fail
  refine (gcheck_any (.mk 1 0 0 []) (fun _ => False) _ _ _ _ _ (fun b hb => hb.elim) (ge_leaf (by decide) (by decide) (by decide))).mono ?_
  rintro e w1 ⟨rfl, hb1⟩
  rw [just_chk, errV_0]
  have B1 := hid (B0.out.trans (hb1.mono (by simp)))
  have X1 := Has.below X0.out hb1 (by simp)
  have x0 := Has.cell X1 0
  have x1 := Has.cell X1 1
  have x2 := Has.cell X1 2
  have x3 := Has.cell X1 3
  simp at x0 x1 x2 x3
  clear hb1 X1
  go_wp2_with fail
  refine (count_just 0 w1).mono ?_
  rintro e w2 ⟨rfl, hb2⟩
  have B2 := hid (B1.out.trans (hb2.mono B1.out.size))
  clear hb2
  go_wp2_with fail
  go_ret2
  exact ⟨rfl, B2.out⟩
set_option maxHeartbeats 400000 in
theorem just_any (w : World) : Calls Tryd.prog 24 #[] w fun e w' => e = .returned (.bool true) ∧ Below w.heap.size w w' := by
  go_enter Tryd.func24, Tryd.ntmps24
  go_wp2_with fail
  refine (Count_just w).mono ?_
  rintro e w1 ⟨rfl, hb1⟩
  have B1 := hid hb1
  clear hb1
  go_wp2_with fail
  go_ret
  exact ⟨rfl, B1.out⟩
end Go.Proofs.YtopehfmppfibhaaDoor
