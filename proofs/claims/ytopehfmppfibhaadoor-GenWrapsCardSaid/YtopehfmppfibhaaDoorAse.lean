/- What the statements' own Error returns of an error by its number. Condition: the variable errors.errorType holds its handle. -/
import Derived.Test.YtopehfmppfibhaaDoorAsg
namespace Go.Proofs.YtopehfmppfibhaaDoor
open Go.RowKit
set_option maxHeartbeats 400000 in
theorem serror_any (c d : Int) (w : World) (hg : Laid w) : Calls Tryd.prog 25 #[errV c, .int .i64 d] w fun e w' => e = .returned (.bool (decide (c = d))) ∧ Below w.heap.size w w' := by
  have HG := hid hg
  clear hg
  have E : Hid ((c == d) = decide (c = d)) := by show _ = _; rw [Bool.eq_iff_iff]; simp
  generalize hv : errV c = v
  have HV := hid hv
  clear hv
  go_enter Tryd.func25, Tryd.ntmps25
  go_wp2_with fail
  rw [← HV.out]
  refine (ptold_any c _ HG.out).mono ?_
  rintro e w1 ⟨rfl, hb⟩
  have B1 := hid hb
  clear hb
  go_wp2_with fail
  go_ret
  exact ⟨by rw [← E.out]; rfl, B1.out⟩
end Go.Proofs.YtopehfmppfibhaaDoor
