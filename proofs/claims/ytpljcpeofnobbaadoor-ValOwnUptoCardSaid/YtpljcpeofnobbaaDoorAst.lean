/- What the statements' own Told returns of two errors by their numbers. Condition: the variable errors.errorType holds its handle. -/
import Derived.Test.YtpljcpeofnobbaaDoorAsg
namespace Go.Proofs.YtpljcpeofnobbaaDoor
open Go.RowKit
set_option maxHeartbeats 400000 in
theorem stold_any (c d : Int) (w : World) (hg : Laid w) : Calls Tryd.prog 9 #[errV c, errV d] w fun e w' => e = .returned (.bool (decide (c = d))) ∧ Below w.heap.size w w' := by
  have HG := hid hg
  clear hg
  have E : Hid ((c == d) = decide (c = d)) := by show _ = _; rw [Bool.eq_iff_iff]; simp
  generalize hv : errV c = v
  generalize hu : errV d = u
  have HV := hid hv
  have HU := hid hu
  clear hv hu
  go_enter Tryd.func9, Tryd.ntmps9
  go_wp2_with fail
  rw [← HV.out]
  refine (ptold_any c _ HG.out).mono ?_
  rintro e w1 ⟨rfl, hb⟩
  have B1 := hid hb
  clear hb
  go_wp2_with fail
  rw [← HU.out]
  refine (ptold_any d _ (HG.out.below B1.out)).mono ?_
  rintro e w2 ⟨rfl, hb⟩
  have B2 := hid (B1.out.trans (hb.mono B1.out.size))
  clear hb
  go_wp2_with fail
  go_ret
  exact ⟨by rw [← E.out]; rfl, B2.out⟩
end Go.Proofs.YtpljcpeofnobbaaDoor
