/- What cond.Tests returns of whatever it is asked; of one condition. No conditions. -/
import Derived.Test.YtmhledlcfbjfkaaDoorCdj
namespace Go.Proofs.YtmhledlcfbjfkaaDoor
open Go.RowKit Go.Deep Go.Lib
set_option maxRecDepth 100000 in
set_option maxHeartbeats 1000000 in
theorem Tests_any (n : Int) (f : List Bool) (F : Nat → Prop) (fv : Value) (w : World) (hF : ∀ b, F b → b < w.heap.size) (hf : BoolsIn F w fv f) :
    Calls Tryd.prog 5 #[.int .i64 n, fv] w (TestsPost n f w) := by
  by_cases hc : chkC n f = 0
  · obtain ⟨N, rfl, h1N, hN, hl⟩ := chkC_ok hc
    refine (tests_good N f F fv w hF hf h1N hN hl).mono ?_
    rintro e w' ⟨v, rfl, ho, hb⟩
    have e : testsR (N : Int) f = testsF N f := by unfold testsR; rw [if_pos hc, Int.toNat_natCast]
    exact ⟨v, by rw [hc]; rfl, by rw [e]; exact ho, hb⟩
  · have CK := hid (ccheck_any n f F fv w hf)
    have EV := hid (errV_no hc)
    have TE : Hid (testsR n f = []) := by show _ = _; unfold testsR; rw [if_neg hc]
    obtain ⟨Af, cf, rfl, _, _, _⟩ := hf
    have fin : Hid (∀ e w', e = .returned (.tuple #[.slice none 0 0, errV (chkC n f)]) → w' = w → TestsPost n f w e w') := fun e w' h1 h2 => by
      subst h1 h2
      exact ⟨_, rfl, by rw [TE.out]; exact World.ownsRow_nil _ _ _ _, Below.refl _ _⟩
    generalize chkC n f = cc at *
    clear hF hc TE
    go_enter Tryd.func5, Tryd.ntmps5
    go_wp2_with fail
    refine CK.out.mono ?_
    rintro e w1 ⟨rfl, rfl⟩
    rw [EV.out]
    go_wp2_with fail
    go_ret2
    exact fin.out _ _ (by rw [EV.out]; rfl) rfl
theorem two_tests : (testsR 1 [false, true]).length = 2 ∧ chkC 1 [false, true] = 0 := by
  have hc : chkC 1 [false, true] = 0 := by decide
  refine ⟨?_, hc⟩
  have e : testsR 1 [false, true] = testsF 1 [false, true] := by unfold testsR; rw [if_pos hc]; rfl
  rw [e]
  have hp : out0 [false, true] 1 = [0, 1] := by decide
  unfold testsF
  rw [hp]
  have hs : srt [0, 1] = [0, 1] := by unfold srt; first | rfl | simp [List.mergeSort, List.MergeSort.Internal.splitInTwo, List.merge] | exact List.mergeSort_of_pairwise (by simp)
  rw [hs]
  decide +kernel
end Go.Proofs.YtmhledlcfbjfkaaDoor
