/- What the rows' listed tables give a walk, and a world that meets the condition. No conditions. -/
import Derived.Test.YtfajdjbminkllaaDoorCards
import Derived.Test.YtfajdjbminkllaaDoorTlw
import Derived.LaidLaws
import Derived.LaidMore
import Derived.Stop.LaidErr
import Derived.MakeChecks
import Derived.LaidHandle
import Derived.Stop.Joined
import Derived.ChangeVars
import Derived.JoinedOf
namespace Go.Proofs.YtfajdjbminkllaaDoor
open Go.RowKit
theorem handle_of_laid {W : World} (h : laidMetH Tryd.prog [("math/bits.deBruijn32tab", Rows.laid_math_bits_deBruijn32tab), ("math/bits.deBruijn64tab", Rows.laid_math_bits_deBruijn64tab), ("internal/strconv.uint64pow10", Rows.laid_internal_strconv_uint64pow10)] W) : Tab W ∧ 0 < W.heap.size := by
  have h' : laidMet Tryd.prog [("math/bits.deBruijn32tab", Rows.laid_math_bits_deBruijn32tab), ("math/bits.deBruijn64tab", Rows.laid_math_bits_deBruijn64tab), ("internal/strconv.uint64pow10", Rows.laid_internal_strconv_uint64pow10)] W := h
  obtain ⟨ps, ⟨g1, t1, cs1, f1, p1, q1, _, _, _, _, ⟨g2, t2, cs2, f2, p2, q2, _, _, _, _, ⟨g, t, cs, fuel, p, q, hg, ht, hvar, hd, _, _⟩, _⟩, _⟩, _⟩ := h'
  have eg : g = 0 := Option.some.inj (hg.symm.trans (by kernel_rfl))
  subst eg
  have et : t = 54 := Option.some.inj (ht.symm.trans (by kernel_rfl))
  subst et
  have hT : Tab W := by
    unfold Tab Lib.TabIs
    rw [hvar]
    have e : cs.toList = Lib.pow10Tab.map fun z => Value.int .u64 z := Lib.cells_of_tab (enc := fun _ => ()) (n := 20) (e := 44) Tryd.underlying54 Tryd.underlying44 (by kernel_rfl) (by kernel_rfl) (h := by
      rw [hd]; rfl)
    rw [← e]
  exact ⟨hT, by
    have := World.var?_cell (show Tryd.prog.globalNamed "internal/strconv.uint64pow10" = some 0 by kernel_rfl) hT 0
    have hc : W.cell? ⟨0, 0, none⟩ = some (.int .u64 1) := this.trans (by kernel_rfl)
    exact cell_lt (p := ⟨0, 0, none⟩) hc⟩
noncomputable def laidWorld (os : Os) : World := World.doorLaid Tryd.prog 200 os
theorem laidWorld_met (os : Os) (args : Array Value) : laidMetH Tryd.prog [("math/bits.deBruijn32tab", Rows.laid_math_bits_deBruijn32tab), ("math/bits.deBruijn64tab", Rows.laid_math_bits_deBruijn64tab), ("internal/strconv.uint64pow10", Rows.laid_internal_strconv_uint64pow10)] ((laidWorld os).forCall (fun _ _ => 0) ⟨#[], args, []⟩).memory :=
  laidMet_of_run' 8 (by kernel_rfl) (by kernel_rfl)
end Go.Proofs.YtfajdjbminkllaaDoor
