/- What the rows' listed tables give a walk, and a world that meets the condition. No conditions. -/
import Derived.Test.YtopehfmppfibhaaDoorCards
import Derived.Test.YtopehfmppfibhaaDoorVtt
import Derived.LaidLaws
import Derived.LaidMore
import Derived.Stop.LaidErr
import Derived.MakeChecks
import Derived.LaidHandle
import Derived.Stop.Joined
import Derived.ChangeVars
import Derived.JoinedOf
namespace Go.Proofs.YtopehfmppfibhaaDoor
open Go.RowKit
theorem Tab.below {w w' : World} (h : Tab w) (h0 : 2 < w.heap.size) (hb : Below w.heap.size w w') : Tab w' := by
  unfold Tab Lib.TabIs World.var? at h ⊢
  rw [show Tryd.prog.globalNamed "internal/strconv.uint64pow10" = some 2 by kernel_rfl] at h ⊢
  simp only [Option.bind_some] at h ⊢
  rw [hb.block 2 h0]
  exact h
theorem tabs_of_laid {W : World} (h : laidMetH Tryd.prog [("math/bits.deBruijn32tab", Rows.laid_math_bits_deBruijn32tab), ("math/bits.deBruijn64tab", Rows.laid_math_bits_deBruijn64tab), ("internal/strconv.uint64pow10", Rows.laid_internal_strconv_uint64pow10)] W) : Tab W ∧ 2 < W.heap.size := by
  have h' : laidMet Tryd.prog [("math/bits.deBruijn32tab", Rows.laid_math_bits_deBruijn32tab), ("math/bits.deBruijn64tab", Rows.laid_math_bits_deBruijn64tab), ("internal/strconv.uint64pow10", Rows.laid_internal_strconv_uint64pow10)] W := h
  obtain ⟨ps, ⟨g1, t1, cs1, f1, p1, q1, _, _, _, _, ⟨g2, t2, cs2, f2, p2, q2, _, _, _, _, ⟨g, t, cs, fuel, p, q, hg, ht, hvar, hd, _, _⟩, _⟩, _⟩, _⟩ := h'
  have eg : g = 2 := Option.some.inj (hg.symm.trans (by kernel_rfl))
  subst eg
  have et : t = 142 := Option.some.inj (ht.symm.trans (by kernel_rfl))
  subst et
  have hT : Tab W := by
    unfold Tab Lib.TabIs
    rw [hvar]
    have e : cs.toList = Lib.pow10Tab.map fun z => Value.int .u64 z := Lib.cells_of_tab (enc := fun _ => ()) (n := 20) (e := 135) Tryd.underlying142 Tryd.underlying135 (by kernel_rfl) (by kernel_rfl) (h := by
      rw [hd]; rfl)
    rw [← e]
  exact ⟨hT, by
    have := World.var?_cell (show Tryd.prog.globalNamed "internal/strconv.uint64pow10" = some 2 by kernel_rfl) hT 0
    have hc : W.cell? ⟨2, 0, none⟩ = some (.int .u64 1) := this.trans (by kernel_rfl)
    exact cell_lt (p := ⟨2, 0, none⟩) hc⟩
theorem handle_of_laid {W : World} (h : laidMetH Tryd.prog [("math/bits.deBruijn32tab", Rows.laid_math_bits_deBruijn32tab), ("math/bits.deBruijn64tab", Rows.laid_math_bits_deBruijn64tab), ("internal/strconv.uint64pow10", Rows.laid_internal_strconv_uint64pow10)] W) : ∀ w', Below W.heap.size W w' → Tab w' := fun _ hb => (tabs_of_laid h).1.below (tabs_of_laid h).2 hb
noncomputable def laidWorld (os : Os) : World := World.doorLaid Tryd.prog 200 os
theorem laidWorld_met (os : Os) (args : Array Value) : laidMetH Tryd.prog [("math/bits.deBruijn32tab", Rows.laid_math_bits_deBruijn32tab), ("math/bits.deBruijn64tab", Rows.laid_math_bits_deBruijn64tab), ("internal/strconv.uint64pow10", Rows.laid_internal_strconv_uint64pow10)] ((laidWorld os).forCall (fun _ _ => 0) ⟨#[], args, []⟩).memory :=
  laidMet_of_run' 8 (by kernel_rfl) (by kernel_rfl)
end Go.Proofs.YtopehfmppfibhaaDoor
