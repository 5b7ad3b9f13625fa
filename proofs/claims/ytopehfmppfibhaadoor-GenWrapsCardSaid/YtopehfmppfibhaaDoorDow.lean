/- What the rows' listed tables and errors.errorType give a walk, and a world that meets the condition. No conditions. -/
import Derived.Test.YtopehfmppfibhaaDoorCards
import Derived.Test.YtopehfmppfibhaaDoorVtt
import Derived.Test.YtopehfmppfibhaaDoorAsg
import Derived.ChangeArms
import Derived.DataReads
import Derived.LaidLaws
import Derived.LaidMore
import Derived.Stop.LaidErr
import Derived.MakeChecks
import Derived.LaidHandle
import Derived.Stop.Joined
import Derived.ChangeVars
import Derived.JoinedOf
namespace Go.Proofs.YtopehfmppfibhaaDoor
open Go.RowKit
theorem Tab.below {w w' : World} (h : Tab w) (h0 : 2 < w.heap.size) (hb : Below w.heap.size w w') : Tab w' := by
  unfold Tab Lib.TabIs World.var? at h ⊢
  rw [show Tryd.prog.globalNamed "internal/strconv.uint64pow10" = some 2 by kernel_rfl] at h ⊢
  simp only [Option.bind_some] at h ⊢
  rw [hb.block 2 h0]
  exact h
theorem tabs_of_laid {W : World} (h : laidMetH Tryd.prog [("math/bits.deBruijn32tab", Rows.laid_math_bits_deBruijn32tab), ("math/bits.deBruijn64tab", Rows.laid_math_bits_deBruijn64tab), ("internal/strconv.uint64pow10", Rows.laid_internal_strconv_uint64pow10)] W) : Tab W ∧ 2 < W.heap.size := by
  have h' : laidMet Tryd.prog [("math/bits.deBruijn32tab", Rows.laid_math_bits_deBruijn32tab), ("math/bits.deBruijn64tab", Rows.laid_math_bits_deBruijn64tab), ("internal/strconv.uint64pow10", Rows.laid_internal_strconv_uint64pow10)] W := h
  obtain ⟨ps, ⟨g1, t1, cs1, f1, p1, q1, _, _, _, _, ⟨g2, t2, cs2, f2, p2, q2, _, _, _, _, ⟨g, t, cs, fuel, p, q, hg, ht, hvar, hd, _, _⟩, _⟩, _⟩, _⟩ := h'
  have eg : g = 2 := Option.some.inj (hg.symm.trans (by kernel_rfl))
  subst eg
  have et : t = 142 := Option.some.inj (ht.symm.trans (by kernel_rfl))
  subst et
  have hT : Tab W := by
    unfold Tab Lib.TabIs
    rw [hvar]
    have e : cs.toList = Lib.pow10Tab.map fun z => Value.int .u64 z := Lib.cells_of_tab (enc := fun _ => ()) (n := 20) (e := 135) Tryd.underlying142 Tryd.underlying135 (by kernel_rfl) (by kernel_rfl) (h := by
      rw [hd]; rfl)
    rw [← e]
  exact ⟨hT, by
    have := World.var?_cell (show Tryd.prog.globalNamed "internal/strconv.uint64pow10" = some 2 by kernel_rfl) hT 0
    have hc : W.cell? ⟨2, 0, none⟩ = some (.int .u64 1) := this.trans (by kernel_rfl)
    exact cell_lt (p := ⟨2, 0, none⟩) hc⟩
theorem gEt : Tryd.prog.globalNamed "errors.errorType" = some 0 := by kernel_rfl
theorem gRt : (Tryd.prog.cutTypes.find? (·.1 == "internal/reflectlite.rtype")).map (·.2) = some 121 := by kernel_rfl
theorem gOneRow : ((List.range 177).filter fun t => Tryd.prog.rowNamed t [101, 114, 114, 111, 114]) = [29] := by kernel_rfl
theorem gSize : Tryd.prog.types.size = 177 := by kernel_rfl
theorem handle_of_laid {W : World} (h : laidMetH Tryd.prog [("math/bits.deBruijn32tab", Rows.laid_math_bits_deBruijn32tab), ("math/bits.deBruijn64tab", Rows.laid_math_bits_deBruijn64tab), ("internal/strconv.uint64pow10", Rows.laid_internal_strconv_uint64pow10), ("errors.errorType", Rows.laid_errors_errorType)] W) : (∀ w', Below W.heap.size W w' → Tab w') ∧ Laid W := by
  have h' : laidMet Tryd.prog [("math/bits.deBruijn32tab", Rows.laid_math_bits_deBruijn32tab), ("math/bits.deBruijn64tab", Rows.laid_math_bits_deBruijn64tab), ("internal/strconv.uint64pow10", Rows.laid_internal_strconv_uint64pow10)] W ∧ handlesMet Tryd.prog [("errors.errorType", Rows.laid_errors_errorType)] W := h
  have ht : laidMetH Tryd.prog [("math/bits.deBruijn32tab", Rows.laid_math_bits_deBruijn32tab), ("math/bits.deBruijn64tab", Rows.laid_math_bits_deBruijn64tab), ("internal/strconv.uint64pow10", Rows.laid_internal_strconv_uint64pow10)] W := h'.1
  refine ⟨fun _ hb => (tabs_of_laid ht).1.below (tabs_of_laid ht).2 hb, ?_⟩
  obtain ⟨name, u, ty, e1, e2, e3, e4, e5⟩ := h'.2 _ (List.mem_singleton.2 rfl)
  have en : name = [101, 114, 114, 111, 114] := (Option.some.inj e1).symm
  subst en
  obtain rfl := Option.some.inj (gRt.symm.trans e2)
  have hm : ty ∈ (List.range 177).filter fun t => Tryd.prog.rowNamed t [101, 114, 114, 111, 114] := List.mem_filter.2 ⟨List.mem_range.2 (by rw [← gSize]; exact e3), e4⟩
  rw [gOneRow] at hm
  obtain rfl := List.mem_singleton.1 hm
  have hh : typeHandle Tryd.prog 29 = .pointer (some ⟨6, 29, none⟩) := by kernel_rfl
  rw [hh] at e5
  have := World.var?_cell gEt e5 0
  unfold Laid
  simpa using this
noncomputable def laidWorld (os : Os) : World :=
  let w0 := World.doorLaid Tryd.prog 400 os
  { w0 with heap := w0.heap.modify 0 fun
      | .cells _ t frozen => .cells #[.iface 121 (.agg #[.pointer (some ⟨6, 29, none⟩)])] t frozen
      | o => o }
theorem laidWorld_met (os : Os) (args : Array Value) : laidMetH Tryd.prog [("math/bits.deBruijn32tab", Rows.laid_math_bits_deBruijn32tab), ("math/bits.deBruijn64tab", Rows.laid_math_bits_deBruijn64tab), ("internal/strconv.uint64pow10", Rows.laid_internal_strconv_uint64pow10), ("errors.errorType", Rows.laid_errors_errorType)] ((laidWorld os).forCall (fun _ _ => 0) ⟨#[], args, []⟩).memory :=
  laidMetH_of_parts3 (fuel := 8) (laidMet_of_run' 8 (by kernel_rfl) (by kernel_rfl)) (by kernel_rfl) (by kernel_rfl)
end Go.Proofs.YtopehfmppfibhaaDoor
